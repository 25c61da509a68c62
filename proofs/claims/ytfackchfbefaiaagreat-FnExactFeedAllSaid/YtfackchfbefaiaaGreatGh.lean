import Derived.Test.YtfackchfbefaiaaGreatGe
import Derived.Test.YtfackchfbefaiaaGreatGg
set_option maxRecDepth 100000
set_option linter.unusedSimpArgs false
set_option linter.unusedVariables false
namespace Go.Eng.F
def dO:Bytes→Nat
 | []=>0
 |x::r=>x.toNat+256 * dO r
theorem sS:∀(b:Bytes),dO b < 256 ^ b.length
 | []=>by simp[dO]
 |x::r=>by
  have h:=sS r
  have hx:=yf x
  simp only[dO,List.length_cons,Nat.pow_succ]
  omega
theorem AW (x:UInt8):∀(b:Bytes),dO (b++ [x])=dO b+x.toNat * 256 ^ b.length
 | []=>by simp[dO]
 |y::b=>by
  have h:=AW x b
  simp only[List.cons_append,dO,List.length_cons,Nat.pow_succ,h]
  have:256 * (dO b+x.toNat * 256 ^ b.length)=256 * dO b+x.toNat * (256 ^ b.length * 256):=by
   rw[Nat.mul_add,Nat.mul_left_comm,Nat.mul_comm 256 (256 ^ b.length)]
  omega
theorem Pa (k:Nat):(256:Nat) ^ k=2 ^ (8 * k):=by rw[Nat.pow_mul]
theorem Of {a b k:Nat} (ha:a < 2 ^ k) (hk:2 ^ k∣ b) (hb:b < 2 ^ 56) (hk2:k≤56):aH .or .i64 (a:Int) (b:Int)=((a+b:Nat):Int):=by
 have h2:(2:Nat) ^ k≤2 ^ 56:=Nat.pow_le_pow_right (by omega) hk2
 show IntKind.i64.wrap ((BitVec.ofInt 64 (a:Int)|||BitVec.ofInt 64 (b:Int)).toNat:Int)=_
 rw[BitVec.toNat_or,show BitVec.ofInt 64 (a:Int)=BitVec.ofNat 64 a from rfl,show BitVec.ofInt 64 (b:Int)=BitVec.ofNat 64 b from rfl,BitVec.toNat_ofNat,BitVec.toNat_ofNat,Nat.mod_eq_of_lt (by omega),Nat.mod_eq_of_lt (by omega)]
 obtain⟨q,rfl⟩:=hk
 rw[Nat.or_comm,←Nat.two_pow_add_eq_or_of_lt ha,Nat.add_comm]
 exact aN (by omega) (by omega)
abbrev jt:Nat:=194
def jx:AF:=⟨3,6,[.tmp 6, .tmp 7, .tmp 8],(.seq (.ops [.i (.mov 6 (.c (.val false [.nils]))), .i (.mov 7 (qi 0)), .i (.mov 8 (qi 0))]) (.seq (.seq (.ops [qm 9 1,qm 10 0,qn 11 10, .i (.call 13 103 false [(.s 9),(qi 0),(.s 11)]), .i (.not 13 (.s 12)),qm 14 13, .g 14 false 16 (.mov 15 (.s 2)), .g 14 false 17 (.mov 16 (.s 0)), .g 14 false 18 (.len 17 false (.s 16)), .g 14 false 19 (.mov 18 (.s 1)), .g 14 false 20 (.bin 19 .sub (.s 17) (.s 18)), .g 14 false 21 (.call 21 103 false [(.s 15),(qi 0),(.s 19)]), .g 14 false 22 (.not 21 (.s 20)), .i (.pick 22 (.s 14) (qb true) (.s 21))]) (.cond (.s 22) (.seq (.ops [.i (.mov 6 (.c (.val false [.nils]))), .i (.mov 7 (qi 0)), .i (.mov 8 (qi 1))]) .ret) .skip)) (.seq (.ops [qm 23 0,qm 24 1,qm 25 1,qm 26 2,qd 27 .add 25 26, .i (.fb 28 1 (.s 23) (some (.s 24)) (some (.s 27))),qk 30 47 28,qm 30 1,qm 31 2,qd 32 .add 30 31,qm 6 29,qm 7 32, .i (.mov 8 (qi 0))]) .ret)))⟩
theorem re:cd jt=some jx:=by kernel_rfl
theorem nB (b:Bytes) (a n:Nat) (h:a+n≤b.length) (hb:b.length≤1073741824):VC cd jt (bJ [(false,[.sl (bytes b)]),(false,[.int .i64 (a:Int)]),(false,[.int .i64 (n:Int)])]) (fun rs _=>rs= [(false,[.o true (some (5,1)) (bytes ((b.drop a).take n))]),(false,[.p (.int .i64 ((a+n:Nat):Int))]),(false,[.p (.int .i64 0)])]):=by
 have e1:dR (a:Int) 0 (b.length:Int)=true:=by simp[dR];omega
 have e2:dR (n:Int) 0 ((b.length:Int) - (a:Int))=true:=by simp[dR];omega
 have e3:((bytes b).drop a).take n=bytes ((b.drop a).take n):=by simp[bytes]
 have e4:((a:Int)+(n:Int) - (a:Int)).toNat=n:=by omega
 have e5:(a:Int)+(n:Int)≤(b.length:Int):=by omega
 have e6:(a:Int)≤(a:Int)+(n:Int):=by omega
 refine aa re rfl ?_
 simp(disch:=omega) [jx,VY]
 refine an (bA _ _ _) rfl rfl ?_
 simp(disch:=omega) [e1,VY]
 refine an (bA _ _ _) rfl rfl ?_
 simp(disch:=omega) [e2,e3,e4,e5,e6,VY]
 refine cp (eQ ((b.drop a).take n) (by simp;omega)) ?_
 simp(disch:=omega) [VY]
theorem xc {b:Bytes} {a w:Nat} (h:a+w≤b.length):((b.drop a).take w).length=w:=by simp;omega
theorem LI {b:Bytes} {a w i:Nat} (h:a+w≤b.length) (hi:i < w):((b.drop a).take w)[i]'(by simp;omega)=b[a+i]:=by simp
abbrev pS:Nat:=133
def pO:AF:=⟨3,6,[.tmp 6, .tmp 7, .tmp 8],(.seq (.ops [.i (.mov 6 (qi 0)), .i (.mov 7 (qi 0)), .i (.mov 8 (qi 0))]) (.seq (.seq (.ops [qm 15 2, .i (.call 17 103 false [(.s 15),(qi 1),(qi 7)]), .i (.not 17 (.s 16))]) (.cond (.s 17) (.seq (.ops [.i (.mov 6 (qi 0)), .i (.mov 7 (qi 0)), .i (.mov 8 (qi 5))]) .ret) .skip)) (.seq (.ops [qm 19 0,qm 20 1,qm 21 2, .i (.call 23 194 false [(.s 19),(.s 20),(.s 21)]),qm 18 22, .i (.ext 23 (.s 18) 0), .i (.ext 24 (.s 18) 1), .i (.ext 25 (.s 18) 2),qm 9 23,qm 10 24,qm 11 25]) (.seq (.ops [.i (.mov 12 (qi 0))]) (.seq (.seq (.ops [qm 26 9,qn 27 26, .i (.mov 28 (qi 0))]) (.block 0 (.loop [40,39,38,37,36,35,34,33,32,31,30,29,14,13] (.seq (.ops [qd 29 .lss 28 27]) (.seq (.cond (.s 29) .skip (.exit 0)) (.seq (.block 1 (.seq (.ops [qm 30 28, .i (.iad 31 (.s 26) (.s 28) 1), .i (.ldh 32 (.s 31) 1 false),qm 13 30,qm 14 32]) (.ops [qm 33 12,qm 34 14, .i (.cvi 35 .i64 (.s 34)),qm 36 13, .i (.bin 37 .mul (qi 8) (.s 36)),qd 38 .shl 35 37,qd 39 .or 33 38,qm 12 39]))) (.ops [.i (.bin 40 .add (.s 28) (qi 1)),qm 28 40]))))))) (.seq (.ops [qm 41 12,qm 42 10,qm 43 11,qm 6 41,qm 7 42,qm 8 43]) .ret))))))⟩
theorem zr:cd pS=some pO:=by kernel_rfl
theorem nk (b:Bytes) (a w:Nat) (h:a+w≤b.length) (hw:1≤w∧w≤7) (hb:b.length≤1073741824):VC cd pS (bJ [(false,[.sl (bytes b)]),(false,[.int .i64 (a:Int)]),(false,[.int .i64 (w:Int)])]) (fun rs _=>rs= [(false,[.p (.int .i64 (dO ((b.drop a).take w):Int))]),(false,[.p (.int .i64 ((a+w:Nat):Int))]),(false,[.p (.int .i64 0)])]):=by
 have e1:dR (w:Int) 1 7=true:=by simp[dR];omega
 have hl:=xc h
 refine aa zr rfl ?_
 simp(disch:=omega) [pO,VY]
 refine an (bA _ _ _) rfl rfl ?_
 simp(disch:=omega) [e1,VY]
 refine an (nB b a w h hb) rfl rfl ?_
 simp(disch:=omega) [aS,hl,VY]
 generalize hx:(b.drop a).take w=x at *
 refine ed (σ:=Nat) (f1:=_) (es0:=_) (by simp(disch:=omega) [VY];rfl) (by simp(disch:=omega) [VY];rfl) (fun i=> [(12, .val false [.int .i64 (dO (x.take i):Int)]),(28, .val false [.int .i64 (i:Int)])]) (fun _=> []) (fun i g=>g+i=w) 0 w (by simp(disch:=omega) [dO,VY]) (by simp(disch:=omega) [VY]) (by omega) ?_
 rintro i n g hg P hP
 simp(disch:=omega) [VY]
 refine aj (fun h1=> ?_) (fun h1=> ?_)
 ·have hi:i < x.length:=by omega
  have hq:=yf x[i]
  have e2:=aN (n:=(x[i].toNat:Int)) (by omega) (by omega)
  have e3:¬(8:Int) * (i:Int) < 0:=by omega
  have e4:((8:Int) * (i:Int)).toNat=8 * i:=by omega
  have e5:min (8 * i) 64=8 * i:=by omega
  have hp:x[i].toNat * 2 ^ (8 * i) < 2 ^ 56:=by
   have:(2:Nat) ^ (8 * i)≤2 ^ 48:=Nat.pow_le_pow_right (by omega) (by omega)
   calc x[i].toNat * 2 ^ (8 * i)≤x[i].toNat * 2 ^ 48:=Nat.mul_le_mul_left _ this
    _ < 2 ^ 56:=by omega
  have e6:IntKind.i64.wrap ((x[i].toNat:Int) * 2 ^ (8 * i))=((x[i].toNat * 2 ^ (8 * i):Nat):Int):=by
   rw[show((x[i].toNat:Int) * 2 ^ (8 * i))=((x[i].toNat * 2 ^ (8 * i):Nat):Int)by simp]
   exact aN (by omega) (by omega)
  have hf:=sS (x.take i)
  rw[List.length_take,Nat.min_eq_left (by omega),Pa]at hf
  have e7:=Of hf (Nat.dvd_mul_left _ _) hp (by omega)
  have e8:dO (x.take (i+1))=dO (x.take i)+x[i].toNat * 2 ^ (8 * i):=by
   rw[List.take_add_one,List.getElem?_eq_getElem hi]
   show dO (x.take i++ [x[i]])=_
   rw[AW,List.length_take,Nat.min_eq_left (by omega),Pa]
  simp(disch:=omega) [bP hi,e2,e3,e4,e5,IntKind.bits,VY]
  rw[e6,e7,←e8]
  simp(disch:=omega) [VY]
  exact hP (i+1) (g - 1) _ _ (by omega) (by omega) (by simp(disch:=omega) [VY]) (by simp(disch:=omega) [VY])
 ·have:i=w:=by omega
  subst this
  rw[List.take_of_length_le (by omega)]
  simp(disch:=omega) [VY]
theorem HM {x:Bytes} {i:Nat} (h:i < x.length):dO (x.drop i)=x[i].toNat+256 * dO (x.drop (i+1)):=by
 rw[List.drop_eq_getElem_cons h]
 rfl
abbrev pZ:Nat:=68
def qx:AF:=⟨3,6,[.tmp 6, .tmp 7, .tmp 8],(.seq (.ops [.i (.mov 6 (qi 0)), .i (.mov 7 (qi 0)), .i (.mov 8 (qi 0))]) (.seq (.seq (.ops [qm 11 2, .i (.call 13 67 false [(.s 11),(qi 1),(qi 7)]), .i (.not 13 (.s 12))]) (.cond (.s 13) (.seq (.ops [.i (.mov 6 (qi 0)), .i (.mov 7 (qi 0)), .i (.mov 8 (qi 5))]) .ret) .skip)) (.seq (.seq (.ops [qm 14 1, .i (.bin 15 .lss (.s 14) (qi 0)),qm 16 15, .g 16 false 18 (.mov 17 (.s 1)), .g 16 false 19 (.mov 18 (.s 0)), .g 16 false 20 (.len 19 false (.s 18)), .g 16 false 21 (.mov 20 (.s 2)), .g 16 false 22 (.bin 21 .sub (.s 19) (.s 20)), .g 16 false 23 (.bin 22 .gtr (.s 17) (.s 21)), .i (.pick 23 (.s 16) (qb true) (.s 22))]) (.cond (.s 23) (.seq (.ops [.i (.mov 6 (qi 0)), .i (.mov 7 (qi 0)), .i (.mov 8 (qi 1))]) .ret) .skip)) (.seq (.ops [.i (.mov 9 (qi 0))]) (.seq (.seq (.ops [qm 24 2, .i (.bin 25 .sub (.s 24) (qi 1)),qm 10 25]) (.block 0 (.loop [39,38,37,36,35,34,33,32,31,30,29,28,27,26] (.seq (.seq (.ops [qm 26 10, .i (.bin 27 .geq (.s 26) (qi 0))]) (.cond (.s 27) .skip (.exit 0))) (.seq (.block 1 (.ops [qm 30 9, .i (.bin 31 .mul (.s 30) (qi 256)),qm 32 0,qm 33 1,qm 34 10,qd 35 .add 33 34, .i (.iad 36 (.s 32) (.s 35) 1), .i (.ldh 37 (.s 36) 1 false), .i (.cvi 38 .i64 (.s 37)),qd 39 .add 31 38,qm 9 39])) (.ops [qm 28 10, .i (.bin 29 .sub (.s 28) (qi 1)),qm 10 29])))))) (.seq (.ops [qm 40 9,qm 41 1,qm 42 2,qd 43 .add 41 42,qm 6 40,qm 7 43, .i (.mov 8 (qi 0))]) .ret))))))⟩
theorem zu:cd pZ=some qx:=by kernel_rfl
theorem oC (b:Bytes) (a w:Nat) (h:a+w≤b.length) (hw:1≤w∧w≤7) (hb:b.length≤1073741824):VC cd pZ (bJ [(false,[.sl (bytes b)]),(false,[.int .i64 (a:Int)]),(false,[.int .i64 (w:Int)])]) (fun rs _=>rs= [(false,[.p (.int .i64 (dO ((b.drop a).take w):Int))]),(false,[.p (.int .i64 ((a+w:Nat):Int))]),(false,[.p (.int .i64 0)])]):=by
 have e1:dR (w:Int) 1 7=true:=by simp[dR];omega
 have hl:=xc h
 refine aa zu rfl ?_
 simp(disch:=omega) [qx,VY]
 refine an (dN _ _ _) rfl rfl ?_
 simp(disch:=omega) [e1,VY]
 refine aj (fun h0=> ?_) (fun h0=> ?_)
 ·omega
 simp(disch:=omega) [h0,VY]
 refine aj (fun h0b=> ?_) (fun h0b=> ?_)
 ·omega
 simp(disch:=omega) [h0,h0b,VY]
 refine ed (σ:=Nat) (f1:=_) (es0:=_) (by simp(disch:=omega) [VY];rfl) (by simp(disch:=omega) [VY];rfl) (fun i=> [(9, .val false [.int .i64 (dO (((b.drop a).take w).drop (w - i)):Int)]),(10, .val false [.int .i64 ((w:Int) - 1 - (i:Int))])]) (fun _=> []) (fun i g=>g+i=w) 0 w (by simp(disch:=omega) [hl,dO,VY]) (by simp(disch:=omega) [VY]) (by omega) ?_
 rintro i n g hg P hP
 simp(disch:=omega) [VY]
 refine aj (fun h1=> ?_) (fun h1=> ?_)
 ·have hi:w - (i+1) < ((b.drop a).take w).length:=by omega
  have hd:=HM hi
  rw[LI h (by omega),show w - (i+1)+1=w - i by omega]at hd
  have hf:=sS (((b.drop a).take w).drop (w - i))
  have hf2:(256:Nat) ^ (((b.drop a).take w).drop (w - i)).length≤256 ^ 6:=Nat.pow_le_pow_right (by omega) (by rw[List.length_drop,hl];omega)
  have hq:=yf (b[a+(w - (i+1))]'(by omega))
  have e2:((a:Int)+((w:Int) - 1 - (i:Int))).toNat=a+(w - (i+1)):=by omega
  have e3:(0:Int)≤(a:Int)+((w:Int) - 1 - (i:Int)):=by omega
  have e4:=aN (n:=((b[a+(w - (i+1))]'(by omega)).toNat:Int)) (by omega) (by omega)
  have hj2:a+(w - (i+1)) < b.length:=by omega
  have e5:((dO (((b.drop a).take w).drop (w - (i+1))):Nat):Int)=(dO (((b.drop a).take w).drop (w - i)):Int) * 256+((b[a+(w - (i+1))]'(by omega)).toNat:Int):=by omega
  simp(disch:=omega) [e2,e3,bP hj2,e4,VY]
  exact hP (i+1) (g - 1) _ _ (by omega) (by omega) (by simp(disch:=omega) [e5,VY];omega) (by simp(disch:=omega) [VY])
 ·have:i=w:=by omega
  subst this
  simp(disch:=omega) [VY]
def rL (s:Bytes) (a:Nat):Nat:=dO ((s.drop (a+2)).take 2)
def F2 (s:Bytes) (a:Nat):Nat:=dO ((s.drop (a+4)).take 4)
def CS (s:Bytes) (a:Nat):Bytes:=(s.drop (a+8)).take (rL s a)
def aw (l:ao) (s:Bytes) (a:Nat):Int×Int:=
 if l.ok=true∧a < s.length then
  if(s.getD a 0).toNat=181 then
   if a+1 < s.length∧¬(s.getD (a+1) 0).toNat=70 then(0,0)else
   if s.length - a < 4 then(1,0)else if ¬dR (rL s a) 1 l.frame=true then(0,0)else if s.length - a < 8+rL s a then(1,8+rL s a)else if F2 s a=JA (CS s a)then(3,8+rL s a)else(2,8+rL s a)
  else(0,0)
 else(0,0)
def cw (p:Int×Int):List (Bool×List E):= [(false,[.p (.int .i64 p.1)]),(false,[.p (.int .i64 p.2)])]
abbrev mC:Nat:=80
def mZ:AF:=⟨3,7,[.tmp 6, .tmp 7],(.seq (.ops [.i (.lbox 3 (.s 0)), .i (.mov 6 (qi 0)), .i (.mov 7 (qi 0))]) (.seq (.seq (.ops [ql 15 3 3 5 true,qk 17 70 15, .i (.not 17 (.s 16)),qm 18 17, .g 18 false 20 (.mov 19 (.s 2)), .g 18 false 21 (.mov 20 (.s 1)), .g 18 false 22 (.len 21 false (.s 20)), .g 18 false 23 (.bin 22 .sub (.s 21) (qi 1)), .g 18 false 24 (.call 24 103 false [(.s 19),(qi 0),(.s 22)]), .g 18 false 25 (.not 24 (.s 23)), .i (.pick 25 (.s 18) (qb true) (.s 24)),qm 26 25, .g 26 false 28 (.mov 27 (.s 1)), .g 26 false 29 (.mov 28 (.s 2)), .g 26 false 30 (.iad 29 (.s 27) (.s 28) 1), .g 26 false 31 (.ldh 30 (.s 29) 1 false), .g 26 false 32 (.bin 31 .neq (.s 30) (.c (.val false [.int .u8 181]))), .i (.pick 32 (.s 26) (qb true) (.s 31)),qm 33 32, .g 33 false 35 (.mov 34 (.s 1)), .g 33 false 36 (.len 35 false (.s 34)), .g 33 false 37 (.mov 36 (.s 2)), .g 33 false 38 (.bin 37 .sub (.s 35) (.s 36)), .g 33 false 39 (.bin 38 .gtr (.s 37) (qi 1)), .g 33 false 40 (.mov 39 (.s 38)), .g 39 true 41 (.mov 40 (.s 1)), .g 39 true 42 (.mov 41 (.s 2)), .g 39 true 43 (.bin 42 .add (.s 41) (qi 1)), .g 39 true 44 (.iad 43 (.s 40) (.s 42) 1), .g 39 true 45 (.ldh 44 (.s 43) 1 false), .g 39 true 46 (.bin 45 .neq (.s 44) (.c (.val false [.int .u8 70]))), .g 33 false 47 (.pick 46 (.s 39) (.s 45) (qb false)), .i (.pick 47 (.s 33) (qb true) (.s 46))]) (.cond (.s 47) (.seq (.ops [.i (.mov 6 (qi 0)), .i (.mov 7 (qi 0))]) .ret) .skip)) (.seq (.ops [qm 48 1,qn 49 48,qm 50 2,qd 51 .sub 49 50,qm 8 51]) (.seq (.seq (.ops [qm 52 8, .i (.bin 53 .lss (.s 52) (qi 4))]) (.cond (.s 53) (.seq (.ops [.i (.mov 6 (qi 1)), .i (.mov 7 (qi 0))]) .ret) .skip)) (.seq (.ops [qm 55 1,qm 56 2, .i (.bin 57 .add (.s 56) (qi 2)), .i (.call 59 133 false [(.s 55),(.s 57),(qi 2)]),qm 54 58, .i (.ext 59 (.s 54) 0), .i (.ext 60 (.s 54) 1), .i (.ext 61 (.s 54) 2),qm 9 59,qm 10 60,qm 11 61]) (.seq (.block 0 (.seq (.ops [qm 63 9,qf 64 3 3,ql 65 3 64 1 false, .i (.call 67 103 false [(.s 63),(qi 1),(.s 65)]), .i (.not 67 (.s 66)),qm 62 67]) (.cond (.s 62) (.seq (.ops [.i (.mov 6 (qi 0)), .i (.mov 7 (qi 0))]) .ret) (.seq (.ops [qm 69 8,qm 70 9, .i (.bin 71 .add (qi 8) (.s 70)),qd 72 .lss 69 71,qm 68 72]) (.cond (.s 68) (.seq (.ops [qm 73 9, .i (.bin 74 .add (qi 8) (.s 73)), .i (.mov 6 (qi 1)),qm 7 74]) .ret) .skip))))) (.seq (.ops [qm 76 1,qm 77 2, .i (.bin 78 .add (.s 77) (qi 4)), .i (.call 80 133 false [(.s 76),(.s 78),(qi 4)]),qm 75 79, .i (.ext 80 (.s 75) 0), .i (.ext 81 (.s 75) 1), .i (.ext 82 (.s 75) 2),qm 12 80,qm 13 81,qm 14 82]) (.seq (.seq (.ops [qm 83 12,qm 84 1,qm 85 2, .i (.bin 86 .add (.s 85) (qi 8)),qm 87 2, .i (.bin 88 .add (.s 87) (qi 8)),qm 89 9,qd 90 .add 88 89, .i (.fb 91 1 (.s 84) (some (.s 86)) (some (.s 90))),qk 93 105 91,qd 93 .neq 83 92]) (.cond (.s 93) (.seq (.ops [qm 94 9, .i (.bin 95 .add (qi 8) (.s 94)), .i (.mov 6 (qi 2)),qm 7 95]) .ret) .skip)) (.seq (.ops [qm 96 9, .i (.bin 97 .add (qi 8) (.s 96)), .i (.mov 6 (qi 3)),qm 7 97]) .ret)))))))))⟩
theorem yw:cd mC=some mZ:=by kernel_rfl
theorem hM (l:ao) (s:Bytes) (a:Nat) (hs:s.length≤1073741824) (ha:a≤1073741824):VC cd mC (bJ [(true,l.c),(false,[.sl (bytes s)]),(false,[.int .i64 (a:Int)])]) (fun rs _=>rs=cw (aw l s a)):=by
 refine aa yw rfl ?_
 simp(disch:=omega) [mZ,ao.c,VY]
 refine an (bz l) rfl rfl ?_
 simp(disch:=omega) [VY]
 refine dT (fun h0=> ?_) (fun h0=> ?_)
 case refine_2=>simp(disch:=omega) [h0,aw,cw,VY]
 simp(disch:=omega) [h0,VY]
 refine an (bA _ _ _) rfl rfl ?_
 simp(disch:=omega) [VY]
 cases h1:dR (a:Int) 0 ((s.length:Int) - 1)with
 |false=>
  have h2:=IP h1
  have h3:¬a < s.length:=by omega
  simp(disch:=omega) [h0,h3,aw,cw,VY]
 |true=>
  have h2:=eU h1
  have h3:a < s.length:=by omega
  simp(disch:=omega) [bP h3,VY]
  refine aj (fun h4=> ?_) (fun h4=> ?_)
  case refine_2=>
   have h4n:¬s[a].toNat=181:=by omega
   simp(disch:=omega) [h4,h4n,h0,h3,aw,cw,VY]
  have h4n:s[a].toNat=181:=by omega
  have key:∀(hc:a+1 < s.length→s[a+1]?.getD 0=70),aw l s a=if s.length - a < 4 then(1,0)else if ¬dR (rL s a) 1 l.frame=true then(0,0)else if s.length - a < 8+rL s a then(1,8+(rL s a:Int))else if F2 s a=JA (CS s a)then(3,8+(rL s a:Int))else(2,8+(rL s a:Int)):=by
   intro hc
   have:¬(a+1 < s.length∧¬(s.getD (a+1) 0).toNat=70):=fun h=>by
    refine h.2 ?_
    rw[List.getD_eq_getElem?_getD,hc h.1]
    rfl
   unfold aw
   have hg:s.getD a 0=s[a]:=by simp[List.getD,h3]
   rw[if_pos ⟨h0,h3⟩,hg,if_pos h4n,if_neg this]
  simp(disch:=omega) [h4,VY]
  refine aj (fun h5=> ?_) (fun h5=> ?_)
  ·have h5n:a+1 < s.length:=by omega
   have e5:((a:Int)+1).toNat=a+1:=by omega
   have e50:(0:Int)≤(a:Int)+1:=by omega
   simp(disch:=omega) [h4,h5,e5,e50,bP h5n,VY]
   refine aj (fun h6=> ?_) (fun h6=> ?_)
   case refine_2=>
    have h6n:¬s[a+1].toNat=70:=by omega
    simp(disch:=omega) [h4,h5,h6,h6n,h5n,h0,h3,h4n,aw,cw,VY]
   have h6n:s[a+1]?.getD 0=70:=by
    simp only[List.getElem?_eq_getElem h5n,Option.getD_some]
    exact UInt8.toNat_inj.1 (by have:(70:UInt8).toNat=70:=rfl;omega)
   rw[key (fun _=>h6n)]
   simp(disch:=omega) [h4,h5,h6,VY]
   refine aj (fun h8=> ?_) (fun h8=> ?_)
   ·have h8n:s.length - a < 4:=by omega
    simp(disch:=omega) [h8,h8n,cw,VY]
   have h8n:¬s.length - a < 4:=by omega
   have hl:dO ((s.drop (a+2)).take 2) < 65536:=by
    have:=sS ((s.drop (a+2)).take 2)
    rw[xc (by omega)]at this
    exact this
   simp(disch:=omega) [h8,VY]
   refine cp (nk s (a+2) 2 (by omega) (by omega) (by omega)) ?_
   simp(disch:=omega) [VY]
   refine an (bA _ _ _) rfl rfl ?_
   simp(disch:=omega) [VY]
   refine dT (fun h9=> ?_) (fun h9=> ?_)
   case refine_2=>simp(disch:=omega) [h8n,rL,h9,cw,VY]
   have h9t:=eU h9
   simp(disch:=omega) [h9,VY]
   refine aj (fun h10=> ?_) (fun h10=> ?_)
   ·have h10n:s.length - a < 8+dO ((s.drop (a+2)).take 2):=by omega
    simp(disch:=omega) [h8n,rL,h9,h10,h10n,cw,VY]
   have h10n:¬s.length - a < 8+dO ((s.drop (a+2)).take 2):=by omega
   simp(disch:=omega) [h10,VY]
   refine cp (nk s (a+4) 4 (by omega) (by omega) (by omega)) ?_
   have e6:((bytes s).drop (a+8)).take (dO ((s.drop (a+2)).take 2))=bytes (CS s a):=by simp[bytes,CS,rL]
   have e7:((a:Int)+8).toNat=a+8:=by omega
   have e8:((a:Int)+8+(dO ((s.drop (a+2)).take 2):Int) - ((a:Int)+8)).toNat=dO ((s.drop (a+2)).take 2):=by omega
   have e9:(a:Int)+8≤(a:Int)+8+(dO ((s.drop (a+2)).take 2):Int):=by omega
   have e10:(a:Int)+8+(dO ((s.drop (a+2)).take 2):Int)≤(s.length:Int):=by omega
   have e11:(0:Int)≤(a:Int)+8:=by omega
   simp(disch:=omega) [e6,e7,e8,e9,e10,e11,jZ,VY]
   refine cp (DT (CS s a) (by simp[CS];omega)) ?_
   simp(disch:=omega) [VY]
   refine aj (fun h11=> ?_) (fun h11=> ?_)
   ·have h11n:F2 s a=JA (CS s a):=by unfold F2;omega
    simp(disch:=omega) [h11,h8n,rL,h9,h10n,h11n,cw,VY]
   ·have h11n:¬F2 s a=JA (CS s a):=by unfold F2;omega
    simp(disch:=omega) [h11,h8n,rL,h9,h10n,h11n,cw,VY]
  ·rw[key (fun h=>by omega)]
   have h7:s.length - a < 4:=by omega
   have h7i:(s.length:Int) - (a:Int) < 4:=by omega
   simp(disch:=omega) [h4,h5,h7,h7i,cw,VY]
abbrev mS:Nat:=37
def nQ:AF:=⟨3,7,[.tmp 6, .tmp 7],(.seq (.ops [.i (.lbox 3 (.s 0)), .i (.mov 6 (qi 0)), .i (.mov 7 (qi 0))]) (.seq (.seq (.ops [ql 14 3 3 5 true,qk 16 66 14, .i (.not 16 (.s 15)),qm 17 16, .g 17 false 19 (.mov 18 (.s 2)), .g 17 false 20 (.mov 19 (.s 1)), .g 17 false 21 (.len 20 false (.s 19)), .g 17 false 22 (.bin 21 .sub (.s 20) (qi 1)), .g 17 false 23 (.call 23 67 false [(.s 18),(qi 0),(.s 21)]), .g 17 false 24 (.not 23 (.s 22)), .i (.pick 24 (.s 17) (qb true) (.s 23)),qm 25 24, .g 25 false 27 (.mov 26 (.s 1)), .g 25 false 28 (.mov 27 (.s 2)), .g 25 false 29 (.iad 28 (.s 26) (.s 27) 1), .g 25 false 30 (.ldh 29 (.s 28) 1 false), .g 25 false 31 (.bin 30 .neq (.s 29) (.c (.val false [.int .u8 181]))), .i (.pick 31 (.s 25) (qb true) (.s 30)),qm 32 31, .g 32 false 34 (.mov 33 (.s 2)), .g 32 false 35 (.bin 34 .add (.s 33) (qi 1)), .g 32 false 36 (.mov 35 (.s 1)), .g 32 false 37 (.len 36 false (.s 35)), .g 32 false 38 (.bin 37 .lss (.s 34) (.s 36)), .g 32 false 39 (.mov 38 (.s 37)), .g 38 true 40 (.mov 39 (.s 1)), .g 38 true 41 (.mov 40 (.s 2)), .g 38 true 42 (.bin 41 .add (.s 40) (qi 1)), .g 38 true 43 (.iad 42 (.s 39) (.s 41) 1), .g 38 true 44 (.ldh 43 (.s 42) 1 false), .g 38 true 45 (.bin 44 .neq (.s 43) (.c (.val false [.int .u8 70]))), .g 32 false 46 (.pick 45 (.s 38) (.s 44) (qb false)), .i (.pick 46 (.s 32) (qb true) (.s 45))]) (.cond (.s 46) (.seq (.ops [.i (.mov 6 (qi 0)), .i (.mov 7 (qi 0))]) .ret) .skip)) (.seq (.seq (.ops [qm 47 1,qn 48 47,qm 49 2,qd 50 .sub 48 49, .i (.bin 51 .lss (.s 50) (qi 4))]) (.cond (.s 51) (.seq (.ops [.i (.mov 6 (qi 1)), .i (.mov 7 (qi 0))]) .ret) .skip)) (.seq (.ops [qm 53 1,qm 54 2, .i (.bin 55 .add (.s 54) (qi 2)), .i (.call 57 68 false [(.s 53),(.s 55),(qi 2)]),qm 52 56, .i (.ext 57 (.s 52) 0), .i (.ext 58 (.s 52) 1), .i (.ext 59 (.s 52) 2),qm 8 57,qm 9 58,qm 10 59]) (.seq (.seq (.ops [qm 60 8,qf 61 3 3,ql 62 3 61 1 false, .i (.call 64 67 false [(.s 60),(qi 1),(.s 62)]), .i (.not 64 (.s 63))]) (.cond (.s 64) (.seq (.ops [.i (.mov 6 (qi 0)), .i (.mov 7 (qi 0))]) .ret) .skip)) (.seq (.seq (.ops [qm 65 1,qn 66 65,qm 67 2,qd 68 .sub 66 67,qm 69 8, .i (.bin 70 .add (qi 8) (.s 69)),qd 71 .lss 68 70]) (.cond (.s 71) (.seq (.ops [qm 72 8, .i (.bin 73 .add (qi 8) (.s 72)), .i (.mov 6 (qi 1)),qm 7 73]) .ret) .skip)) (.seq (.ops [qm 75 1,qm 76 2, .i (.bin 77 .add (.s 76) (qi 4)), .i (.call 79 68 false [(.s 75),(.s 77),(qi 4)]),qm 74 78, .i (.ext 79 (.s 74) 0), .i (.ext 80 (.s 74) 1), .i (.ext 81 (.s 74) 2),qm 11 79,qm 12 80,qm 13 81]) (.seq (.seq (.ops [qm 82 11,qm 83 1,qm 84 2, .i (.bin 85 .add (.s 84) (qi 8)),qm 86 2, .i (.bin 87 .add (.s 86) (qi 8)),qm 88 8,qd 89 .add 87 88, .i (.fb 90 1 (.s 83) (some (.s 85)) (some (.s 89))),qk 92 69 90,qd 92 .neq 82 91]) (.cond (.s 92) (.seq (.ops [qm 93 8, .i (.bin 94 .add (qi 8) (.s 93)), .i (.mov 6 (qi 2)),qm 7 94]) .ret) .skip)) (.seq (.ops [qm 95 8, .i (.bin 96 .add (qi 8) (.s 95)), .i (.mov 6 (qi 3)),qm 7 96]) .ret)))))))))⟩
theorem yn:cd mS=some nQ:=by kernel_rfl
theorem lX (l:ao) (s:Bytes) (a:Nat) (hs:s.length≤1073741824) (ha:a≤1073741824):VC cd mS (bJ [(true,l.c),(false,[.sl (bytes s)]),(false,[.int .i64 (a:Int)])]) (fun rs _=>rs=cw (aw l s a)):=by
 refine aa yn rfl ?_
 simp(disch:=omega) [nQ,ao.c,VY]
 refine an (dL l) rfl rfl ?_
 simp(disch:=omega) [VY]
 refine dT (fun h0=> ?_) (fun h0=> ?_)
 case refine_2=>simp(disch:=omega) [h0,aw,cw,VY]
 simp(disch:=omega) [h0,VY]
 refine an (dN _ _ _) rfl rfl ?_
 simp(disch:=omega) [VY]
 cases h1:dR (a:Int) 0 ((s.length:Int) - 1)with
 |false=>
  have h2:=IP h1
  have h3:¬a < s.length:=by omega
  simp(disch:=omega) [h0,h3,aw,cw,VY]
 |true=>
  have h2:=eU h1
  have h3:a < s.length:=by omega
  simp(disch:=omega) [bP h3,VY]
  refine aj (fun h4=> ?_) (fun h4=> ?_)
  case refine_2=>
   have h4n:¬s[a].toNat=181:=by omega
   simp(disch:=omega) [h4,h4n,h0,h3,aw,cw,VY]
  have h4n:s[a].toNat=181:=by omega
  have key:∀(hc:a+1 < s.length→s[a+1]?.getD 0=70),aw l s a=if s.length - a < 4 then(1,0)else if ¬dR (rL s a) 1 l.frame=true then(0,0)else if s.length - a < 8+rL s a then(1,8+(rL s a:Int))else if F2 s a=JA (CS s a)then(3,8+(rL s a:Int))else(2,8+(rL s a:Int)):=by
   intro hc
   have:¬(a+1 < s.length∧¬(s.getD (a+1) 0).toNat=70):=fun h=>by
    refine h.2 ?_
    rw[List.getD_eq_getElem?_getD,hc h.1]
    rfl
   unfold aw
   have hg:s.getD a 0=s[a]:=by simp[List.getD,h3]
   rw[if_pos ⟨h0,h3⟩,hg,if_pos h4n,if_neg this]
  simp(disch:=omega) [h4,VY]
  refine aj (fun h5=> ?_) (fun h5=> ?_)
  ·have h5n:a+1 < s.length:=by omega
   have e5:((a:Int)+1).toNat=a+1:=by omega
   have e50:(0:Int)≤(a:Int)+1:=by omega
   simp(disch:=omega) [h4,h5,e5,e50,bP h5n,VY]
   refine aj (fun h6=> ?_) (fun h6=> ?_)
   case refine_2=>
    have h6n:¬s[a+1].toNat=70:=by omega
    simp(disch:=omega) [h4,h5,h6,h6n,h5n,h0,h3,h4n,aw,cw,VY]
   have h6n:s[a+1]?.getD 0=70:=by
    simp only[List.getElem?_eq_getElem h5n,Option.getD_some]
    exact UInt8.toNat_inj.1 (by have:(70:UInt8).toNat=70:=rfl;omega)
   rw[key (fun _=>h6n)]
   simp(disch:=omega) [h4,h5,h6,VY]
   refine aj (fun h8=> ?_) (fun h8=> ?_)
   ·have h8n:s.length - a < 4:=by omega
    simp(disch:=omega) [h8,h8n,cw,VY]
   have h8n:¬s.length - a < 4:=by omega
   have hl:dO ((s.drop (a+2)).take 2) < 65536:=by
    have:=sS ((s.drop (a+2)).take 2)
    rw[xc (by omega)]at this
    exact this
   simp(disch:=omega) [h8,VY]
   refine cp (oC s (a+2) 2 (by omega) (by omega) (by omega)) ?_
   simp(disch:=omega) [VY]
   refine an (dN _ _ _) rfl rfl ?_
   simp(disch:=omega) [VY]
   refine dT (fun h9=> ?_) (fun h9=> ?_)
   case refine_2=>simp(disch:=omega) [h8n,rL,h9,cw,VY]
   have h9t:=eU h9
   simp(disch:=omega) [h9,VY]
   refine aj (fun h10=> ?_) (fun h10=> ?_)
   ·have h10n:s.length - a < 8+dO ((s.drop (a+2)).take 2):=by omega
    simp(disch:=omega) [h8n,rL,h9,h10,h10n,cw,VY]
   have h10n:¬s.length - a < 8+dO ((s.drop (a+2)).take 2):=by omega
   simp(disch:=omega) [h10,VY]
   refine cp (oC s (a+4) 4 (by omega) (by omega) (by omega)) ?_
   have e6:((bytes s).drop (a+8)).take (dO ((s.drop (a+2)).take 2))=bytes (CS s a):=by simp[bytes,CS,rL]
   have e7:((a:Int)+8).toNat=a+8:=by omega
   have e8:((a:Int)+8+(dO ((s.drop (a+2)).take 2):Int) - ((a:Int)+8)).toNat=dO ((s.drop (a+2)).take 2):=by omega
   have e9:(a:Int)+8≤(a:Int)+8+(dO ((s.drop (a+2)).take 2):Int):=by omega
   have e10:(a:Int)+8+(dO ((s.drop (a+2)).take 2):Int)≤(s.length:Int):=by omega
   have e11:(0:Int)≤(a:Int)+8:=by omega
   simp(disch:=omega) [e6,e7,e8,e9,e10,e11,jZ,VY]
   refine cp (Dr (CS s a) (by simp[CS];omega)) ?_
   simp(disch:=omega) [VY]
   refine aj (fun h11=> ?_) (fun h11=> ?_)
   ·have h11n:F2 s a=JA (CS s a):=by unfold F2;omega
    simp(disch:=omega) [h11,h8n,rL,h9,h10n,h11n,cw,VY]
   ·have h11n:¬F2 s a=JA (CS s a):=by unfold F2;omega
    simp(disch:=omega) [h11,h8n,rL,h9,h10n,h11n,cw,VY]
  ·rw[key (fun h=>by omega)]
   have h7:s.length - a < 4:=by omega
   have h7i:(s.length:Int) - (a:Int) < 4:=by omega
   simp(disch:=omega) [h4,h5,h7,h7i,cw,VY]
structure bC where
 skip:Int
 buf:Bytes
def bC.c (p:bC):List D:= [.int .i64 p.skip, .sl (bytes p.buf)]
def jv (l:ao) (p:bC):Bool:=l.ok && isNum p.skip && (decide (p.buf= [])||decide ((aw l p.buf 0).1=1))
abbrev p0:Nat:=45
def qH:AF:=⟨2,5,[.tmp 4],(.seq (.ops [.i (.lbox 2 (.s 0)), .i (.lbox 3 (.s 1)), .i (.mov 4 (qb false))]) (.seq (.ops [ql 8 2 2 5 true,qf 9 3 1,ql 10 3 9 1 false, .i (.call 12 80 false [(.s 8),(.s 10),(qi 0)]),qm 7 11, .i (.ext 12 (.s 7) 0), .i (.ext 13 (.s 7) 1),qm 5 12,qm 6 13]) (.seq (.ops [ql 14 2 2 5 true,qk 16 70 14,qm 16 15, .g 16 true 18 (.fad 17 (.s 3) 0), .g 16 true 19 (.ldl 18 3 (.s 17) 1 false), .g 16 true 20 (.call 20 81 false [(.s 18)]), .i (.pick 20 (.s 16) (.s 19) (qb false)),qm 21 20, .g 21 true 23 (.fad 22 (.s 3) 1), .g 21 true 24 (.ldl 23 3 (.s 22) 1 false), .g 21 true 25 (.len 24 false (.s 23)), .g 21 true 26 (.bin 25 .eql (.s 24) (qi 0)), .g 21 true 27 (.mov 26 (.s 25)), .g 26 false 28 (.mov 27 (.s 5)), .g 26 false 29 (.bin 28 .eql (.s 27) (qi 1)), .g 21 true 30 (.pick 29 (.s 26) (qb true) (.s 28)), .i (.pick 30 (.s 21) (.s 29) (qb false)),qm 4 30]) .ret)))⟩
theorem zL:cd p0=some qH:=by kernel_rfl
theorem xS (l:ao) (p:bC) (hb:p.buf.length≤1073741824):VC cd p0 (bJ [(true,l.c),(true,p.c)]) (fun rs _=>rs=bl (jv l p)):=by
 refine aa zL rfl ?_
 simp(disch:=omega) [qH,ao.c,bC.c,VY]
 refine cp (hM l p.buf 0 hb (by omega)) ?_
 simp(disch:=omega) [cw,VY]
 refine an (bz l) rfl rfl ?_
 simp(disch:=omega) [VY]
 refine dT (fun h0=> ?_) (fun h0=> ?_) <;>simp(disch:=omega) [h0,jv,VY]
 refine an (DN _) rfl rfl ?_
 simp(disch:=omega) [h0,VY]
 refine dT (fun h1=> ?_) (fun h1=> ?_) <;>simp(disch:=omega) [h0,h1,VY]
 refine aj (fun h2=> ?_) (fun h2=> ?_)
 ·simp(disch:=omega) [h0,h1,h2,VY]
 ·simp(disch:=omega) [h0,h1,h2,VY]
abbrev pM:Nat:=42
def rf:AF:=⟨2,5,[.tmp 4],(.seq (.ops [.i (.lbox 2 (.s 0)), .i (.lbox 3 (.s 1)), .i (.mov 4 (qb false))]) (.seq (.seq (.ops [ql 7 2 2 5 true,qk 9 66 7, .i (.not 9 (.s 8)),qm 10 9, .g 10 false 12 (.fad 11 (.s 3) 0), .g 10 false 13 (.ldl 12 3 (.s 11) 1 false), .g 10 false 14 (.call 14 78 false [(.s 12)]), .g 10 false 15 (.not 14 (.s 13)), .i (.pick 15 (.s 10) (qb true) (.s 14))]) (.cond (.s 15) (.seq (.ops [.i (.mov 4 (qb false))]) .ret) .skip)) (.seq (.ops [ql 17 2 2 5 true,qf 18 3 1,ql 19 3 18 1 false, .i (.call 21 37 false [(.s 17),(.s 19),(qi 0)]),qm 16 20, .i (.ext 21 (.s 16) 0), .i (.ext 22 (.s 16) 1),qm 5 21,qm 6 22]) (.seq (.ops [qf 23 3 1,ql 24 3 23 1 false,qn 25 24, .i (.bin 26 .eql (.s 25) (qi 0)),qm 27 26, .g 27 false 29 (.mov 28 (.s 5)), .g 27 false 30 (.bin 29 .eql (.s 28) (qi 1)), .i (.pick 30 (.s 27) (qb true) (.s 29)),qm 4 30]) .ret))))⟩
theorem zn:cd pM=some rf:=by kernel_rfl
theorem xl (l:ao) (p:bC) (hb:p.buf.length≤1073741824):VC cd pM (bJ [(true,l.c),(true,p.c)]) (fun rs _=>rs=bl (jv l p)):=by
 refine aa zn rfl ?_
 simp(disch:=omega) [rf,ao.c,bC.c,VY]
 refine an (dL l) rfl rfl ?_
 simp(disch:=omega) [VY]
 refine dT (fun h0=> ?_) (fun h0=> ?_)
 case refine_2=>simp(disch:=omega) [h0,jv,VY]
 simp(disch:=omega) [h0,VY]
 refine an (Hl _) rfl rfl ?_
 simp(disch:=omega) [h0,VY]
 refine dT (fun h1=> ?_) (fun h1=> ?_)
 case refine_2=>simp(disch:=omega) [h0,h1,jv,VY]
 simp(disch:=omega) [h0,h1,VY]
 refine cp (lX l p.buf 0 hb (by omega)) ?_
 simp(disch:=omega) [cw,VY]
 refine aj (fun h2=> ?_) (fun h2=> ?_)
 ·simp(disch:=omega) [h0,h1,h2,jv,VY]
 ·simp(disch:=omega) [h0,h1,h2,jv,VY]
end Go.Eng.F
namespace Go.Eng.F
end Go.Eng.F
namespace Go.Eng.F
open Go.Eng.U (za c8 TLimits wZ)
def di.tv (f:di):Tv:= .r [f.l.tv,pz f.heads]
theorem di.enc (f:di):enc wZ f.tv=f.c:=by simp only[di.tv,pq,fc,ck,cY,ao.enc,di.c,List.append_nil]
theorem di.ex {v:Tv} (h:aC wZ v):∃q:di,v=q.tv:=by
 obtain⟨vs,rfl,h⟩:=h.st
 obtain⟨v0,_,rfl,h0,h⟩:=h.step
 obtain⟨v1,_,rfl,h1,h⟩:=h.step
 obtain rfl:=h.fin
 obtain⟨n0,rfl⟩:=ao.ex h0
 obtain⟨n1,rfl⟩:=wY h1
 exact⟨⟨n0,n1⟩,rfl⟩
theorem di.of {f:di} (h:aC wZ f.tv) (hw:wt f.tv≤1048576):f.wc∧aC TLimits f.l.tv∧f.heads.length≤1048576:=by
 simp only[di.tv,dg,bc]at h
 simp only[di.tv,wt,dw]at hw
 obtain⟨h0,h1,_⟩:=h
 have h5:=CG h1 (by omega)
 have h6:f.heads.length≤wt (pz f.heads):=by unfold pz;rw[zk,List.length_map];omega
 exact⟨⟨h5.1,h5.2⟩,dg.2 (dg.1 h0),by omega⟩
theorem Bc {α:Type} {f:α→Tv} {B:Nat}:∀ {l:List α},(∀x∈l,wt (f x)≤B)→dw (l.map f)≤l.length * B
 | [],_=>by simp[dw]
 |a::l,h=>by
  have h1:=h a (by simp)
  have h2:=Bc (l:=l) fun x hx=>h x (by simp[hx])
  simp only[List.map_cons,dw,List.length_cons,Nat.succ_mul]
  omega
end Go.Eng.F
namespace Go.Eng.F
structure fk where
 l:ao
 t:Table
 push:bC
 chain:List Head
def fk.c (x:fk):List D:= [.int .i64 x.l.n, .int .i64 x.l.tx, .int .i64 x.l.txs, .int .i64 x.l.frame, .int .i64 x.l.heads, .sl (rws x.t.rows), .int .i64 x.push.skip, .sl (bytes x.push.buf), .sl (uL x.chain)]
def fk.wc (x:fk):Prop:=x.t.wf∧x.push.buf.length≤1073741824∧Sz x.chain.length∧∀h∈x.chain,h.wc
def ht (hs:List Head) (i:Nat):Int:=match hs[i]? with|some h=>h.height|none=>0
structure pE where
 l:ao
 t:Table
 x:fk
 own:List Head
def pE.c (d:pE):List D:= [.int .i64 d.l.n, .int .i64 d.l.tx, .int .i64 d.l.txs, .int .i64 d.l.frame, .int .i64 d.l.heads, .sl (rws d.t.rows), .int .i64 d.x.l.n, .int .i64 d.x.l.tx, .int .i64 d.x.l.txs, .int .i64 d.x.l.frame, .int .i64 d.x.l.heads, .sl (rws d.x.t.rows), .int .i64 d.x.push.skip, .sl (bytes d.x.push.buf), .sl (uL d.x.chain), .sl (uL d.own)]
def pE.wc (d:pE):Prop:=d.t.wf∧d.x.wc∧Sz d.own.length∧∀h∈d.own,h.wc
end Go.Eng.F
namespace Go.Eng.F
open Go.Eng.U (za c8 TLimits iL TPush oG Gr)
def bC.wf (p:bC):Prop:=oN p.skip∧Sz p.buf.length
def bC.tv (x:bC):Tv:= .r [.i x.skip,vA x.buf]
theorem bC.enc (x:bC):enc TPush x.tv=x.c:=by simp only[bC.tv,fc,ck,cY,dY,fj,gM,gK,ei,gV,bC.c,List.cons_append,List.nil_append,List.append_assoc]
theorem bC.ex {v:Tv} (h:aC TPush v):∃x:bC,v=x.tv:=by
 obtain⟨vs,rfl,h⟩:=h.st
 obtain⟨v0,_,rfl,h0,h⟩:=h.step
 obtain⟨v1,_,rfl,h1,h⟩:=h.step
 obtain rfl:=h.fin
 obtain⟨n0,rfl,_⟩:=h0.int
 obtain⟨n1,rfl⟩:=i0 h1
 exact⟨⟨n0,n1⟩,rfl⟩
theorem bC.of {x:bC} (h:aC TPush x.tv) (hw:wt x.tv≤1048576):x.wf:=by
 simp only[bC.tv,dg,bc]at h
 simp only[bC.tv,wt,dw]at hw
 obtain⟨h0,h1,_⟩:=h
 exact⟨eJ (ok_int.1 h0),pP (by omega)⟩
theorem bC.wf.tok {x:bC} (h:x.wf):aC TPush x.tv:=by
 simp only[bC.tv,dg,bc]
 obtain⟨h0,h1⟩:=h
 exact⟨dZ h0,pW h1,eS.2 trivial⟩
def fk.tv (x:fk):Tv:= .r [x.l.tv,x.t.tv,x.push.tv,pz x.chain]
theorem fk.enc (x:fk):enc oG x.tv=x.c:=by simp only[fk.tv,pq,fc,ck,cY,ao.enc,Table.enc,bC.enc,fk.c,ao.c,Table.c,bC.c,List.cons_append,List.nil_append,List.append_nil]
theorem fk.ex {v:Tv} (h:aC oG v):∃q:fk,v=q.tv:=by
 obtain⟨vs,rfl,h⟩:=h.st
 obtain⟨v0,_,rfl,h0,h⟩:=h.step
 obtain⟨v1,_,rfl,h1,h⟩:=h.step
 obtain⟨v2,_,rfl,h2,h⟩:=h.step
 obtain⟨v3,_,rfl,h3,h⟩:=h.step
 obtain rfl:=h.fin
 obtain⟨n0,rfl⟩:=ao.ex h0
 obtain⟨n1,rfl⟩:=Table.ex h1
 obtain⟨n2,rfl⟩:=bC.ex h2
 obtain⟨n3,rfl⟩:=wY h3
 exact⟨⟨n0,n1,n2,n3⟩,rfl⟩
theorem fk.of {x:fk} (h:aC oG x.tv) (hw:wt x.tv≤1048576):x.wc:=by
 simp only[fk.tv,dg,bc]at h
 simp only[fk.tv,wt,dw]at hw
 obtain⟨h0,h1,h2,h3,_⟩:=h
 have k1:=Table.of h1 (by omega)
 have k2:=bC.of h2 (by omega)
 have k3:=CG h3 (by omega)
 exact⟨k1,k2.2,k3.1,k3.2⟩
def pE.tv (x:pE):Tv:= .r [x.l.tv,x.t.tv,x.x.tv,pz x.own]
theorem pE.enc (x:pE):enc Gr x.tv=x.c:=by simp only[pE.tv,pq,fc,ck,cY,ao.enc,Table.enc,fk.enc,pE.c,fk.c,ao.c,Table.c,List.cons_append,List.nil_append,List.append_nil]
theorem pE.ex {v:Tv} (h:aC Gr v):∃q:pE,v=q.tv:=by
 obtain⟨vs,rfl,h⟩:=h.st
 obtain⟨v0,_,rfl,h0,h⟩:=h.step
 obtain⟨v1,_,rfl,h1,h⟩:=h.step
 obtain⟨v2,_,rfl,h2,h⟩:=h.step
 obtain⟨v3,_,rfl,h3,h⟩:=h.step
 obtain rfl:=h.fin
 obtain⟨n0,rfl⟩:=ao.ex h0
 obtain⟨n1,rfl⟩:=Table.ex h1
 obtain⟨n2,rfl⟩:=fk.ex h2
 obtain⟨n3,rfl⟩:=wY h3
 exact⟨⟨n0,n1,n2,n3⟩,rfl⟩
theorem pE.of {x:pE} (h:aC Gr x.tv) (hw:wt x.tv≤1048576):x.wc:=by
 simp only[pE.tv,dg,bc]at h
 simp only[pE.tv,wt,dw]at hw
 obtain⟨h0,h1,h2,h3,_⟩:=h
 have k1:=Table.of h1 (by omega)
 have k2:=fk.of h2 (by omega)
 have k3:=CG h3 (by omega)
 exact⟨k1,k2,k3.1,k3.2⟩
end Go.Eng.F
namespace Go.Eng.F
open Go.Eng.U (za c8 TLimits iL TPush oG)
end Go.Eng.F
namespace Go.Eng.F
open Go.Eng.U (za c8 TLimits iL fx)
theorem ej {cd:Nat→Option AF} {pd:List (Nat×Nat)} {R:List RV} {Q:List (Bool×List E)→List E→Prop} {k:List VK} {f:UT} {st:St} {ds:List Nat} {b:AC} {σ:Type} (f0:UT) (hf:cI f ds=f0) {f2:UT} {st2:St} (hw:dD f0 st f2 st2) (f1:UT) (es0:List (Nat×En)) (h2:f2=f1) (he:Mr st2.es=es0)
 (jc:σ→List (Nat×U)) (ue:σ→List (Nat×En)) (J:σ→Nat→Prop) (s0:σ) (g0:Nat) (hu:f1=bV f1 (jc s0)) (hs:kD st2 (BC es0 (ue s0))) (h0:J s0 g0)
 (round:∀s n g,J s g→∀P:UT→St→Prop,(∀(s':σ) (g':Nat) (f':UT) (st':St),g' < g→J s' g'→cI f' ds=bV f1 (jc s')→kD st' (BC es0 (ue s'))→P f' st')→VX cd pd R Q (.c b:: .stop P::k) (bV f1 (jc s)) ⟨n,BC es0 (ue s)⟩):
 VX cd pd R Q (.c (.loop ds b)::k) f st:=
 ti f0 hf hw f1 es0 h2 he jc ue J s0 g0 hu hs h0 fun s n g h=>round s n g h _ fun s' g' f' st' a b c d=>⟨s',g',a,b,c,d⟩
theorem IY {bits:Bytes} {n:Int} (h:eo bits n=true):bits.length≤2:=by
 simp only[eo,Bool.and_eq_true,decide_eq_true_eq]at h
 have h1:=eU h.1.1
 have h2:=h.1.2
 rw[vu]at h2
 omega
end Go.Eng.F
namespace Go.Eng.F
structure c4 where
 view:Int
 height:Int
 block:Bytes
 who:Int
 tag:Bytes
def c4.c (v:c4):List D:= [.int .i64 v.view, .int .i64 v.height, .sl (bytes v.block), .int .i64 v.who, .sl (bytes v.tag)]
def c4.wf (v:c4):Prop:=oN v.view∧oN v.height∧Sz v.block.length∧oN v.who∧Sz v.tag.length
def xC (a b:c4):Bool:=decide (a.view=b.view) && decide (a.height=b.height) && decide (a.block=b.block) && decide (a.who=b.who) && decide (a.tag=b.tag)
end Go.Eng.F
namespace Go.Eng.F
def cur (b:Bytes) (i:Nat) (h:Int):List E0:= [.p (.sl (bytes b)), .p (.int .i64 (i:Int)), .p (.int .i64 h)]
theorem Bf (k v ty:Nat) (xs:List E0) (r:List E):aQ k v (.pt ty xs::r)=(.pt k v 0::(aQ (k+(1+xs.length)) (v+(1+xs.length)) r).1,(k, .pt v ty (aW (k+1) (v+1) xs).1)::((aW (k+1) (v+1) xs).2++(aQ (k+(1+xs.length)) (v+(1+xs.length)) r).2)):=rfl
theorem tm {N:Int} (h:0≤N) {n:Nat} (hn:n≠0):∃y:Nat,y < n∧N.tmod (n:Int)=(y:Int):=by
 obtain⟨m,rfl⟩:=Int.eq_ofNat_of_zero_le h
 exact⟨m % n,Nat.mod_lt _ (by omega),rfl⟩
def ao.e (l:ao):List E:= [.p (.int .i64 l.n), .p (.int .i64 l.tx), .p (.int .i64 l.txs), .p (.int .i64 l.frame), .p (.int .i64 l.heads)]
end Go.Eng.F
namespace Go.Eng.F
end Go.Eng.F
namespace Go.Eng.F
open Go.Eng.U (za c8 TLimits fx mj iZ)
def Gz (l:ao) (t:List Bytes):Bool:=t.all fun x=>decide ((x.length:Int)≤l.tx)
def jq (l:ao) (x:Block):Bool:=eC l x.head && decide ((x.txs.length:Int)≤l.txs) && Gz l x.txs && decide (x.head.root=bx x.txs)
end Go.Eng.F
namespace Go.Eng.F
open Go.Eng.U (za c8 TLimits fx vP iL oG TPush LQ fv mj)
structure Entry where
 who:Int
 high:Int
 tag:Bytes
def Entry.c (r:Entry):List D:= [.int .i64 r.who, .int .i64 r.high, .sl (bytes r.tag)]
def Entry.wf (r:Entry):Prop:=oN r.who∧oN r.high∧Sz r.tag.length
structure Tc where
 view:Int
 entries:List Entry
def AZ (l:List Entry):List (List D):=l.map Entry.c
theorem F9 (l:List Entry):(AZ l).length=l.length:=by simp[AZ]
def Tc.c (t:Tc):List D:= [.int .i64 t.view, .sl (AZ t.entries)]
def Tc.wf (t:Tc):Prop:=oN t.view∧Sz t.entries.length∧∀r∈t.entries,r.wf
def Entry.tv (x:Entry):Tv:= .r [.i x.who, .i x.high,vA x.tag]
theorem Entry.enc (x:Entry):enc fv x.tv=x.c:=by simp only[Entry.tv,fc,ck,cY,dY,fj,gM,gK,ei,gV,Entry.c,List.cons_append,List.nil_append,List.append_assoc]
theorem Entry.ex {v:Tv} (h:aC fv v):∃x:Entry,v=x.tv:=by
 obtain⟨vs,rfl,h⟩:=h.st
 obtain⟨v0,_,rfl,h0,h⟩:=h.step
 obtain⟨v1,_,rfl,h1,h⟩:=h.step
 obtain⟨v2,_,rfl,h2,h⟩:=h.step
 obtain rfl:=h.fin
 obtain⟨n0,rfl,_⟩:=h0.int
 obtain⟨n1,rfl,_⟩:=h1.int
 obtain⟨n2,rfl⟩:=i0 h2
 exact⟨⟨n0,n1,n2⟩,rfl⟩
theorem Entry.of {x:Entry} (h:aC fv x.tv) (hw:wt x.tv≤1048576):x.wf:=by
 simp only[Entry.tv,dg,bc]at h
 simp only[Entry.tv,wt,dw]at hw
 obtain⟨h0,h1,h2,_⟩:=h
 exact⟨eJ (ok_int.1 h0),eJ (ok_int.1 h1),pP (by omega)⟩
theorem Entry.wf.tok {x:Entry} (h:x.wf):aC fv x.tv:=by
 simp only[Entry.tv,dg,bc]
 obtain⟨h0,h1,h2⟩:=h
 exact⟨dZ h0,dZ h1,pW h2,eS.2 trivial⟩
def yo (l:List Entry):Tv:= .l (l.map Entry.tv)
theorem Mg (l:List Entry):enc (.sl fv) (yo l)= [.sl (AZ l)]:=by
 simp only[yo,y8,List.map_map,AZ]
 congr 2
 exact List.map_congr_left fun x _=>Entry.enc x
theorem L5 {v:Tv} (h:aC (.sl fv) v):∃l,v=yo l:=by
 obtain⟨xs,rfl,_,h2⟩:=h.sl
 obtain⟨ys,rfl⟩:=oR (f:=Entry.tv) (P:=aC fv) (fun v hv=>Entry.ex hv) h2
 exact⟨ys,rfl⟩
theorem Od {l:List Entry} (h:aC (.sl fv) (yo l)) (hw:wt (yo l)≤1048576):Sz l.length∧∀x∈l,x.wf:=by
 unfold yo at h hw
 rw[zk]at hw
 have h2:=(xo.1 h).2
 simp only[List.length_map]at hw
 refine⟨by unfold Sz;omega,fun x hx=>Entry.of (h2 _ (List.mem_map_of_mem hx)) ?_⟩
 have:=td (f:=Entry.tv) hx
 omega
theorem K7 {l:List Entry} (h:Sz l.length∧∀x∈l,x.wf):aC (.sl fv) (yo l):=by
 unfold yo
 refine xo.2 ⟨by have:=h.1;unfold Sz at this;rw[List.length_map,iD];omega,fun v hv=> ?_⟩
 obtain⟨x,hx,rfl⟩:=List.mem_map.1 hv
 exact(h.2 x hx).tok
def Tc.tv (x:Tc):Tv:= .r [.i x.view,yo x.entries]
theorem Tc.enc (x:Tc):enc LQ x.tv=x.c:=by simp only[Tc.tv,Mg,fc,ck,cY,dY,fj,gM,gK,ei,gV,Tc.c,List.cons_append,List.nil_append,List.append_assoc]
theorem Tc.ex {v:Tv} (h:aC LQ v):∃x:Tc,v=x.tv:=by
 obtain⟨vs,rfl,h⟩:=h.st
 obtain⟨v0,_,rfl,h0,h⟩:=h.step
 obtain⟨v1,_,rfl,h1,h⟩:=h.step
 obtain rfl:=h.fin
 obtain⟨n0,rfl,_⟩:=h0.int
 obtain⟨n1,rfl⟩:=L5 h1
 exact⟨⟨n0,n1⟩,rfl⟩
theorem Tc.of {x:Tc} (h:aC LQ x.tv) (hw:wt x.tv≤1048576):x.wf:=by
 simp only[Tc.tv,dg,bc]at h
 simp only[Tc.tv,wt,dw]at hw
 obtain⟨h0,h1,_⟩:=h
 exact⟨eJ (ok_int.1 h0),Od h1 (by omega)⟩
theorem Tc.wf.tok {x:Tc} (h:x.wf):aC LQ x.tv:=by
 simp only[Tc.tv,dg,bc]
 obtain⟨h0,h1⟩:=h
 exact⟨dZ h0,K7 h1,eS.2 trivial⟩
end Go.Eng.F
namespace Go.Eng.F
def yB (a b:Qc):Bool:=decide (a.view=b.view) && decide (a.height=b.height) && decide (a.block=b.block) && decide (a.bits=b.bits) && decide (a.tags=b.tags)
def ng (a b:Head):Bool:=decide (a.view=b.view) && decide (a.height=b.height) && decide (a.proposer=b.proposer) && decide (a.parent=b.parent) && decide (a.root=b.root) && yB a.qc b.qc
def uO (a b:Block):Bool:=ng a.head b.head && decide (a.txs=b.txs)
structure cq where
 height:Int
 n:Int
 idx:Int
 tx:Bytes
 path:List Bytes
def cq.c (x:cq):List D:= [.int .i64 x.height, .int .i64 x.n, .int .i64 x.idx, .sl (bytes x.tx), .sl (df x.path)]
def cq.wc (x:cq):Prop:=oN x.height∧oN x.n∧oN x.idx∧Sz x.tx.length∧Gy x.path
def cq.o (x:cq):List E:= [.p (.int .i64 x.height), .p (.int .i64 x.n), .p (.int .i64 x.idx), .o true (some (5,1)) (bytes x.tx), .o true (some (24,1)) (df x.path)]
def x3 (a b:cq):Bool:=decide (a.height=b.height) && decide (a.n=b.n) && decide (a.idx=b.idx) && decide (a.tx=b.tx) && decide (a.path=b.path)
def wM {α:Type} (f:α→α→Bool) (a b:List α):Bool:=decide (a.length=b.length) && (List.range b.length).all fun i=>match a[i]?,b[i]? with|some x,some y=>f x y|_,_=>false
def AX (a b:List Head):Bool:=wM ng a b
def u6 (a b:Proof):Bool:=AX a.heads b.heads && yB a.qc b.qc
def CK (a b:Entry):Bool:=decide (a.who=b.who) && decide (a.high=b.high) && decide (a.tag=b.tag)
def E6 (a b:Tc):Bool:=decide (a.view=b.view) && wM CK a.entries b.entries
end Go.Eng.F
namespace Go.Eng.F
def Ba (x:Bytes):Bytes:=ey x.length++x
def Ck (l:ao) (v:c4):Bool:=l.ok && isNum v.view && isNum v.height && hash v.block && hash v.tag && dR v.who 0 (l.n - 1)
def PE (v:c4):Bytes:=ey v.view.toNat++(ey v.height.toNat++(v.block++(ey v.who.toNat++v.tag)))
structure Na (v:c4):Prop where
 view:isNum v.view=true
 height:isNum v.height=true
 block:v.block.length=32
 who:isNum v.who=true
 tag:v.tag.length=32
theorem GL {l:ao} {v:c4} (h:Ck l v=true):Na v:=by
 simp only[Ck,Bool.and_eq_true]at h
 have h1:=Mt h.1.1.1.1.1
 have h2:=eU h.2
 exact⟨h.1.1.1.1.2,h.1.1.1.2,j0 h.1.1.2,by simp[isNum,dR];omega,j0 h.1.2⟩
def bG (i n:Nat):Nat:=if h:n < 2 then 0 else
 have:=fC (n:=n) (by omega)
 if i < splitAt n then 1+bG i (splitAt n)else 1+bG (i - splitAt n) (n - splitAt n)
termination_by n
theorem rB {i n:Nat} (h:n < 2):bG i n=0:=by rw[bG,dif_pos h]
theorem uw {i n:Nat} (h:2≤n) (hi:i < splitAt n):bG i n=1+bG i (splitAt n):=by rw[bG,dif_neg (by omega),if_pos hi]
theorem uJ {i n:Nat} (h:2≤n) (hi:¬i < splitAt n):bG i n=1+bG (i - splitAt n) (n - splitAt n):=by rw[bG,dif_neg (by omega),if_neg hi]
theorem dz:∀(n i:Nat),bG i n≤n:=by
 intro n
 induction n using Nat.strongRecOn with
 |ind n ih=>
 intro i
 rcases Nat.lt_or_ge n 2 with h|h
 ·rw[rB h];omega
 ·have h1:=fC h
  by_cases hi:i < splitAt n
  ·rw[uw h hi];have:=ih (splitAt n) h1.2 i;omega
  ·rw[uJ h hi];have:=ih (n - splitAt n) (by omega) (i - splitAt n);omega
abbrev nb:Nat:=284
def oo:AF:=⟨2,6,[.tmp 4],(.seq (.ops [.i (.mov 4 (qi 0))]) (.seq (.seq (.ops [qm 6 1, .i (.bin 7 .lss (.s 6) (qi 2)),qm 8 7, .g 8 false 10 (.mov 9 (.s 1)), .g 8 false 11 (.bin 10 .gtr (.s 9) (qi 1048576)), .i (.pick 11 (.s 8) (qb true) (.s 10)),qm 12 11, .g 12 false 14 (.mov 13 (.s 0)), .g 12 false 15 (.mov 14 (.s 1)), .g 12 false 16 (.bin 15 .sub (.s 14) (qi 1)), .g 12 false 17 (.call 17 103 false [(.s 13),(qi 0),(.s 15)]), .g 12 false 18 (.not 17 (.s 16)), .i (.pick 18 (.s 12) (qb true) (.s 17))]) (.cond (.s 18) (.seq (.ops [.i (.mov 4 (qi 0))]) .ret) .skip)) (.seq (.ops [qm 19 1,qk 21 313 19,qm 5 20]) (.seq (.seq (.ops [qm 21 0,qm 22 5,qd 23 .lss 21 22]) (.cond (.s 23) (.seq (.ops [qm 24 0,qm 25 5, .i (.call 27 284 false [(.s 24),(.s 25)]), .i (.bin 27 .add (qi 1) (.s 26)),qm 4 27]) .ret) .skip)) (.seq (.ops [qm 28 0,qm 29 5,qd 30 .sub 28 29,qm 31 1,qm 32 5,qd 33 .sub 31 32, .i (.call 35 284 false [(.s 30),(.s 33)]), .i (.bin 35 .add (qi 1) (.s 34)),qm 4 35]) .ret)))))⟩
theorem y6:cd nb=some oo:=by kernel_rfl
theorem wv:∀(n i:Nat),i < n→n≤1048576→VC cd nb (bJ [(false,[.int .i64 (i:Int)]),(false,[.int .i64 (n:Int)])]) (fun rs _=>rs=it (bG i n)):=by
 intro n
 induction n using Nat.strongRecOn with
 |ind n ih=>
 intro i hi hn
 have hp:=dz n i
 have he:dR (i:Int) 0 ((n:Int) - 1)=true:=by simp only[dR,decide_eq_true_eq];omega
 refine aa y6 rfl ?_
 simp(disch:=omega) [oo,VY]
 refine aj (fun h1=> ?_) (fun h1=> ?_)
 ·simp(disch:=omega) [h1,rB (i:=i) (n:=n) (by omega),VY]
 have h2:2≤n:=by omega
 obtain⟨k1,k2⟩:=fC h2
 simp(disch:=omega) [h1,VY]
 refine aj (fun h3=> ?_) (fun h3=> ?_)
 ·omega
 simp(disch:=omega) [h1,h3,VY]
 refine cp (bA (i:Int) 0 ((n:Int) - 1)) ?_
 simp(disch:=omega) [h1,h3,he,VY]
 refine cp (lW n (by omega)) ?_
 simp(disch:=omega) [VY]
 refine aj (fun h4=> ?_) (fun h4=> ?_)
 ·have h5:i < splitAt n:=by omega
  have h6:=uw h2 h5
  simp(disch:=omega) [h4,VY]
  refine cp (ih (splitAt n) k2 i h5 (by omega)) ?_
  have h7:=dz (splitAt n) i
  simp(disch:=omega) [h6,VY]
 ·have h5:¬i < splitAt n:=by omega
  have h6:=uJ h2 h5
  have t1:(i:Int) - (splitAt n:Int)=((i - splitAt n:Nat):Int):=by omega
  have t2:(n:Int) - (splitAt n:Int)=((n - splitAt n:Nat):Int):=by omega
  simp(disch:=omega) [h4,t1,t2,VY]
  refine cp (ih (n - splitAt n) (by omega) (i - splitAt n) (by omega) (by omega)) ?_
  have h7:=dz (n - splitAt n) (i - splitAt n)
  simp(disch:=omega) [h6,VY]
abbrev tu:Nat:=273
def tz:AF:=⟨2,4,[.tmp 4],(.seq (.ops [.i (.mov 4 (qb false))]) (.seq (.ops [qm 5 1, .i (.call 7 67 false [(.s 5),(qi 1),(qi 1048576)]),qm 7 6, .g 7 true 9 (.mov 8 (.s 0)), .g 7 true 10 (.mov 9 (.s 1)), .g 7 true 11 (.bin 10 .sub (.s 9) (qi 1)), .g 7 true 12 (.call 12 67 false [(.s 8),(qi 0),(.s 10)]), .i (.pick 12 (.s 7) (.s 11) (qb false)),qm 4 12]) .ret))⟩
theorem BW:cd tu=some tz:=by kernel_rfl
theorem H6 (i n:Nat) (hn:n≤1048576):VC cd tu (bJ [(false,[.int .i64 (i:Int)]),(false,[.int .i64 (n:Int)])]) (fun rs _=>rs=bl (dR (n:Int) 1 1048576 && dR (i:Int) 0 ((n:Int) - 1))):=by
 refine aa BW rfl ?_
 simp(disch:=omega) [tz,VY]
 refine cp (dN (n:Int) 1 1048576) ?_
 simp(disch:=omega) [VY]
 refine dT (fun h1=> ?_) (fun h1=> ?_) <;>simp(disch:=omega) [h1,VY]
 refine cp (dN (i:Int) 0 ((n:Int) - 1)) ?_
 simp(disch:=omega) [h1,VY]
abbrev mH:Nat:=193
def mP:AF:=⟨2,5,[.tmp 4],(.seq (.ops [.i (.mov 4 (qi 0))]) (.seq (.seq (.ops [qm 6 0,qm 7 1, .i (.call 9 273 false [(.s 6),(.s 7)]), .i (.not 9 (.s 8)),qm 10 9, .g 10 false 12 (.mov 11 (.s 1)), .g 10 false 13 (.bin 12 .eql (.s 11) (qi 1)), .i (.pick 13 (.s 10) (qb true) (.s 12))]) (.cond (.s 13) (.seq (.ops [.i (.mov 4 (qi 0))]) .ret) .skip)) (.seq (.ops [qm 14 1,qk 16 271 14,qm 5 15]) (.seq (.seq (.ops [qm 16 0,qm 17 5,qd 18 .lss 16 17]) (.cond (.s 18) (.seq (.ops [qm 19 0,qm 20 5, .i (.call 22 193 false [(.s 19),(.s 20)]), .i (.bin 22 .add (qi 1) (.s 21)),qm 4 22]) .ret) .skip)) (.seq (.ops [qm 23 0,qm 24 5,qd 25 .sub 23 24,qm 26 1,qm 27 5,qd 28 .sub 26 27, .i (.call 30 193 false [(.s 25),(.s 28)]), .i (.bin 30 .add (qi 1) (.s 29)),qm 4 30]) .ret)))))⟩
theorem xx:cd mH=some mP:=by kernel_rfl
theorem vG:∀(n i:Nat),i < n→n≤1048576→VC cd mH (bJ [(false,[.int .i64 (i:Int)]),(false,[.int .i64 (n:Int)])]) (fun rs _=>rs=it (bG i n)):=by
 intro n
 induction n using Nat.strongRecOn with
 |ind n ih=>
 intro i hi hn
 have hp:=dz n i
 have he:dR (i:Int) 0 ((n:Int) - 1)=true:=by simp only[dR,decide_eq_true_eq];omega
 have he2:dR (n:Int) 1 1048576=true:=by simp only[dR,decide_eq_true_eq];omega
 refine aa xx rfl ?_
 simp(disch:=omega) [mP,VY]
 refine cp (H6 i n hn) ?_
 simp(disch:=omega) [he,he2,VY]
 refine aj (fun h1=> ?_) (fun h1=> ?_)
 ·simp(disch:=omega) [h1,rB (i:=i) (n:=n) (by omega),VY]
 have h2:2≤n:=by omega
 obtain⟨k1,k2⟩:=fC h2
 simp(disch:=omega) [h1,VY]
 refine cp (lE n (by omega)) ?_
 simp(disch:=omega) [VY]
 refine aj (fun h4=> ?_) (fun h4=> ?_)
 ·have h5:i < splitAt n:=by omega
  have h6:=uw h2 h5
  simp(disch:=omega) [h4,VY]
  refine cp (ih (splitAt n) k2 i h5 (by omega)) ?_
  have h7:=dz (splitAt n) i
  simp(disch:=omega) [h6,VY]
 ·have h5:¬i < splitAt n:=by omega
  have h6:=uJ h2 h5
  have t1:(i:Int) - (splitAt n:Int)=((i - splitAt n:Nat):Int):=by omega
  have t2:(n:Int) - (splitAt n:Int)=((n - splitAt n:Nat):Int):=by omega
  simp(disch:=omega) [h4,t1,t2,VY]
  refine cp (ih (n - splitAt n) (by omega) (i - splitAt n) (by omega) (by omega)) ?_
  have h7:=dz (n - splitAt n) (i - splitAt n)
  simp(disch:=omega) [h6,VY]
def nJ (l:ao) (x:cq):Bool:=l.ok && isNum x.height && dR x.n 1 l.txs && dR x.idx 0 (x.n - 1) && decide ((x.tx.length:Int)≤l.tx) && decide (x.path.length=bG x.idx.toNat x.n.toNat) && hashes x.path
def GF (x:cq):Bytes:=ey x.height.toNat++(ey x.n.toNat++(ey x.idx.toNat++(Ba x.tx++x.path.flatten)))
def Gt (l:ao) (t:Tc) (i:Nat):Bool:=match t.entries[i]? with
 |some e=>dR e.who 0 (l.n - 1) && dR e.high 0 (t.view - 1) && hash e.tag && (decide (i=0)||match t.entries[i - 1]? with|some d=>decide (d.who < e.who)|none=>false)
 |none=>false
def C4 (l:ao) (t:Tc):Bool:=l.ok && isNum t.view && decide ((t.entries.length:Int)≤l.n) && (List.range t.entries.length).all (Gt l t)
def Pb (e:Entry):Bytes:=ey e.who.toNat++(ey e.high.toNat++e.tag)
def PD (t:Tc):Bytes:=ey t.view.toNat++(ey t.entries.length++(t.entries.map Pb).flatten)
def BZ (x:Block):Bytes:=sV x.head++(ey x.txs.length++(x.txs.map Ba).flatten)
def BU (p:Proof):Bytes:=ey p.heads.length++((p.heads.map sV).flatten++M5 p.qc)
end Go.Eng.F
namespace Go.Eng.F
structure cm where
 kind:Int
 vote:c4
 qc:Qc
 head:Head
 block:Block
 tc:Tc
 proof:Proof
 incl:cq
def cm.c (m:cm):List D:= [.int .i64 m.kind, .int .i64 m.vote.view, .int .i64 m.vote.height, .sl (bytes m.vote.block), .int .i64 m.vote.who, .sl (bytes m.vote.tag), .int .i64 m.qc.view, .int .i64 m.qc.height, .sl (bytes m.qc.block), .sl (bytes m.qc.bits), .sl (df m.qc.tags), .int .i64 m.head.view, .int .i64 m.head.height, .int .i64 m.head.proposer, .sl (bytes m.head.parent), .sl (bytes m.head.root), .int .i64 m.head.qc.view, .int .i64 m.head.qc.height, .sl (bytes m.head.qc.block), .sl (bytes m.head.qc.bits), .sl (df m.head.qc.tags), .int .i64 m.block.head.view, .int .i64 m.block.head.height, .int .i64 m.block.head.proposer, .sl (bytes m.block.head.parent), .sl (bytes m.block.head.root), .int .i64 m.block.head.qc.view, .int .i64 m.block.head.qc.height, .sl (bytes m.block.head.qc.block), .sl (bytes m.block.head.qc.bits), .sl (df m.block.head.qc.tags), .sl (df m.block.txs), .int .i64 m.tc.view, .sl (AZ m.tc.entries), .sl (uL m.proof.heads), .int .i64 m.proof.qc.view, .int .i64 m.proof.qc.height, .sl (bytes m.proof.qc.block), .sl (bytes m.proof.qc.bits), .sl (df m.proof.qc.tags), .int .i64 m.incl.height, .int .i64 m.incl.n, .int .i64 m.incl.idx, .sl (bytes m.incl.tx), .sl (df m.incl.path)]
def Block.wx (x:Block):Prop:=x.wc∧∀t∈x.txs,t.length≤100000000
structure cm.wc (m:cm):Prop where
 kind:oN m.kind
 vote:m.vote.wf
 qc:m.qc.wc
 head:m.head.wc
 block:m.block.wx
 tc:m.tc.wf
 proof:m.proof.wc
 incl:m.incl.wc
 tx:m.incl.tx.length≤100000000
def bn:c4:=⟨0,0,[],0,[]⟩
def gA:Qc:=⟨0,0,[],[],[]⟩
def bj:Head:=⟨0,0,0,[],[],gA⟩
def aL:Block:=⟨bj,[]⟩
def hG:Tc:=⟨0,[]⟩
def aK:Proof:=⟨[],gA⟩
def bo:cq:=⟨0,0,0,[],[]⟩
def az:cm:=⟨0,bn,gA,bj,aL,hG,aK,bo⟩
theorem iA:az.wc:=by
 constructor <;>simp[az,bn,gA,bj,aL,hG,aK,bo,oN,Sz,c4.wf,Qc.wc,Qc.wf,Head.wc,Head.wf,Block.wx,Block.wc,Gy,Tc.wf,Proof.wc,Proof.wf,Ci,cq.wc]
def Bb (a b:cm):Bool:=decide (a.kind=b.kind) && xC a.vote b.vote && yB a.qc b.qc && ng a.head b.head && uO a.block b.block && E6 a.tc b.tc && u6 a.proof b.proof && x3 a.incl b.incl
def gX (m:cm):cm:=if m.kind=1 then {az with kind:=1,vote:=m.vote}else if m.kind=2 then {az with kind:=2,qc:=m.qc}else if m.kind=3 then {az with kind:=3,head:=m.head}else if m.kind=4 then {az with kind:=4,block:=m.block}else if m.kind=5 then {az with kind:=5,tc:=m.tc}else if m.kind=6 then {az with kind:=6,proof:=m.proof}else if m.kind=7 then {az with kind:=7,incl:=m.incl}else az
def dH (l:ao) (m:cm):Bool:=if m.kind=1 then Ck l m.vote else if m.kind=2 then oy l m.qc else if m.kind=3 then eC l m.head else if m.kind=4 then jq l m.block else if m.kind=5 then C4 l m.tc else if m.kind=6 then jd l m.proof else if m.kind=7 then nJ l m.incl else false
def eK (m:cm):Bytes:=if m.kind=1 then PE m.vote else if m.kind=2 then M5 m.qc else if m.kind=3 then sV m.head else if m.kind=4 then BZ m.block else if m.kind=5 then PD m.tc else if m.kind=6 then BU m.proof else GF m.incl
theorem mG {l:ao} {m:cm} (h:dH l m=true):m.kind=1∨m.kind=2∨m.kind=3∨m.kind=4∨m.kind=5∨m.kind=6∨m.kind=7:=by
 unfold dH at h
 repeat' split at h
 all_goals first|(simp at h;done)|omega
def eV (l:ao) (m:cm):Bool:=dH l m && Bb m (gX m)
end Go.Eng.F
namespace Go.Eng.F
open Go.Eng.U (za c8 TLimits vq iZ LQ fx vt mj)
def c4.tv (x:c4):Tv:= .r [.i x.view, .i x.height,vA x.block, .i x.who,vA x.tag]
theorem c4.enc (x:c4):enc vq x.tv=x.c:=by simp only[c4.tv,fc,ck,cY,dY,fj,gM,gK,ei,gV,c4.c,List.cons_append,List.nil_append,List.append_assoc]
theorem c4.ex {v:Tv} (h:aC vq v):∃x:c4,v=x.tv:=by
 obtain⟨vs,rfl,h⟩:=h.st
 obtain⟨v0,_,rfl,h0,h⟩:=h.step
 obtain⟨v1,_,rfl,h1,h⟩:=h.step
 obtain⟨v2,_,rfl,h2,h⟩:=h.step
 obtain⟨v3,_,rfl,h3,h⟩:=h.step
 obtain⟨v4,_,rfl,h4,h⟩:=h.step
 obtain rfl:=h.fin
 obtain⟨n0,rfl,_⟩:=h0.int
 obtain⟨n1,rfl,_⟩:=h1.int
 obtain⟨n2,rfl⟩:=i0 h2
 obtain⟨n3,rfl,_⟩:=h3.int
 obtain⟨n4,rfl⟩:=i0 h4
 exact⟨⟨n0,n1,n2,n3,n4⟩,rfl⟩
theorem c4.of {x:c4} (h:aC vq x.tv) (hw:wt x.tv≤1048576):x.wf:=by
 simp only[c4.tv,dg,bc]at h
 simp only[c4.tv,wt,dw]at hw
 obtain⟨h0,h1,h2,h3,h4,_⟩:=h
 exact⟨eJ (ok_int.1 h0),eJ (ok_int.1 h1),pP (by omega),eJ (ok_int.1 h3),pP (by omega)⟩
theorem c4.wf.tok {x:c4} (h:x.wf):aC vq x.tv:=by
 simp only[c4.tv,dg,bc]
 obtain⟨h0,h1,h2,h3,h4⟩:=h
 exact⟨dZ h0,dZ h1,pW h2,dZ h3,pW h4,eS.2 trivial⟩
def cq.tv (x:cq):Tv:= .r [.i x.height, .i x.n, .i x.idx,vA x.tx,eX x.path]
theorem cq.enc (x:cq):enc vt x.tv=x.c:=by simp only[cq.tv,fc,ck,cY,dY,fj,gM,gK,ei,gV,cq.c,List.cons_append,List.nil_append,List.append_assoc]
theorem cq.ex {v:Tv} (h:aC vt v):∃x:cq,v=x.tv:=by
 obtain⟨vs,rfl,h⟩:=h.st
 obtain⟨v0,_,rfl,h0,h⟩:=h.step
 obtain⟨v1,_,rfl,h1,h⟩:=h.step
 obtain⟨v2,_,rfl,h2,h⟩:=h.step
 obtain⟨v3,_,rfl,h3,h⟩:=h.step
 obtain⟨v4,_,rfl,h4,h⟩:=h.step
 obtain rfl:=h.fin
 obtain⟨n0,rfl,_⟩:=h0.int
 obtain⟨n1,rfl,_⟩:=h1.int
 obtain⟨n2,rfl,_⟩:=h2.int
 obtain⟨n3,rfl⟩:=i0 h3
 obtain⟨n4,rfl⟩:=wF h4
 exact⟨⟨n0,n1,n2,n3,n4⟩,rfl⟩
theorem cq.of {x:cq} (h:aC vt x.tv) (hw:wt x.tv≤1048576):x.wc:=by
 simp only[cq.tv,dg,bc]at h
 simp only[cq.tv,wt,dw]at hw
 obtain⟨h0,h1,h2,h3,h4,_⟩:=h
 exact⟨eJ (ok_int.1 h0),eJ (ok_int.1 h1),eJ (ok_int.1 h2),pP (by omega),E1 (by omega)⟩
theorem cq.wc.tok {x:cq} (h:x.wc):aC vt x.tv:=by
 simp only[cq.tv,dg,bc]
 obtain⟨h0,h1,h2,h3,h4⟩:=h
 exact⟨dZ h0,dZ h1,dZ h2,pW h3,FI h4.1 h4.2,eS.2 trivial⟩
def cm.tv (m:cm):Tv:= .r [.i m.kind,m.vote.tv,m.qc.tv,m.head.tv,m.block.tv,m.tc.tv,m.proof.tv,m.incl.tv]
theorem cm.enc (m:cm):enc mj m.tv=m.c:=by simp only[cm.tv,fc,ck,cY,dY,c4.enc,Qc.enc,Head.enc,Block.enc,Tc.enc,Proof.enc,cq.enc,cm.c,c4.c,Qc.c,Head.c,Block.c,Tc.c,Proof.c,cq.c,List.cons_append,List.nil_append,List.append_assoc,List.append_nil]
theorem cm.ex {v:Tv} (h:aC mj v):∃m:cm,v=m.tv:=by
 obtain⟨vs,rfl,h⟩:=h.st
 obtain⟨v0,_,rfl,h0,h⟩:=h.step
 obtain⟨v1,_,rfl,h1,h⟩:=h.step
 obtain⟨v2,_,rfl,h2,h⟩:=h.step
 obtain⟨v3,_,rfl,h3,h⟩:=h.step
 obtain⟨v4,_,rfl,h4,h⟩:=h.step
 obtain⟨v5,_,rfl,h5,h⟩:=h.step
 obtain⟨v6,_,rfl,h6,h⟩:=h.step
 obtain⟨v7,_,rfl,h7,h⟩:=h.step
 obtain rfl:=h.fin
 obtain⟨n0,rfl,_⟩:=h0.int
 obtain⟨n1,rfl⟩:=c4.ex h1
 obtain⟨n2,rfl⟩:=Qc.ex h2
 obtain⟨n3,rfl⟩:=Head.ex h3
 obtain⟨n4,rfl⟩:=Block.ex h4
 obtain⟨n5,rfl⟩:=Tc.ex h5
 obtain⟨n6,rfl⟩:=Proof.ex h6
 obtain⟨n7,rfl⟩:=cq.ex h7
 exact⟨⟨n0,n1,n2,n3,n4,n5,n6,n7⟩,rfl⟩
theorem cm.of {m:cm} (h:aC mj m.tv) (hw:wt m.tv≤1048576):m.wc:=by
 simp only[cm.tv,dg,bc]at h
 simp only[cm.tv,wt,dw]at hw
 obtain⟨h0,h1,h2,h3,h4,h5,h6,h7,_⟩:=h
 have hb:wt m.block.tv=wt m.block.head.tv+(wt (eX m.block.txs)+0):=by simp only[Block.tv,wt,dw]
 have hi:wt m.incl.tv=0+(0+(0+(wt (vA m.incl.tx)+(wt (eX m.incl.path)+0)))):=by simp only[cq.tv,wt,dw]
 refine⟨eJ (ok_int.1 h0),c4.of h1 (by omega),Qc.of h2 (by omega),Head.of h3 (by omega),⟨Block.of h4 (by omega),fun t ht=> ?_⟩,Tc.of h5 (by omega),Proof.Qu h6 (by omega),cq.of h7 (by omega),?_⟩
 ·have:=(Kd m.block.txs).2 t ht
  omega
 ·rw[nm]at hi
  omega
end Go.Eng.F
namespace Go.Eng.F
open Go.Eng.U (c8 TLimits mj)
def gh (m:cm):UInt8:=UInt8.ofNat m.kind.toNat
theorem yA {l:ao} {m:cm} (h:eV l m=true):dH l m=true:=by
 simp only[eV,Bool.and_eq_true]at h
 exact h.1
end Go.Eng.F
namespace Go.Eng.F
def gv:Bytes→Nat→Nat→Nat×Nat×Nat
 | [],_,_=>(0,0,1)
 |c::r,k,n=>
  if(0 < k∧c.toNat=0)∨(k=8∧128≤c.toNat)then(0,0,2)
  else if c.toNat < 128 then(if n+c.toNat * 128 ^ k≤1152921504606846975 then(n+c.toNat * 128 ^ k,k+1,0)else(0,0,2))
  else gv r (k+1) (n+(c.toNat - 128) * 128 ^ k)
structure Rd where
 at_:Nat
 er:Nat
def getVar (b:Bytes) (a:Nat):Nat×Rd:=
 let x:=gv (b.drop a) 0 0
 if x.2.2=0 then(x.1,⟨a+x.2.1,0⟩)else(0,⟨0,x.2.2⟩)
def dh (b:Bytes) (a n:Nat):Bytes×Rd:=if a+n≤b.length then((b.drop a).take n,⟨a+n,0⟩)else([],⟨0,1⟩)
def et (b:Bytes) (a m:Nat):Bytes×Rd:=
 let x:=getVar b a
 if x.2.er≠0 then([],⟨0,x.2.er⟩)else if m < x.1 then([],⟨0,3⟩)else dh b x.2.at_ x.1
def bH (b:Bytes) (a:Nat) (n:Int):Bytes×Rd:=
 let x:=dh b a (vu n).toNat
 if x.2.er≠0 then([],⟨0,x.2.er⟩)else if eo x.1 n then x else([],⟨0,4⟩)
def aO (b:Bytes) (r:Rd):Nat×Rd:=if r.er=0 then getVar b r.at_ else(0,r)
def ax (r:Rd) (bad:Bool) (c:Nat):Rd:=if r.er=0∧bad=true then⟨r.at_,c⟩else r
def aM (b:Bytes) (r:Rd) (n:Int) (c:Nat):Nat×Rd:=((aO b r).1,ax (aO b r).2 (decide (n≤((aO b r).1:Int))) c)
def ba (b:Bytes) (r:Rd) (n:Nat):Bytes×Rd:=if r.er=0 then dh b r.at_ n else([],r)
def bZ (b:Bytes) (r:Rd) (m:Nat):Bytes×Rd:=if r.er=0 then et b r.at_ m else([],r)
def Rd.wf (b:Bytes) (r:Rd):Prop:=r.at_≤b.length∧r.er≤9
theorem Mn:∀(s:Bytes) (k n:Nat),k≤8→(gv s k n).2.1≤k+s.length∧(gv s k n).2.2≤2∧(gv s k n).1≤1152921504606846975∧((gv s k n).2.2=0→k < (gv s k n).2.1)
 | [],k,n,h=>by simp[gv]
 |c::r,k,n,h=>by
  rw[gv]
  split
  ·simp
  ·rename_i h1
   split
   ·split
    ·rename_i h3;simp only[List.length_cons];omega
    ·simp
   ·rename_i h2
    have:=Mn r (k+1) (n+(c.toNat - 128) * 128 ^ k) (by omega)
    simp only[List.length_cons]
    omega
theorem pg {b:Bytes} {a:Nat} (h:a≤b.length):(getVar b a).2.wf b∧(getVar b a).1≤1152921504606846975:=by
 have h1:=Mn (b.drop a) 0 0 (by omega)
 simp only[List.length_drop]at h1
 simp only[getVar]
 split
 ·exact⟨⟨by simp only;omega,by simp⟩,h1.2.2.1⟩
 ·exact⟨⟨by simp,by simp only;omega⟩,by simp⟩
theorem j9 (b:Bytes) (a n:Nat):(dh b a n).2.wf b∧(dh b a n).1.length≤n∧(dh b a n).1.length≤b.length:=by
 unfold dh
 split
 ·exact⟨⟨by simp only;omega,by simp⟩,by simp;omega,by simp;omega⟩
 ·exact⟨⟨by simp,by simp⟩,by simp,by simp⟩
theorem EU {b:Bytes} {a m:Nat} (h:a≤b.length):(et b a m).2.wf b∧(et b a m).1.length≤m∧(et b a m).1.length≤b.length:=by
 have h1:=pg h
 simp only[et]
 split
 ·exact⟨⟨by simp,h1.1.2⟩,by simp,by simp⟩
 ·split
  ·exact⟨⟨by simp,by simp⟩,by simp,by simp⟩
  ·have:=j9 b (getVar b a).2.at_ (getVar b a).1
   exact⟨this.1,by omega,this.2.2⟩
theorem EN (b:Bytes) (a:Nat) (n:Int):(bH b a n).2.wf b∧(bH b a n).1.length≤b.length:=by
 have h1:=j9 b a (vu n).toNat
 simp only[bH]
 split
 ·exact⟨⟨by simp,h1.1.2⟩,by simp⟩
 ·split
  ·exact⟨h1.1,h1.2.2⟩
  ·exact⟨⟨by simp,by simp⟩,by simp⟩
theorem aT {b:Bytes} {r:Rd} (h:r.wf b):(aO b r).2.wf b∧(aO b r).1≤1152921504606846975:=by
 unfold aO
 split
 ·exact pg h.1
 ·exact⟨h,by simp⟩
theorem aX {b:Bytes} {r:Rd} (h:r.wf b) {bad:Bool} {c:Nat} (hc:c≤9):(ax r bad c).wf b:=by
 unfold ax
 split
 ·exact⟨h.1,hc⟩
 ·exact h
theorem cP {b:Bytes} {r:Rd} (h:r.wf b) {n:Int} {c:Nat} (hc:c≤9):(aM b r n c).2.wf b∧(aM b r n c).1≤1152921504606846975:=⟨aX (aT h).1 hc,(aT h).2⟩
theorem bU {b:Bytes} {r:Rd} (h:r.wf b) (n:Nat):(ba b r n).2.wf b∧(ba b r n).1.length≤n∧(ba b r n).1.length≤b.length:=by
 unfold ba
 split
 ·exact j9 b _ n
 ·exact⟨h,by simp,by simp⟩
theorem fi {b:Bytes} {r:Rd} (h:r.wf b) (m:Nat):(bZ b r m).2.wf b∧(bZ b r m).1.length≤m∧(bZ b r m).1.length≤b.length:=by
 unfold bZ
 split
 ·exact EU h.1
 ·exact⟨h,by simp,by simp⟩
def CQ (x:Nat×Rd):List (Bool×List E):= [(false,[.p (.int .i64 (x.1:Int))]),(false,[.p (.int .i64 (x.2.at_:Int))]),(false,[.p (.int .i64 (x.2.er:Int))])]
def tN (x:Bytes×Rd):List (Bool×List E):= [(false,[.o true (some (5,1)) (bytes x.1)]),(false,[.p (.int .i64 (x.2.at_:Int))]),(false,[.p (.int .i64 (x.2.er:Int))])]
theorem F8 {b:Bytes} {a k n:Nat} (h:a+k < b.length):gv (b.drop (a+k)) k n=(if(0 < k∧b[a+k].toNat=0)∨(k=8∧128≤b[a+k].toNat)then(0,0,2)
 else if b[a+k].toNat < 128 then(if n+b[a+k].toNat * 128 ^ k≤1152921504606846975 then(n+b[a+k].toNat * 128 ^ k,k+1,0)else(0,0,2))
 else gv (b.drop (a+k+1)) (k+1) (n+(b[a+k].toNat - 128) * 128 ^ k)):=by
 rw[List.drop_eq_getElem_cons h,gv]
theorem Ju {b:Bytes} {a k n:Nat} (h:b.length≤a+k):gv (b.drop (a+k)) k n=(0,0,1):=by
 rw[List.drop_eq_nil_of_le h,gv]
end Go.Eng.F
namespace Go.Eng.F
def eA {α:Type} (f:Rd→α×Rd):Nat→Rd→List α×Rd
 |0,r=>([],r)
 |k+1,r=>((f r).1::(eA f k (f r).2).1,(eA f k (f r).2).2)
def bm {α:Type} (f:Rd→α×Rd):Nat→Rd→List α×Rd
 |0,r=>([],r)
 |k+1,r=>if r.er=0 then((f r).1::(bm f k (f r).2).1,(bm f k (f r).2).2)else([],r)
theorem BF {α:Type} {b:Bytes} {f:Rd→α×Rd} (h:∀r,r.wf b→(f r).2.wf b):∀(k:Nat) (r:Rd),r.wf b→(eA f k r).2.wf b
 |0,r,hr=>hr
 |k+1,r,hr=>BF h k _ (h r hr)
theorem yi {α:Type} {b:Bytes} {f:Rd→α×Rd} (h:∀r,r.wf b→(f r).2.wf b):∀(k:Nat) (r:Rd),r.wf b→(bm f k r).2.wf b
 |0,r,hr=>hr
 |k+1,r,hr=>by
  rw[bm]
  split
  ·exact yi h k _ (h r hr)
  ·exact hr
theorem sG {α:Type} {f:Rd→α×Rd}:∀(k:Nat) (r:Rd),(eA f k r).1.length=k
 |0,r=>rfl
 |k+1,r=>by simp only[eA,List.length_cons,sG k]
theorem DW {α:Type} {b:Bytes} {f:Rd→α×Rd} {p:α→Prop} (h:∀r,r.wf b→(f r).2.wf b∧p (f r).1):∀(k:Nat) (r:Rd),r.wf b→∀x∈(eA f k r).1,p x
 |0,r,hr,x,hx=>by simp[eA]at hx
 |k+1,r,hr,x,hx=>by
  simp only[eA]at hx
  rcases List.mem_cons.1 hx with rfl|hx
  ·exact(h r hr).2
  ·exact DW h k _ (h r hr).1 x hx
theorem jE {α:Type} {b:Bytes} {f:Rd→α×Rd} {p:α→Prop} (h:∀r,r.wf b→(f r).2.wf b∧p (f r).1):∀(k:Nat) (r:Rd),r.wf b→∀x∈(bm f k r).1,p x
 |0,r,hr,x,hx=>by simp[bm]at hx
 |k+1,r,hr,x,hx=>by
  rw[bm]at hx
  split at hx
  ·rcases List.mem_cons.1 hx with rfl|hx
   ·exact(h r hr).2
   ·exact jE h k _ (h r hr).1 x hx
  ·cases hx
def eG (b:Bytes) (l:ao) (r:Rd):c4×Rd:=
 let v:=aO b r
 let h:=aO b v.2
 let k:=ba b h.2 32
 let w:=aM b k.2 l.n 5
 let t:=ba b w.2 32
 (⟨v.1,h.1,k.1,w.1,t.1⟩,t.2)
def kb (b:Bytes) (l:ao) (r:Rd):Qc×Rd:=
 let v:=aO b r
 let h:=aO b v.2
 let k:=ba b h.2 32
 if k.2.er=0 then
  let x:=bH b k.2.at_ l.n
  let t:=eA (fun r=>ba b r 32) (a9 x.1).length x.2
  (⟨v.1,h.1,k.1,x.1,t.1⟩,t.2)
 else(⟨v.1,h.1,k.1,[],[]⟩,k.2)
def bK (b:Bytes) (l:ao) (r:Rd):Head×Rd:=
 let v:=aO b r
 let h:=aO b v.2
 let p:=aM b (ax h.2 (decide (h.1=0)) 5) l.n 5
 let pa:=ba b p.2 32
 let ro:=ba b pa.2 32
 let q:=kb b l ro.2
 (⟨v.1,h.1,p.1,pa.1,ro.1,q.1⟩,ax q.2 (!fits ⟨v.1,h.1,p.1,pa.1,ro.1,q.1⟩) 6)
def cz (b:Bytes) (l:ao) (r:Rd):Block×Rd:=
 let h:=bK b l r
 let n:=aM b h.2 (l.txs+1) 3
 let x:=bm (fun r=>bZ b r l.tx.toNat) n.1 n.2
 (⟨h.1,x.1⟩,ax x.2 (decide (h.1.root≠bx x.1)) 7)
def eF (b:Bytes) (l:ao) (view:Int):Nat→Int→Rd→List Entry×Rd
 |0,_,r=>([],r)
 |k+1,bf,r=>if r.er=0 then
   let w:=aM b r l.n 5
   let h:=aM b (ax w.2 (decide ((w.1:Int)≤bf)) 6) view 6
   let t:=ba b h.2 32
   (⟨w.1,h.1,t.1⟩::(eF b l view k w.1 t.2).1,(eF b l view k w.1 t.2).2)
  else([],r)
def uX (b:Bytes) (l:ao) (r:Rd):Tc×Rd:=
 let v:=aO b r
 let n:=aM b v.2 (l.n+1) 3
 let e:=eF b l v.1 n.1 (-1) n.2
 (⟨v.1,e.1⟩,e.2)
def b7 (b:Bytes) (l:ao) (r:Rd):Proof×Rd:=
 let n:=aO b r
 let h:=bm (bK b l) n.1 (ax (ax n.2 (decide (n.1 < 3)) 5) (decide (l.heads < (n.1:Int))) 3)
 let q:=kb b l h.2
 (⟨h.1,q.1⟩,ax q.2 (!kA ⟨h.1,q.1⟩) 6)
def bu (b:Bytes) (l:ao) (r:Rd):(Nat×Nat×Nat×Bytes)×Rd:=
 let h:=aO b r
 let n:=aO b h.2
 let a:=aM b (ax (ax n.2 (decide (n.1=0)) 5) (decide (l.txs < (n.1:Int))) 3) n.1 5
 let t:=bZ b a.2 l.tx.toNat
 ((h.1,n.1,a.1,t.1),t.2)
def At (b:Bytes) (a:Nat) (s:Bytes):Prop:=∃t,b.drop a=s++t
theorem At.app {b:Bytes} {a:Nat} {s t:Bytes} (h:At b a (s++t)):At b a s∧At b (a+s.length) t:=by
 obtain⟨u,h⟩:=h
 refine⟨⟨t++u,by rw[h,List.append_assoc]⟩,u,?_⟩
 rw[←List.drop_drop,h,List.append_assoc,List.drop_left]
theorem At.len {b:Bytes} {a:Nat} {s:Bytes} (h:At b a s):a+s.length≤b.length∨s= []:=by
 obtain⟨u,h⟩:=h
 have h2:=congrArg List.length h
 simp only[List.length_drop,List.length_append]at h2
 by_cases hs:s= []
 ·exact .inr hs
 ·have:=List.length_pos_iff.2 hs
  exact .inl (by omega)
theorem At.take {b:Bytes} {a:Nat} {s:Bytes} (h:At b a s):(b.drop a).take s.length=s:=by
 obtain⟨u,h⟩:=h
 rw[h,List.take_left]
theorem Nm {n:Nat} (h:n < 256):(UInt8.ofNat n).toNat=n:=by simp[UInt8.toNat_ofNat'];omega
end Go.Eng.F
namespace Go.Eng.F
def av (b:Bytes) (r:Rd):List E0:= [.p (.sl (bytes b)), .p (.int .i64 (r.at_:Int)), .p (.int .i64 (r.er:Int))]
theorem ia (b:Bytes) (a n:Nat) (ha:a≤b.length) (hb:b.length≤1073741824) (hn:n≤2000000000000000000):VC cd jt (bJ [(false,[.sl (bytes b)]),(false,[.int .i64 (a:Int)]),(false,[.int .i64 (n:Int)])]) (fun rs _=>rs=tN (dh b a n)):=by
 by_cases h:a+n≤b.length
 ·refine(nB b a n h hb).mono fun rs _ q=> ?_
  rw[q,tN,dh,if_pos h]
  rfl
 ·refine VC.ic ?_
  have e1:dR (a:Int) 0 (b.length:Int)=true:=by simp[dR];omega
  have e2:dR (n:Int) 0 ((b.length:Int) - (a:Int))=false:=by simp[dR];omega
  refine aa re rfl ?_
  simp(disch:=omega) [jx,VY]
  refine an (bA _ _ _) rfl rfl ?_
  simp(disch:=omega) [e1,VY]
  refine an (bA _ _ _) rfl rfl ?_
  simp(disch:=omega) [e2,aI,aJ,aP,ab,tN,dh,h,VY]
abbrev qD:Nat:=264
def qN:AF:=⟨3,6,[.tmp 6, .tmp 7, .tmp 8],(.seq (.ops [.i (.mov 6 (.c (.val false [.nils]))), .i (.mov 7 (qi 0)), .i (.mov 8 (qi 0))]) (.seq (.seq (.ops [qm 9 1, .i (.bin 10 .lss (.s 9) (qi 0)),qm 11 10, .g 11 false 13 (.mov 12 (.s 2)), .g 11 false 14 (.bin 13 .lss (.s 12) (qi 0)), .i (.pick 14 (.s 11) (qb true) (.s 13)),qm 15 14, .g 15 false 17 (.mov 16 (.s 1)), .g 15 false 18 (.mov 17 (.s 0)), .g 15 false 19 (.len 18 false (.s 17)), .g 15 false 20 (.bin 19 .gtr (.s 16) (.s 18)), .i (.pick 20 (.s 15) (qb true) (.s 19)),qm 21 20, .g 21 false 23 (.mov 22 (.s 2)), .g 21 false 24 (.mov 23 (.s 0)), .g 21 false 25 (.len 24 false (.s 23)), .g 21 false 26 (.mov 25 (.s 1)), .g 21 false 27 (.bin 26 .sub (.s 24) (.s 25)), .g 21 false 28 (.bin 27 .gtr (.s 22) (.s 26)), .i (.pick 28 (.s 21) (qb true) (.s 27))]) (.cond (.s 28) (.seq (.ops [.i (.mov 6 (.c (.val false [.nils]))), .i (.mov 7 (qi 0)), .i (.mov 8 (qi 1))]) .ret) .skip)) (.seq (.ops [qm 29 0,qm 30 1,qm 31 1,qm 32 2,qd 33 .add 31 32, .i (.fb 34 1 (.s 29) (some (.s 30)) (some (.s 33))),qk 36 43 34,qm 36 1,qm 37 2,qd 38 .add 36 37,qm 6 35,qm 7 38, .i (.mov 8 (qi 0))]) .ret)))⟩
theorem zP:cd qD=some qN:=by kernel_rfl
theorem hY (b:Bytes) (a n:Nat) (ha:a≤b.length) (hb:b.length≤1073741824) (hn:n≤2000000000000000000):VC cd qD (bJ [(false,[.sl (bytes b)]),(false,[.int .i64 (a:Int)]),(false,[.int .i64 (n:Int)])]) (fun rs _=>rs=tN (dh b a n)):=by
 refine VC.ic ?_
 have f1:¬((a:Int) < 0):=by omega
 have f2:¬((n:Int) < 0):=by omega
 have f3:¬((b.length:Int) < (a:Int)):=by omega
 refine aa zP rfl ?_
 simp(disch:=omega) [qN,f1,f2,f3,VY]
 by_cases h:a+n≤b.length
 ·have f4:¬((b.length:Int) - (a:Int) < (n:Int)):=by omega
  have e3:((bytes b).drop a).take n=bytes ((b.drop a).take n):=by simp[bytes]
  have e4:((a:Int)+(n:Int) - (a:Int)).toNat=n:=by omega
  have e5:(a:Int)+(n:Int)≤(b.length:Int):=by omega
  have e6:(a:Int)≤(a:Int)+(n:Int):=by omega
  simp(disch:=omega) [f4,e3,e4,e5,e6,VY]
  refine cp (gI ((b.drop a).take n) (by simp;omega)) ?_
  simp(disch:=omega) [aI,aJ,aP,ab,tN,dh,h,VY]
 ·have f4:(b.length:Int) - (a:Int) < (n:Int):=by omega
  simp(disch:=omega) [f4,aI,aJ,aP,ab,tN,dh,h,VY]
theorem M3 (c:UInt8):aH .and .u8 (c.toNat:Int) 127=((c.toNat % 128:Nat):Int):=by
 have h:=c.toNat_lt
 show IntKind.u8.wrap ((BitVec.ofInt 8 (c.toNat:Int) &&& BitVec.ofInt 8 127).toNat:Int)=_
 rw[BitVec.toNat_and,show BitVec.ofInt 8 (c.toNat:Int)=BitVec.ofNat 8 c.toNat from rfl,BitVec.toNat_ofNat,Nat.mod_eq_of_lt (by omega),show(BitVec.ofInt 8 127).toNat=2 ^ 7 - 1 from rfl,Nat.and_two_pow_sub_one_eq_mod]
 show(((c.toNat % 128:Nat):Int)) % 256=_
 omega
theorem Ft (k:Nat):(128:Nat) ^ k=2 ^ (7 * k):=by rw[Nat.pow_mul]
theorem Qr {n c k:Nat} (hn:n < 128 ^ k) (hc:c < 128) (hk:k≤8):aH .or .i64 (n:Int) ((c * 128 ^ k:Nat):Int)=((n+c * 128 ^ k:Nat):Int)∧n+c * 128 ^ k < 128 ^ (k+1)∧c * 128 ^ k < 9223372036854775808∧n+c * 128 ^ k < 9223372036854775808:=by
 have h1:n+c * 128 ^ k < 128 ^ (k+1):=by
  have h2:c * 128 ^ k≤127 * 128 ^ k:=Nat.mul_le_mul_right _ (by omega)
  rw[Nat.pow_succ]
  omega
 have h3:128 ^ (k+1)≤128 ^ 9:=Nat.pow_le_pow_right (by omega) (by omega)
 have h4:(128:Nat) ^ 9=9223372036854775808:=by decide
 refine⟨?_,h1,by omega,by omega⟩
 show IntKind.i64.wrap ((BitVec.ofInt 64 (n:Int)|||BitVec.ofInt 64 ((c * 128 ^ k:Nat):Int)).toNat:Int)=_
 rw[BitVec.toNat_or,show BitVec.ofInt 64 (n:Int)=BitVec.ofNat 64 n from rfl,show BitVec.ofInt 64 ((c * 128 ^ k:Nat):Int)=BitVec.ofNat 64 (c * 128 ^ k)from rfl,BitVec.toNat_ofNat,BitVec.toNat_ofNat,Nat.mod_eq_of_lt (by omega),Nat.mod_eq_of_lt (by omega)]
 rw[Ft]at hn h1⊢
 rw[Nat.mul_comm c,Nat.or_comm,←Nat.two_pow_add_eq_or_of_lt hn,Nat.add_comm]
 rw[Ft,Nat.mul_comm c]at *
 exact aN (by omega) (by omega)
abbrev pX:Nat:=306
def ra:AF:=⟨2,6,[.tmp 4, .tmp 5, .tmp 6],(.seq (.ops [.i (.mov 4 (qi 0)), .i (.mov 5 (qi 0)), .i (.mov 6 (qi 0))]) (.seq (.seq (.ops [qm 10 1,qm 11 0,qn 12 11, .i (.call 14 103 false [(.s 10),(qi 0),(.s 12)]), .i (.not 14 (.s 13))]) (.cond (.s 14) (.seq (.ops [.i (.mov 4 (qi 0)), .i (.mov 5 (qi 0)), .i (.mov 6 (qi 1))]) .ret) .skip)) (.seq (.ops [.i (.mov 7 (qi 0))]) (.seq (.ops [.i (.mov 8 (qi 0))]) (.block 0 (.loop [60,59,58,57,56,55,54,53,52,51,50,49,48,47,46,45,44,43,42,41,40,39,38,37,36,35,34,33,32,31,30,29,28,27,26,25,24,23,22,21,20,19,18,17,16,15,9] (.seq (.block 1 (.seq (.seq (.ops [qm 17 1,qm 18 8,qd 19 .add 17 18,qm 20 0,qn 21 20,qd 22 .geq 19 21]) (.cond (.s 22) (.seq (.ops [.i (.mov 4 (qi 0)), .i (.mov 5 (qi 0)), .i (.mov 6 (qi 1))]) .ret) .skip)) (.seq (.ops [qm 23 0,qm 24 1,qm 25 8,qd 26 .add 24 25, .i (.iad 27 (.s 23) (.s 26) 1), .i (.ldh 28 (.s 27) 1 false),qm 9 28]) (.seq (.seq (.ops [qm 29 8, .i (.bin 30 .gtr (.s 29) (qi 0)),qm 31 30, .g 31 true 33 (.mov 32 (.s 9)), .g 31 true 34 (.bin 33 .eql (.s 32) (.c (.val false [.int .u8 0]))), .i (.pick 34 (.s 31) (.s 33) (qb false)),qm 35 34, .g 35 false 37 (.mov 36 (.s 8)), .g 35 false 38 (.bin 37 .eql (.s 36) (qi 8)), .g 35 false 39 (.mov 38 (.s 37)), .g 38 true 40 (.mov 39 (.s 9)), .g 38 true 41 (.bin 40 .geq (.s 39) (.c (.val false [.int .u8 128]))), .g 35 false 42 (.pick 41 (.s 38) (.s 40) (qb false)), .i (.pick 42 (.s 35) (qb true) (.s 41))]) (.cond (.s 42) (.seq (.ops [.i (.mov 4 (qi 0)), .i (.mov 5 (qi 0)), .i (.mov 6 (qi 2))]) .ret) .skip)) (.seq (.ops [qm 43 7,qm 44 9, .i (.bin 45 .and (.s 44) (.c (.val false [.int .u8 127]))), .i (.cvi 46 .i64 (.s 45)),qm 47 8, .i (.bin 48 .mul (qi 7) (.s 47)),qd 49 .shl 46 48,qd 50 .or 43 49,qm 7 50]) (.seq (.ops [qm 51 9, .i (.bin 52 .lss (.s 51) (.c (.val false [.int .u8 128])))]) (.cond (.s 52) (.seq (.seq (.ops [qm 53 7,qk 55 81 53, .i (.not 55 (.s 54))]) (.cond (.s 55) (.seq (.ops [.i (.mov 4 (qi 0)), .i (.mov 5 (qi 0)), .i (.mov 6 (qi 2))]) .ret) .skip)) (.seq (.ops [qm 56 7,qm 57 1,qm 58 8,qd 59 .add 57 58, .i (.bin 60 .add (.s 59) (qi 1)),qm 4 56,qm 5 60, .i (.mov 6 (qi 0))]) .ret)) .skip))))))) (.ops [qm 15 8, .i (.bin 16 .add (.s 15) (qi 1)),qm 8 16]))))))))⟩
theorem zO:cd pX=some ra:=by kernel_rfl
theorem oK (b:Bytes) (a:Nat) (ha:a≤b.length) (hb:b.length≤1073741824):VC cd pX (bJ [(false,[.sl (bytes b)]),(false,[.int .i64 (a:Int)])]) (fun rs _=>rs=CQ (getVar b a)):=by
 have e1:dR (a:Int) 0 (b.length:Int)=true:=by simp[dR];omega
 refine aa zO rfl ?_
 simp(disch:=omega) [ra,VY]
 refine an (bA _ _ _) rfl rfl ?_
 simp(disch:=omega) [e1,VY]
 refine ed (σ:=Nat×Nat) (f1:=_) (es0:=_) (by simp(disch:=omega) [VY];rfl) (by simp(disch:=omega) [VY];rfl) (fun p=> [(8, .val false [.int .i64 (p.1:Int)]),(7, .val false [.int .i64 (p.2:Int)])]) (fun _=> []) (fun p g=>g+(a+p.1)=b.length∧p.1≤8∧p.2 < 128 ^ p.1∧gv (b.drop (a+p.1)) p.1 p.2=gv (b.drop a) 0 0) (0,0) (b.length - a) (by simp(disch:=omega) [VY]) (by simp(disch:=omega) [VY]) ⟨by omega,by omega,by simp,by simp⟩ ?_
 rintro⟨k,n⟩ nx g ⟨h1,h2,h3,h4⟩ P hP
 simp only at h1 h2 h3 h4
 simp(disch:=omega) [VY]
 refine aj (fun h5=> ?_) (fun h5=> ?_)
 ·have e:getVar b a=(0,⟨0,1⟩):=by simp only[getVar,←h4,Ju (show b.length≤a+k by omega)];simp
  simp(disch:=omega) [CQ,e,VY]
 have hi:a+k < b.length:=by omega
 rw[F8 hi]at h4
 have hu:=b[a+k].toNat_lt
 have e6:(0:Int)≤(a:Int)+(k:Int):=by omega
 have e7:((a:Int)+(k:Int)).toNat=a+k:=by omega
 simp(disch:=omega) [e6,e7,bP hi,VY]
 generalize b[a+k]=c at h4 hu⊢
 by_cases hA:(0 < k∧c.toNat=0)∨(k=8∧128≤c.toNat)
 ·have e:getVar b a=(0,⟨0,2⟩):=by
   rw[if_pos hA]at h4
   simp only[getVar,←h4]
   simp
  rcases hA with⟨g1,g2⟩|⟨g3,g4⟩
  ·simp(disch:=omega) [g1,g2,CQ,e,VY]
  ·have g1:0 < k:=by omega
   have g2:¬c.toNat=0:=by omega
   have g4':(128:Int)≤(c.toNat:Int):=by omega
   have g3':(k:Int)=8:=by omega
   simp(disch:=omega) [g1,g2,g3',g4',CQ,e,VY]
 rw[if_neg hA]at h4
 have hcs:(¬0 < k∧¬(k:Int)=8)∨(0 < k∧¬c.toNat=0∧(k:Int)=8∧¬(128:Int)≤(c.toNat:Int))∨(0 < k∧¬c.toNat=0∧¬(k:Int)=8):=by omega
 have f1:¬(7 * (k:Int) < 0):=by omega
 have f2:(7 * (k:Int)).toNat=7 * k:=by omega
 obtain⟨d,hd⟩:∃d:Nat,d=c.toNat % 128:=⟨_,rfl⟩
 have ha127:=M3 c
 rw[←hd]at ha127
 obtain⟨o1,o2,o3,o4⟩:=Qr h3 (show d < 128 by omega) h2
 have hmn:min (7 * k) IntKind.i64.bits=7 * k:=Nat.min_eq_left (by show 7 * k≤64;omega)
 obtain⟨q,hq⟩:∃q,q=d * 128 ^ k:=⟨_,rfl⟩
 obtain⟨m,hm⟩:∃m,m=n+q:=⟨_,rfl⟩
 rw[←hq]at o1 o2 o3 o4
 rw[←hm]at o1 o2 o4
 have tP:(d:Int) * 2 ^ (7 * k)=(q:Int):=by rw[hq,Ft];simp
 have tB:(k:Int)=8→(d:Int) * 2 ^ min 56 IntKind.i64.bits=(q:Int):=fun h=>by
  have h8:k=8:=by omega
  rw[←tP,h8]
  rfl
 have tC:(k:Int)=8→(d:Int) * 72057594037927936=(q:Int):=fun h=>by
  have h8:k=8:=by omega
  rw[←tP,h8]
  rfl
 rcases hcs with⟨g1,g3⟩|⟨g1,g2,g3,g4⟩|⟨g1,g2,g3⟩
 case' inl=>simp(disch:=omega) [g1,g3,ha127,f1,f2,hmn,tP,o1,VY]
 case' inr.inl=>simp(disch:=omega) [g1,g2,g3,g4,ha127,tB g3,tC g3,o1,VY]
 case' inr.inr=>simp(disch:=omega) [g1,g2,g3,ha127,f1,f2,hmn,tP,o1,VY]
 all_goals
  refine aj (fun g6=> ?_) (fun g6=> ?_)
  ·have hdc:d=c.toNat:=by omega
   rw[if_pos (by omega),←hdc,←hq,←hm]at h4
   simp(disch:=omega) [VY]
   refine an (DN _) rfl rfl ?_
   simp(disch:=omega) [VY]
   refine dT (fun g7=> ?_) (fun g7=> ?_)
   ·have g8:m≤1152921504606846975:=by have:=eU g7;omega
    have e:getVar b a=(m,⟨a+k+1,0⟩):=by
     rw[if_pos g8]at h4
     simp only[getVar,←h4]
     simp[Nat.add_assoc]
    first
     |(simp(disch:=omega) [g7,CQ,e,VY];done)
     |(have e9:k=8:=by omega
       subst e9
       simp(disch:=omega) [g7,CQ,e,VY])
   ·have g8:¬m≤1152921504606846975:=by have:=IP g7;omega
    have e:getVar b a=(0,⟨0,2⟩):=by
     rw[if_neg g8]at h4
     simp only[getVar,←h4]
     simp
    simp(disch:=omega) [g7,CQ,e,VY]
  ·first
    |(exfalso;omega)
    |(have hdc:d=c.toNat - 128:=by omega
      rw[if_neg (by omega),←hdc,←hq,←hm]at h4
      simp(disch:=omega) [VY]
      exact hP (k+1,m) (g - 1) _ _ (by omega) ⟨by simp only;omega,by simp only;omega,o2,h4⟩ (by simp(disch:=omega) [VY]) (by simp(disch:=omega) [VY]))
abbrev qB:Nat:=263
def pV:AF:=⟨2,7,[.tmp 4, .tmp 5, .tmp 6],(.seq (.ops [.i (.mov 4 (qi 0)), .i (.mov 5 (qi 0)), .i (.mov 6 (qi 0))]) (.seq (.seq (.ops [qm 11 1, .i (.bin 12 .lss (.s 11) (qi 0)),qm 13 12, .g 13 false 15 (.mov 14 (.s 1)), .g 13 false 16 (.mov 15 (.s 0)), .g 13 false 17 (.len 16 false (.s 15)), .g 13 false 18 (.bin 17 .gtr (.s 14) (.s 16)), .i (.pick 18 (.s 13) (qb true) (.s 17))]) (.cond (.s 18) (.seq (.ops [.i (.mov 4 (qi 0)), .i (.mov 5 (qi 0)), .i (.mov 6 (qi 1))]) .ret) .skip)) (.seq (.ops [.i (.mov 7 (qi 0))]) (.seq (.ops [.i (.mov 8 (qi 1))]) (.seq (.seq (.ops [.i (.mov 9 (qi 0))]) (.block 0 (.loop [66,65,64,63,62,61,60,59,58,57,56,55,54,53,52,51,50,49,48,47,46,45,44,43,42,41,40,39,38,37,36,35,34,33,32,31,30,29,28,27,26,25,24,23,22,21,20,19,10] (.seq (.seq (.ops [qm 19 9, .i (.bin 20 .lss (.s 19) (qi 9))]) (.cond (.s 20) .skip (.exit 0))) (.seq (.block 1 (.seq (.seq (.ops [qm 23 1,qm 24 9,qd 25 .add 23 24,qm 26 0,qn 27 26,qd 28 .geq 25 27]) (.cond (.s 28) (.seq (.ops [.i (.mov 4 (qi 0)), .i (.mov 5 (qi 0)), .i (.mov 6 (qi 1))]) .ret) .skip)) (.seq (.ops [qm 29 0,qm 30 1,qm 31 9,qd 32 .add 30 31, .i (.iad 33 (.s 29) (.s 32) 1), .i (.ldh 34 (.s 33) 1 false), .i (.cvi 35 .i64 (.s 34)),qm 10 35]) (.seq (.seq (.ops [qm 36 9, .i (.bin 37 .gtr (.s 36) (qi 0)),qm 38 37, .g 38 true 40 (.mov 39 (.s 10)), .g 38 true 41 (.bin 40 .eql (.s 39) (qi 0)), .i (.pick 41 (.s 38) (.s 40) (qb false)),qm 42 41, .g 42 false 44 (.mov 43 (.s 9)), .g 42 false 45 (.bin 44 .eql (.s 43) (qi 8)), .g 42 false 46 (.mov 45 (.s 44)), .g 45 true 47 (.mov 46 (.s 10)), .g 45 true 48 (.bin 47 .geq (.s 46) (qi 128)), .g 42 false 49 (.pick 48 (.s 45) (.s 47) (qb false)), .i (.pick 49 (.s 42) (qb true) (.s 48))]) (.cond (.s 49) (.seq (.ops [.i (.mov 4 (qi 0)), .i (.mov 5 (qi 0)), .i (.mov 6 (qi 2))]) .ret) .skip)) (.seq (.ops [qm 50 7,qm 51 10, .i (.bin 52 .rem (.s 51) (qi 128)),qm 53 8,qd 54 .mul 52 53,qd 55 .add 50 54,qm 7 55]) (.seq (.seq (.ops [qm 56 10, .i (.bin 57 .lss (.s 56) (qi 128))]) (.cond (.s 57) (.seq (.seq (.ops [qm 58 7, .i (.bin 59 .gtr (.s 58) (qi 1152921504606846975))]) (.cond (.s 59) (.seq (.ops [.i (.mov 4 (qi 0)), .i (.mov 5 (qi 0)), .i (.mov 6 (qi 2))]) .ret) .skip)) (.seq (.ops [qm 60 7,qm 61 1,qm 62 9,qd 63 .add 61 62, .i (.bin 64 .add (.s 63) (qi 1)),qm 4 60,qm 5 64, .i (.mov 6 (qi 0))]) .ret)) .skip)) (.ops [qm 65 8, .i (.bin 66 .mul (.s 65) (qi 128)),qm 8 66]))))))) (.ops [qm 21 9, .i (.bin 22 .add (.s 21) (qi 1)),qm 9 22])))))) (.seq (.ops [.i (.mov 4 (qi 0)), .i (.mov 5 (qi 0)), .i (.mov 6 (qi 2))]) .ret))))))⟩
theorem zB:cd qB=some pV:=by kernel_rfl
theorem oI (b:Bytes) (a:Nat) (ha:a≤b.length) (hb:b.length≤1073741824):VC cd qB (bJ [(false,[.sl (bytes b)]),(false,[.int .i64 (a:Int)])]) (fun rs _=>rs=CQ (getVar b a)):=by
 have f1:¬((a:Int) < 0):=by omega
 have f2:¬((b.length:Int) < (a:Int)):=by omega
 refine aa zB rfl ?_
 simp(disch:=omega) [pV,f1,f2,VY]
 refine ed (σ:=Nat×Nat) (f1:=_) (es0:=_) (by simp(disch:=omega) [VY];rfl) (by simp(disch:=omega) [VY];rfl) (fun p=> [(9, .val false [.int .i64 (p.1:Int)]),(8, .val false [.int .i64 ((128 ^ p.1:Nat):Int)]),(7, .val false [.int .i64 (p.2:Int)])]) (fun _=> []) (fun p g=>g+(a+p.1)=b.length∧p.1≤8∧p.2 < 128 ^ p.1∧gv (b.drop (a+p.1)) p.1 p.2=gv (b.drop a) 0 0) (0,0) (b.length - a) (by simp(disch:=omega) [VY]) (by simp(disch:=omega) [VY]) ⟨by omega,by omega,by simp,by simp⟩ ?_
 rintro⟨k,n⟩ nx g ⟨h1,h2,h3,h4⟩ P hP
 simp only at h1 h2 h3 h4
 have f3:(k:Int) < 9:=by omega
 simp(disch:=omega) [f3,VY]
 refine aj (fun h5=> ?_) (fun h5=> ?_)
 ·have e:getVar b a=(0,⟨0,1⟩):=by simp only[getVar,←h4,Ju (show b.length≤a+k by omega)];simp
  simp(disch:=omega) [CQ,e,VY]
 have hi:a+k < b.length:=by omega
 rw[F8 hi]at h4
 have hu:=b[a+k].toNat_lt
 have e6:(0:Int)≤(a:Int)+(k:Int):=by omega
 have e7:((a:Int)+(k:Int)).toNat=a+k:=by omega
 simp(disch:=omega) [e6,e7,bP hi,VY]
 generalize b[a+k]=c at h4 hu⊢
 by_cases hA:(0 < k∧c.toNat=0)∨(k=8∧128≤c.toNat)
 ·have e:getVar b a=(0,⟨0,2⟩):=by
   rw[if_pos hA]at h4
   simp only[getVar,←h4]
   simp
  rcases hA with⟨g1,g2⟩|⟨g3,g4⟩
  ·simp(disch:=omega) [g1,g2,CQ,e,VY]
  ·have g1:0 < k:=by omega
   have g2:¬c.toNat=0:=by omega
   have g4':(128:Int)≤(c.toNat:Int):=by omega
   have g3':(k:Int)=8:=by omega
   simp(disch:=omega) [g1,g2,g3',g4',CQ,e,VY]
 rw[if_neg hA]at h4
 have hcs:(¬0 < k∧¬(k:Int)=8)∨(0 < k∧¬c.toNat=0∧(k:Int)=8∧¬(128:Int)≤(c.toNat:Int))∨(0 < k∧¬c.toNat=0∧¬(k:Int)=8):=by omega
 obtain⟨d,hd⟩:∃d:Nat,d=c.toNat % 128:=⟨_,rfl⟩
 obtain⟨o1,o2,o3,o4⟩:=Qr h3 (show d < 128 by omega) h2
 obtain⟨q,hq⟩:∃q,q=d * 128 ^ k:=⟨_,rfl⟩
 obtain⟨m,hm⟩:∃m,m=n+q:=⟨_,rfl⟩
 rw[←hq]at o1 o2 o3 o4
 rw[←hm]at o1 o2 o4
 have t0:(c.toNat:Int).tmod 128=(d:Int):=by rw[hd];rfl
 have tP:(d:Int) * 128 ^ k=(q:Int):=by rw[hq];simp
 have tM:(n:Int)+(q:Int)=(m:Int):=by omega
 have tB:(k:Int)=8→(d:Int) * 72057594037927936=(q:Int):=fun h=>by
  have h8:k=8:=by omega
  rw[←tP,h8]
  rfl
 rcases hcs with⟨g1,g3⟩|⟨g1,g2,g3,g4⟩|⟨g1,g2,g3⟩
 case' inl=>simp(disch:=omega) [g1,g3,t0,tP,tM,VY]
 case' inr.inl=>simp(disch:=omega) [g1,g2,g3,g4,t0,tP,tM,tB g3,VY]
 case' inr.inr=>simp(disch:=omega) [g1,g2,g3,t0,tP,tM,VY]
 all_goals
  refine aj (fun g6=> ?_) (fun g6=> ?_)
  ·have hdc:d=c.toNat:=by omega
   rw[if_pos (by omega),←hdc,←hq,←hm]at h4
   simp(disch:=omega) [VY]
   refine aj (fun g7=> ?_) (fun g7=> ?_)
   ·have e:getVar b a=(0,⟨0,2⟩):=by
     rw[if_neg (by omega)]at h4
     simp only[getVar,←h4]
     simp
    simp(disch:=omega) [CQ,e,VY]
   ·have e:getVar b a=(m,⟨a+k+1,0⟩):=by
     rw[if_pos (by omega)]at h4
     simp only[getVar,←h4]
     simp[Nat.add_assoc]
    first
     |(simp(disch:=omega) [CQ,e,VY];done)
     |(have e9:k=8:=by omega
       subst e9
       simp(disch:=omega) [CQ,e,VY])
  ·first
    |(exfalso;omega)
    |(have hdc:d=c.toNat - 128:=by omega
      have hk1:128 ^ (k+1)≤128 ^ 8:=Nat.pow_le_pow_right (by omega) (by omega)
      obtain⟨w,hw⟩:∃w,w=128 ^ (k+1):=⟨_,rfl⟩
      have hw2:(128:Int) ^ k * 128=(w:Int):=by rw[hw,Nat.pow_succ];simp
      rw[←hw]at hk1
      rw[if_neg (by omega),←hdc,←hq,←hm]at h4
      simp(disch:=omega) [hw2,VY]
      exact hP (k+1,m) (g - 1) _ _ (by omega) ⟨by simp only;omega,by simp only;omega,o2,h4⟩ (by simp(disch:=omega) [hw,VY];done) (by simp(disch:=omega) [VY]))
abbrev mE:Nat:=310
def oJ:AF:=⟨3,5,[.tmp 6, .tmp 7, .tmp 8],(.seq (.ops [.i (.mov 6 (.c (.val false [.nils]))), .i (.mov 7 (qi 0)), .i (.mov 8 (qi 0))]) (.seq (.ops [qm 12 0,qm 13 1, .i (.call 15 306 false [(.s 12),(.s 13)]),qm 11 14, .i (.ext 15 (.s 11) 0), .i (.ext 16 (.s 11) 1), .i (.ext 17 (.s 11) 2),qm 9 15,qm 1 16,qm 10 17]) (.seq (.seq (.ops [qm 18 10, .i (.bin 19 .neq (.s 18) (qi 0))]) (.cond (.s 19) (.seq (.ops [qm 20 10, .i (.mov 6 (.c (.val false [.nils]))), .i (.mov 7 (qi 0)),qm 8 20]) .ret) .skip)) (.seq (.seq (.ops [qm 21 9,qm 22 2,qd 23 .gtr 21 22]) (.cond (.s 23) (.seq (.ops [.i (.mov 6 (.c (.val false [.nils]))), .i (.mov 7 (qi 0)), .i (.mov 8 (qi 3))]) .ret) .skip)) (.seq (.ops [qm 24 0,qm 25 1,qm 26 9, .i (.call 28 194 false [(.s 24),(.s 25),(.s 26)]), .i (.ext 28 (.s 27) 0), .i (.ext 29 (.s 27) 1), .i (.ext 30 (.s 27) 2),qm 6 28,qm 7 29,qm 8 30]) .ret)))))⟩
theorem xu:cd mE=some oJ:=by kernel_rfl
theorem wE (b:Bytes) (a m:Nat) (ha:a≤b.length) (hb:b.length≤1073741824) (hm:m≤1073741824):VC cd mE (bJ [(false,[.sl (bytes b)]),(false,[.int .i64 (a:Int)]),(false,[.int .i64 (m:Int)])]) (fun rs _=>rs=tN (et b a m)):=by
 refine VC.ic ?_
 have hv:=pg ha
 refine aa xu rfl ?_
 simp(disch:=omega) [oJ,VY]
 refine an (oK b a ha hb) rfl rfl ?_
 generalize hx:getVar b a=x at hv
 obtain⟨⟨h1,h2⟩,h3⟩:=hv
 simp(disch:=omega) [CQ,VY]
 by_cases h4:x.2.er=0
 ·simp(disch:=omega) [h4,VY]
  by_cases h5:m < x.1
  ·simp(disch:=omega) [h5,aI,aJ,aP,ab,tN,et,hx,h4,VY]
  ·simp(disch:=omega) [h5,VY]
   refine an (ia b x.2.at_ x.1 h1 hb (by omega)) rfl rfl ?_
   simp(disch:=omega) [aI,aJ,aP,ab,tN,et,hx,h4,h5,VY]
 ·simp(disch:=omega) [h4,aI,aJ,aP,ab,tN,et,hx,VY]
abbrev nW:Nat:=277
def mD:AF:=⟨3,6,[.tmp 6, .tmp 7, .tmp 8],(.seq (.ops [.i (.mov 6 (.c (.val false [.nils]))), .i (.mov 7 (qi 0)), .i (.mov 8 (qi 0))]) (.seq (.seq (.ops [qm 12 2, .i (.call 14 103 false [(.s 12),(qi 1),(qi 10)]), .i (.not 14 (.s 13))]) (.cond (.s 14) (.seq (.ops [.i (.mov 6 (.c (.val false [.nils]))), .i (.mov 7 (qi 0)), .i (.mov 8 (qi 5))]) .ret) .skip)) (.seq (.ops [qm 16 0,qm 17 1,qm 18 2,qk 20 308 18, .i (.call 21 194 false [(.s 16),(.s 17),(.s 19)]),qm 15 20, .i (.ext 21 (.s 15) 0), .i (.ext 22 (.s 15) 1), .i (.ext 23 (.s 15) 2),qm 9 21,qm 10 22,qm 11 23]) (.seq (.seq (.ops [qm 24 11, .i (.bin 25 .neq (.s 24) (qi 0))]) (.cond (.s 25) (.seq (.ops [qm 26 11, .i (.mov 6 (.c (.val false [.nils]))), .i (.mov 7 (qi 0)),qm 8 26]) .ret) .skip)) (.seq (.seq (.ops [qm 27 9,qm 28 2, .i (.call 30 297 false [(.s 27),(.s 28)]), .i (.not 30 (.s 29))]) (.cond (.s 30) (.seq (.ops [.i (.mov 6 (.c (.val false [.nils]))), .i (.mov 7 (qi 0)), .i (.mov 8 (qi 4))]) .ret) .skip)) (.seq (.ops [qm 31 9,qm 32 10,qm 6 31,qm 7 32, .i (.mov 8 (qi 0))]) .ret))))))⟩
theorem yD:cd nW=some mD:=by kernel_rfl
theorem vT (b:Bytes) (a:Nat) (n:Int) (hn:1≤n∧n≤10) (ha:a≤b.length) (hb:b.length≤1073741824):VC cd nW (bJ [(false,[.sl (bytes b)]),(false,[.int .i64 (a:Int)]),(false,[.int .i64 n])]) (fun rs _=>rs=tN (bH b a n)):=by
 refine VC.ic ?_
 have e1:dR n 1 10=true:=by simp[dR];omega
 have e2:((vu n).toNat:Int)=vu n:=by have:=sv hn;unfold vu at *;split <;>omega
 have e3:(vu n).toNat≤2:=by have:=sv hn;omega
 have hv:=j9 b a (vu n).toNat
 refine aa yD rfl ?_
 simp(disch:=omega) [mD,VY]
 refine an (bA _ _ _) rfl rfl ?_
 simp(disch:=omega) [e1,VY]
 refine an (jH n (by omega) (by omega)) rfl rfl ?_
 simp(disch:=omega) [VY]
 refine cp (ia b a (vu n).toNat ha hb (by omega)) ?_ (ha:=by first|rfl|(simp[e2,VY] <;>repeat' constructor))
 generalize hx:dh b a (vu n).toNat=x at hv
 obtain⟨⟨h1,h2⟩,h3,h5⟩:=hv
 simp(disch:=omega) [tN,VY]
 by_cases h4:x.2.er=0
 ·simp(disch:=omega) [h4,VY]
  refine cp (x8 x.1 n (by omega) (by omega)) ?_
  simp(disch:=omega) [h4,VY]
  cases h6:eo x.1 n <;>simp(disch:=omega) [aI,aJ,aP,ab,tN,bH,hx,h4,h6,VY]
 ·simp(disch:=omega) [h4,aI,aJ,aP,ab,tN,bH,hx,VY]
abbrev mK:Nat:=268
def mO:AF:=⟨3,6,[.tmp 6, .tmp 7, .tmp 8],(.seq (.ops [.i (.mov 6 (.c (.val false [.nils]))), .i (.mov 7 (qi 0)), .i (.mov 8 (qi 0))]) (.seq (.ops [qm 13 0,qm 14 1, .i (.call 16 263 false [(.s 13),(.s 14)]),qm 12 15, .i (.ext 16 (.s 12) 0), .i (.ext 17 (.s 12) 1), .i (.ext 18 (.s 12) 2),qm 9 16,qm 10 17,qm 11 18]) (.seq (.seq (.ops [qm 19 11, .i (.bin 20 .neq (.s 19) (qi 0))]) (.cond (.s 20) (.seq (.ops [qm 21 11, .i (.mov 6 (.c (.val false [.nils]))), .i (.mov 7 (qi 0)),qm 8 21]) .ret) .skip)) (.seq (.seq (.ops [qm 22 9,qm 23 2,qd 24 .gtr 22 23]) (.cond (.s 24) (.seq (.ops [.i (.mov 6 (.c (.val false [.nils]))), .i (.mov 7 (qi 0)), .i (.mov 8 (qi 3))]) .ret) .skip)) (.seq (.ops [qm 25 0,qm 26 10,qm 27 9, .i (.call 29 264 false [(.s 25),(.s 26),(.s 27)]), .i (.ext 29 (.s 28) 0), .i (.ext 30 (.s 28) 1), .i (.ext 31 (.s 28) 2),qm 6 29,qm 7 30,qm 8 31]) .ret)))))⟩
theorem xO:cd mK=some mO:=by kernel_rfl
theorem wj (b:Bytes) (a m:Nat) (ha:a≤b.length) (hb:b.length≤1073741824) (hm:m≤1073741824):VC cd mK (bJ [(false,[.sl (bytes b)]),(false,[.int .i64 (a:Int)]),(false,[.int .i64 (m:Int)])]) (fun rs _=>rs=tN (et b a m)):=by
 refine VC.ic ?_
 have hv:=pg ha
 refine aa xO rfl ?_
 simp(disch:=omega) [mO,VY]
 refine an (oI b a ha hb) rfl rfl ?_
 generalize hx:getVar b a=x at hv
 obtain⟨⟨h1,h2⟩,h3⟩:=hv
 simp(disch:=omega) [CQ,VY]
 by_cases h4:x.2.er=0
 ·simp(disch:=omega) [h4,VY]
  by_cases h5:m < x.1
  ·simp(disch:=omega) [h5,aI,aJ,aP,ab,tN,et,hx,h4,VY]
  ·simp(disch:=omega) [h5,VY]
   refine an (hY b x.2.at_ x.1 h1 hb (by omega)) rfl rfl ?_
   simp(disch:=omega) [aI,aJ,aP,ab,tN,et,hx,h4,h5,VY]
 ·simp(disch:=omega) [h4,aI,aJ,aP,ab,tN,et,hx,VY]
abbrev nU:Nat:=186
def nz:AF:=⟨3,6,[.tmp 6, .tmp 7, .tmp 8],(.seq (.ops [.i (.mov 6 (.c (.val false [.nils]))), .i (.mov 7 (qi 0)), .i (.mov 8 (qi 0))]) (.seq (.seq (.ops [qm 12 2,qk 14 118 12, .i (.not 14 (.s 13))]) (.cond (.s 14) (.seq (.ops [.i (.mov 6 (.c (.val false [.nils]))), .i (.mov 7 (qi 0)), .i (.mov 8 (qi 5))]) .ret) .skip)) (.seq (.ops [qm 16 0,qm 17 1,qm 18 2,qk 20 265 18, .i (.call 21 264 false [(.s 16),(.s 17),(.s 19)]),qm 15 20, .i (.ext 21 (.s 15) 0), .i (.ext 22 (.s 15) 1), .i (.ext 23 (.s 15) 2),qm 9 21,qm 10 22,qm 11 23]) (.seq (.seq (.ops [qm 24 11, .i (.bin 25 .neq (.s 24) (qi 0))]) (.cond (.s 25) (.seq (.ops [qm 26 11, .i (.mov 6 (.c (.val false [.nils]))), .i (.mov 7 (qi 0)),qm 8 26]) .ret) .skip)) (.seq (.seq (.ops [qm 27 9,qm 28 2, .i (.call 30 266 false [(.s 27),(.s 28)]), .i (.not 30 (.s 29))]) (.cond (.s 30) (.seq (.ops [.i (.mov 6 (.c (.val false [.nils]))), .i (.mov 7 (qi 0)), .i (.mov 8 (qi 4))]) .ret) .skip)) (.seq (.ops [qm 31 9,qm 32 10,qm 6 31,qm 7 32, .i (.mov 8 (qi 0))]) .ret))))))⟩
theorem xy:cd nU=some nz:=by kernel_rfl
theorem we (b:Bytes) (a:Nat) (n:Int) (hn:1≤n∧n≤10) (ha:a≤b.length) (hb:b.length≤1073741824):VC cd nU (bJ [(false,[.sl (bytes b)]),(false,[.int .i64 (a:Int)]),(false,[.int .i64 n])]) (fun rs _=>rs=tN (bH b a n)):=by
 refine VC.ic ?_
 have e1:dR n 1 10=true:=by simp[dR];omega
 have e2:((vu n).toNat:Int)=vu n:=by have:=sv hn;unfold vu at *;split <;>omega
 have e3:(vu n).toNat≤2:=by have:=sv hn;omega
 have hv:=j9 b a (vu n).toNat
 refine aa xy rfl ?_
 simp(disch:=omega) [nz,VY]
 refine an (fw _) rfl rfl ?_
 simp(disch:=omega) [e1,VY]
 refine an (kg n (by omega) (by omega)) rfl rfl ?_
 simp(disch:=omega) [VY]
 refine cp (hY b a (vu n).toNat ha hb (by omega)) ?_ (ha:=by first|rfl|(simp[e2,VY] <;>repeat' constructor))
 generalize hx:dh b a (vu n).toNat=x at hv
 obtain⟨⟨h1,h2⟩,h3,h5⟩:=hv
 simp(disch:=omega) [tN,VY]
 by_cases h4:x.2.er=0
 ·simp(disch:=omega) [h4,VY]
  refine cp (xU x.1 n (by omega) (by omega)) ?_
  simp(disch:=omega) [h4,VY]
  cases h6:eo x.1 n <;>simp(disch:=omega) [aI,aJ,aP,ab,tN,bH,hx,h4,h6,VY]
 ·simp(disch:=omega) [h4,aI,aJ,aP,ab,tN,bH,hx,VY]
abbrev iN:Nat:=279
def iU:AF:=⟨3,5,[],(.seq (.ops [qm 6 0, .i (.nch 7 (.s 6)),qf 8 7 2, .i (.ldh 9 (.s 8) 1 false), .i (.bin 10 .eql (.s 9) (qi 0)),qm 11 10, .g 11 true 13 (.mov 12 (.s 1)), .g 11 true 14 (.not 13 (.s 12)), .i (.pick 14 (.s 11) (.s 13) (qb false))]) (.cond (.s 14) (.ops [qm 15 0,qm 16 2, .i (.nch 17 (.s 15)),qf 18 17 2, .i (.sth (.s 18) (.s 16) 1)]) .skip))⟩
theorem rS:cd iN=some iU:=by kernel_rfl
theorem aY (b:Bytes) (r:Rd) (ok:Bool) (c:Nat):VC cd iN (pK [] 279 (av b r) [(false,[.bool ok]),(false,[.int .i64 (c:Int)])]) (fun rs p=>rs= []∧p= [.pt 279 (av b (ax r (!ok) c))]):=by
 refine bg rS rfl ?_
 simp(disch:=omega) [iU,av,VZ]
 by_cases h:r.er=0
 ·cases ok <;>simp(disch:=omega) [h,ax,av,VZ]
 ·simp(disch:=omega) [h,ax,av,VZ]
abbrev mB:Nat:=132
def oB:AF:=⟨3,5,[],(.seq (.ops [qm 6 0, .i (.nch 7 (.s 6)),qf 8 7 2, .i (.ldh 9 (.s 8) 1 false), .i (.bin 10 .eql (.s 9) (qi 0)),qm 11 10, .g 11 true 13 (.mov 12 (.s 1)), .i (.pick 13 (.s 11) (.s 12) (qb false))]) (.cond (.s 13) (.ops [qm 14 0,qm 15 2, .i (.nch 16 (.s 14)),qf 17 16 2, .i (.sth (.s 17) (.s 15) 1)]) .skip))⟩
theorem yy:cd mB=some oB:=by kernel_rfl
theorem aA (b:Bytes) (r:Rd) (bad:Bool) (c:Nat):VC cd mB (pK [] 166 (av b r) [(false,[.bool bad]),(false,[.int .i64 (c:Int)])]) (fun rs p=>rs= []∧p= [.pt 166 (av b (ax r bad c))]):=by
 refine bg yy rfl ?_
 simp(disch:=omega) [oB,av,VZ]
 by_cases h:r.er=0
 ·cases bad <;>simp(disch:=omega) [h,ax,av,VZ]
 ·simp(disch:=omega) [h,ax,av,VZ]
abbrev jk:Nat:=274
def jb:AF:=⟨1,6,[.tmp 2],(.seq (.ops [.i (.mov 2 (qi 0))]) (.seq (.seq (.ops [qm 6 0, .i (.nch 7 (.s 6)),qf 8 7 2, .i (.ldh 9 (.s 8) 1 false), .i (.bin 10 .neq (.s 9) (qi 0))]) (.cond (.s 10) (.seq (.ops [.i (.mov 2 (qi 0))]) .ret) .skip)) (.seq (.ops [qm 12 0, .i (.nch 13 (.s 12)),qf 14 13 0, .i (.ldh 15 (.s 14) 1 false),qm 16 0, .i (.nch 17 (.s 16)),qf 18 17 1, .i (.ldh 19 (.s 18) 1 false), .i (.call 21 306 false [(.s 15),(.s 19)]),qm 11 20, .i (.ext 21 (.s 11) 0), .i (.ext 22 (.s 11) 1), .i (.ext 23 (.s 11) 2),qm 3 21,qm 4 22,qm 5 23]) (.seq (.ops [qm 24 0,qm 25 0,qm 26 4,qm 27 5, .i (.nch 28 (.s 24)),qf 29 28 1, .i (.sth (.s 29) (.s 26) 1), .i (.nch 30 (.s 25)),qf 31 30 2, .i (.sth (.s 31) (.s 27) 1)]) (.seq (.ops [qm 32 3,qm 2 32]) .ret)))))⟩
theorem tf:cd jk=some jb:=by kernel_rfl
theorem bN (b:Bytes) (r:Rd) (hr:r.wf b) (hb:b.length≤1073741824):VC cd jk (pK [] 279 (av b r) []) (fun rs p=>rs=it (aO b r).1∧p= [.pt 279 (av b (aO b r).2)]):=by
 refine bg tf rfl ?_
 simp(disch:=omega) [jb,av,VZ]
 by_cases h:r.er=0
 ·simp(disch:=omega) [h,VZ]
  refine an (oK b r.at_ hr.1 hb) rfl rfl ?_
  simp(disch:=omega) [CQ,aO,h,av,VZ]
 ·simp(disch:=omega) [h,aO,av,VZ]
abbrev qR:Nat:=184
def qg:AF:=⟨1,6,[.tmp 2],(.seq (.ops [.i (.mov 2 (qi 0))]) (.seq (.seq (.ops [qm 6 0, .i (.nch 7 (.s 6)),qf 8 7 2, .i (.ldh 9 (.s 8) 1 false), .i (.bin 10 .neq (.s 9) (qi 0))]) (.cond (.s 10) (.seq (.ops [.i (.mov 2 (qi 0))]) .ret) .skip)) (.seq (.ops [qm 12 0, .i (.nch 13 (.s 12)),qf 14 13 0, .i (.ldh 15 (.s 14) 1 false),qm 16 0, .i (.nch 17 (.s 16)),qf 18 17 1, .i (.ldh 19 (.s 18) 1 false), .i (.call 21 263 false [(.s 15),(.s 19)]),qm 11 20, .i (.ext 21 (.s 11) 0), .i (.ext 22 (.s 11) 1), .i (.ext 23 (.s 11) 2),qm 3 21,qm 4 22,qm 5 23]) (.seq (.ops [qm 24 0,qm 25 5, .i (.nch 26 (.s 24)),qf 27 26 2, .i (.sth (.s 27) (.s 25) 1)]) (.seq (.ops [qm 28 0,qm 29 4, .i (.nch 30 (.s 28)),qf 31 30 1, .i (.sth (.s 31) (.s 29) 1)]) (.seq (.ops [qm 32 3,qm 2 32]) .ret))))))⟩
theorem zw:cd qR=some qg:=by kernel_rfl
theorem bQ (b:Bytes) (r:Rd) (hr:r.wf b) (hb:b.length≤1073741824):VC cd qR (pK [] 166 (av b r) []) (fun rs p=>rs=it (aO b r).1∧p= [.pt 166 (av b (aO b r).2)]):=by
 refine bg zw rfl ?_
 simp(disch:=omega) [qg,av,VZ]
 by_cases h:r.er=0
 ·simp(disch:=omega) [h,VZ]
  refine an (oI b r.at_ hr.1 hb) rfl rfl ?_
  simp(disch:=omega) [CQ,aO,h,av,VZ]
 ·simp(disch:=omega) [h,aO,av,VZ]
abbrev ig:Nat:=276
def iv:AF:=⟨3,5,[.tmp 6],(.seq (.ops [.i (.mov 6 (qi 0))]) (.seq (.ops [qm 8 0,qk 10 274 8,qm 7 9]) (.seq (.ops [qm 10 0,qm 11 7,qm 12 1,qd 13 .lss 11 12,qm 14 2, .i (.call 16 279 false [(.s 10),(.s 13),(.s 14)])]) (.seq (.ops [qm 16 7,qm 6 16]) .ret))))⟩
theorem pI:cd ig=some iv:=by kernel_rfl
theorem cV (b:Bytes) (r:Rd) (n:Int) (c:Nat) (hr:r.wf b) (hb:b.length≤1073741824):VC cd ig (pK [] 279 (av b r) [(false,[.int .i64 n]),(false,[.int .i64 (c:Int)])]) (fun rs p=>rs=it (aM b r n c).1∧p= [.pt 279 (av b (aM b r n c).2)]):=by
 refine bg pI rfl ?_
 simp(disch:=omega) [iv,av,VZ]
 refine bI (bN b r hr hb) ?_
 generalize hx:aO b r=x
 simp(disch:=omega) [av,VZ]
 refine bI (aY b x.2 (decide ((x.1:Int) < n)) c) ?_
 have e:(!decide ((x.1:Int) < n))=decide (n≤(x.1:Int)):=by
  by_cases h:(x.1:Int) < n
  ·simp[h]
  ·simp[h];omega
 simp(disch:=omega) [av,aM,hx,e,VZ]
abbrev jo:Nat:=307
def jf:AF:=⟨2,6,[.tmp 4],(.seq (.ops [.i (.mov 4 (.c (.val false [.nils])))]) (.seq (.seq (.ops [qm 8 0, .i (.nch 9 (.s 8)),qf 10 9 2, .i (.ldh 11 (.s 10) 1 false), .i (.bin 12 .neq (.s 11) (qi 0))]) (.cond (.s 12) (.seq (.ops [.i (.mov 4 (.c (.val false [.nils])))]) .ret) .skip)) (.seq (.ops [qm 14 0, .i (.nch 15 (.s 14)),qf 16 15 0, .i (.ldh 17 (.s 16) 1 false),qm 18 0, .i (.nch 19 (.s 18)),qf 20 19 1, .i (.ldh 21 (.s 20) 1 false),qm 22 1, .i (.call 24 194 false [(.s 17),(.s 21),(.s 22)]),qm 13 23, .i (.ext 24 (.s 13) 0), .i (.ext 25 (.s 13) 1), .i (.ext 26 (.s 13) 2),qm 5 24,qm 6 25,qm 7 26]) (.seq (.ops [qm 27 0,qm 28 0,qm 29 6,qm 30 7, .i (.nch 31 (.s 27)),qf 32 31 1, .i (.sth (.s 32) (.s 29) 1), .i (.nch 33 (.s 28)),qf 34 33 2, .i (.sth (.s 34) (.s 30) 1)]) (.seq (.ops [qm 35 5,qm 4 35]) .ret)))))⟩
theorem sL:cd jo=some jf:=by kernel_rfl
theorem zR (b:Bytes) (r:Rd) (n:Nat) (hn:n≤1073741824) (hr:r.wf b) (hb:b.length≤1073741824):VC cd jo (pK [] 279 (av b r) [(false,[.int .i64 (n:Int)])]) (fun rs p=>rs= [(false,[.o true (some (5,1)) (bytes (ba b r n).1)])]∧p= [.pt 279 (av b (ba b r n).2)]):=by
 refine VC.ic ?_
 refine bg sL rfl ?_
 simp(disch:=omega) [jf,av,VZ]
 by_cases h:r.er=0
 ·simp(disch:=omega) [h,VZ]
  refine an (ia b r.at_ n hr.1 hb (by omega)) rfl rfl ?_
  simp(disch:=omega) [tN,ba,h,av,aI,aJ,aP,ab,VZ]
 ·simp(disch:=omega) [h,ba,av,aI,aJ,aP,ab,VZ]
abbrev iW:Nat:=275
def iR:AF:=⟨1,3,[.tmp 2],(.seq (.ops [.i (.mov 2 (.c (.val false [.nils])))]) (.seq (.ops [qm 3 0, .i (.call 5 307 false [(.s 3),(qi 32)]),qm 2 4]) .ret))⟩
theorem rM:cd iW=some iR:=by kernel_rfl
theorem cJ (b:Bytes) (r:Rd) (hr:r.wf b) (hb:b.length≤1073741824):VC cd iW (pK [] 279 (av b r) []) (fun rs p=>rs= [(false,[.o true (some (5,1)) (bytes (ba b r 32).1)])]∧p= [.pt 279 (av b (ba b r 32).2)]):=by
 refine bg rM rfl ?_
 simp(disch:=omega) [iR,av,VZ]
 refine bI (zR b r 32 (by omega) hr hb) ?_
 simp(disch:=omega) [av,VZ]
abbrev qX:Nat:=185
def rh:AF:=⟨1,6,[.tmp 2],(.seq (.ops [.i (.mov 2 (.c (.val false [.nils])))]) (.seq (.seq (.ops [qm 6 0, .i (.nch 7 (.s 6)),qf 8 7 2, .i (.ldh 9 (.s 8) 1 false), .i (.bin 10 .neq (.s 9) (qi 0))]) (.cond (.s 10) (.seq (.ops [.i (.mov 2 (.c (.val false [.nils])))]) .ret) .skip)) (.seq (.ops [qm 12 0, .i (.nch 13 (.s 12)),qf 14 13 0, .i (.ldh 15 (.s 14) 1 false),qm 16 0, .i (.nch 17 (.s 16)),qf 18 17 1, .i (.ldh 19 (.s 18) 1 false), .i (.call 21 264 false [(.s 15),(.s 19),(qi 32)]),qm 11 20, .i (.ext 21 (.s 11) 0), .i (.ext 22 (.s 11) 1), .i (.ext 23 (.s 11) 2),qm 3 21,qm 4 22,qm 5 23]) (.seq (.ops [qm 24 0,qm 25 5, .i (.nch 26 (.s 24)),qf 27 26 2, .i (.sth (.s 27) (.s 25) 1)]) (.seq (.ops [qm 28 0,qm 29 4, .i (.nch 30 (.s 28)),qf 31 30 1, .i (.sth (.s 31) (.s 29) 1)]) (.seq (.ops [qm 32 3,qm 2 32]) .ret))))))⟩
theorem zx:cd qX=some rh:=by kernel_rfl
theorem fK (b:Bytes) (r:Rd) (hr:r.wf b) (hb:b.length≤1073741824):VC cd qX (pK [] 166 (av b r) []) (fun rs p=>rs= [(false,[.o true (some (5,1)) (bytes (ba b r 32).1)])]∧p= [.pt 166 (av b (ba b r 32).2)]):=by
 refine VC.ic ?_
 refine bg zx rfl ?_
 simp(disch:=omega) [rh,av,VZ]
 by_cases h:r.er=0
 ·simp(disch:=omega) [h,VZ]
  refine cp (hY b r.at_ 32 hr.1 hb (by omega)) ?_
  simp(disch:=omega) [tN,ba,h,av,aI,aJ,aP,ab,VZ]
 ·simp(disch:=omega) [h,ba,av,aI,aJ,aP,ab,VZ]
abbrev fy:Nat:=281
def iO:AF:=⟨2,6,[.tmp 4],(.seq (.ops [.i (.mov 4 (.c (.val false [.nils])))]) (.seq (.seq (.ops [qm 8 0, .i (.nch 9 (.s 8)),qf 10 9 2, .i (.ldh 11 (.s 10) 1 false), .i (.bin 12 .neq (.s 11) (qi 0))]) (.cond (.s 12) (.seq (.ops [.i (.mov 4 (.c (.val false [.nils])))]) .ret) .skip)) (.seq (.ops [qm 14 0, .i (.nch 15 (.s 14)),qf 16 15 0, .i (.ldh 17 (.s 16) 1 false),qm 18 0, .i (.nch 19 (.s 18)),qf 20 19 1, .i (.ldh 21 (.s 20) 1 false),qm 22 1, .i (.call 24 310 false [(.s 17),(.s 21),(.s 22)]),qm 13 23, .i (.ext 24 (.s 13) 0), .i (.ext 25 (.s 13) 1), .i (.ext 26 (.s 13) 2),qm 5 24,qm 6 25,qm 7 26]) (.seq (.ops [qm 27 0,qm 28 0,qm 29 6,qm 30 7, .i (.nch 31 (.s 27)),qf 32 31 1, .i (.sth (.s 32) (.s 29) 1), .i (.nch 33 (.s 28)),qf 34 33 2, .i (.sth (.s 34) (.s 30) 1)]) (.seq (.ops [qm 35 5,qm 4 35]) .ret)))))⟩
theorem rO:cd fy=some iO:=by kernel_rfl
theorem xn (b:Bytes) (r:Rd) (m:Nat) (hm:m≤1073741824) (hr:r.wf b) (hb:b.length≤1073741824):VC cd fy (pK [] 279 (av b r) [(false,[.int .i64 (m:Int)])]) (fun rs p=>rs= [(false,[.o true (some (5,1)) (bytes (bZ b r m).1)])]∧p= [.pt 279 (av b (bZ b r m).2)]):=by
 refine VC.ic ?_
 refine bg rO rfl ?_
 simp(disch:=omega) [iO,av,VZ]
 by_cases h:r.er=0
 ·simp(disch:=omega) [h,VZ]
  refine an (wE b r.at_ m hr.1 hb hm) rfl rfl ?_
  simp(disch:=omega) [tN,bZ,h,av,aI,aJ,aP,ab,VZ]
 ·simp(disch:=omega) [h,bZ,av,aI,aJ,aP,ab,VZ]
abbrev iT:Nat:=189
def mR:AF:=⟨2,6,[.tmp 4],(.seq (.ops [.i (.mov 4 (.c (.val false [.nils])))]) (.seq (.seq (.ops [qm 8 0, .i (.nch 9 (.s 8)),qf 10 9 2, .i (.ldh 11 (.s 10) 1 false), .i (.bin 12 .neq (.s 11) (qi 0))]) (.cond (.s 12) (.seq (.ops [.i (.mov 4 (.c (.val false [.nils])))]) .ret) .skip)) (.seq (.ops [qm 14 0, .i (.nch 15 (.s 14)),qf 16 15 0, .i (.ldh 17 (.s 16) 1 false),qm 18 0, .i (.nch 19 (.s 18)),qf 20 19 1, .i (.ldh 21 (.s 20) 1 false),qm 22 1, .i (.call 24 268 false [(.s 17),(.s 21),(.s 22)]),qm 13 23, .i (.ext 24 (.s 13) 0), .i (.ext 25 (.s 13) 1), .i (.ext 26 (.s 13) 2),qm 5 24,qm 6 25,qm 7 26]) (.seq (.ops [qm 27 0,qm 28 7, .i (.nch 29 (.s 27)),qf 30 29 2, .i (.sth (.s 30) (.s 28) 1)]) (.seq (.ops [qm 31 0,qm 32 6, .i (.nch 33 (.s 31)),qf 34 33 1, .i (.sth (.s 34) (.s 32) 1)]) (.seq (.ops [qm 35 5,qm 4 35]) .ret))))))⟩
theorem yv:cd iT=some mR:=by kernel_rfl
theorem FO (b:Bytes) (r:Rd) (m:Nat) (hm:m≤1073741824) (hr:r.wf b) (hb:b.length≤1073741824):VC cd iT (pK [] 166 (av b r) [(false,[.int .i64 (m:Int)])]) (fun rs p=>rs= [(false,[.o true (some (5,1)) (bytes (bZ b r m).1)])]∧p= [.pt 166 (av b (bZ b r m).2)]):=by
 refine VC.ic ?_
 refine bg yv rfl ?_
 simp(disch:=omega) [mR,av,VZ]
 by_cases h:r.er=0
 ·simp(disch:=omega) [h,VZ]
  refine an (wj b r.at_ m hr.1 hb hm) rfl rfl ?_
  simp(disch:=omega) [tN,bZ,h,av,aI,aJ,aP,ab,VZ]
 ·simp(disch:=omega) [h,bZ,av,aI,aJ,aP,ab,VZ]
end Go.Eng.F
namespace Go.Eng.F
theorem oM (l:List Bytes) (x:Bytes):df l++ [[.sl (bytes x)]]=df (l++ [x]):=by simp[df]
theorem nS (b:Bytes) (a:Nat) (n:Int):(bH b a n).2.wf b∧(bH b a n).1.length≤2:=by
 refine⟨(EN b a n).1,?_⟩
 simp only[bH]
 split
 ·simp
 ·split
  ·exact IY ‹_›
  ·simp
def c4.o (v:c4):List E:= [.p (.int .i64 v.view), .p (.int .i64 v.height), .o true (some (5,1)) (bytes v.block), .p (.int .i64 v.who), .o true (some (5,1)) (bytes v.tag)]
abbrev ib:Nat:=197
def lN:AF:=⟨2,5,[.cell 4 5 true],(.seq (.ops [.i (.lbox 2 (.s 0)), .i (.lal 4 [.int .i64 0, .int .i64 0, .nils, .int .i64 0, .nils])]) (.seq (.ops [qm 5 1,qk 7 274 5,qm 7 1,qk 9 274 7,qm 9 1,qk 11 275 9,qm 11 1,qf 12 2 0,ql 13 2 12 1 false, .i (.call 15 276 false [(.s 11),(.s 13),(qi 5)]),qm 15 1,qk 17 275 15, .i (.bld 17 [.int .i64 0, .int .i64 0, .nils, .int .i64 0, .nils] [(0,1,(.s 6)),(1,1,(.s 8)),(2,1,(.s 10)),(3,1,(.s 14)),(4,1,(.s 16))]),qs 4 4 17 5]) .ret))⟩
theorem wC:cd ib=some lN:=by kernel_rfl
theorem tW (b:Bytes) (l:ao) (r:Rd) (hr:r.wf b) (hb:b.length≤1073741824):VC cd ib (pK [(true,l.c)] 279 (av b r) []) (fun rs p=>rs= [(true,(eG b l r).1.o)]∧p= [.pt 279 (av b (eG b l r).2)]):=by
 refine bg wC rfl ?_
 simp(disch:=omega) [lN,av,ao.c,VZ]
 refine bI (bN b r hr hb) ?_
 have w1:=aT hr
 generalize h1:aO b r=s1 at w1⊢
 simp(disch:=omega) [av,VZ]
 refine bI (bN b s1.2 w1.1 hb) ?_
 have w2:=aT w1.1
 generalize h2:aO b s1.2=s2 at w2⊢
 simp(disch:=omega) [av,VZ]
 refine bI (cJ b s2.2 w2.1 hb) ?_
 have w3:=bU w2.1 32
 generalize h3:ba b s2.2 32=s3 at w3⊢
 simp(disch:=omega) [av,VZ]
 refine bI (cV b s3.2 l.n 5 w3.1 hb) ?_
 have w4:=cP (n:=l.n) (c:=5) w3.1 (by omega)
 generalize h4:aM b s3.2 l.n 5=s4 at w4⊢
 simp(disch:=omega) [av,VZ]
 refine bI (cJ b s4.2 w4.1 hb) ?_
 have w5:=bU w4.1 32
 generalize h5:ba b s4.2 32=s5 at w5⊢
 simp(disch:=omega) [av,VZ]
 simp(disch:=omega) [eG,h1,h2,h3,h4,h5,c4.o,av,VZ]
abbrev ju:Nat:=199
def rj:AF:=⟨2,6,[.cell 4 5 true],(.seq (.ops [.i (.lbox 2 (.s 0)), .i (.lal 4 [.int .i64 0, .int .i64 0, .nils, .nils, .nils])]) (.seq (.ops [qm 6 1,qk 8 274 6,qm 8 1,qk 10 274 8,qm 10 1,qk 12 275 10, .i (.bld 12 [.int .i64 0, .int .i64 0, .nils, .nils, .nils] [(0,1,(.s 7)),(1,1,(.s 9)),(2,1,(.s 11))]), .i (.lal 5 [.int .i64 0, .int .i64 0, .nils, .nils, .nils]),qs 5 5 12 5]) (.seq (.seq (.ops [qm 13 1, .i (.nch 14 (.s 13)),qf 15 14 2, .i (.ldh 16 (.s 15) 1 false), .i (.bin 17 .neq (.s 16) (qi 0))]) (.cond (.s 17) (.seq (.ops [ql 18 5 5 5 true,qs 4 4 18 5]) .ret) .skip)) (.seq (.ops [qm 20 1,qm 21 1,qm 22 1, .i (.nch 23 (.s 22)),qf 24 23 0, .i (.ldh 25 (.s 24) 1 false),qm 26 1, .i (.nch 27 (.s 26)),qf 28 27 1, .i (.ldh 29 (.s 28) 1 false),qf 30 2 0,ql 31 2 30 1 false, .i (.call 33 277 false [(.s 25),(.s 29),(.s 31)]),qm 19 32, .i (.ext 33 (.s 19) 0), .i (.ext 34 (.s 19) 1), .i (.ext 35 (.s 19) 2),qf 36 5 3,qs 5 36 33 1, .i (.nch 37 (.s 20)),qf 38 37 1, .i (.sth (.s 38) (.s 34) 1), .i (.nch 39 (.s 21)),qf 40 39 2, .i (.sth (.s 40) (.s 35) 1)]) (.seq (.seq (.ops [qf 41 5 3,ql 42 5 41 1 false,qk 44 278 42, .i (.mov 44 (qi 0))]) (.block 0 (.loop [53,52,51,50,49,48,47,46,45] (.seq (.ops [qd 45 .lss 44 43]) (.seq (.cond (.s 45) .skip (.exit 0)) (.seq (.block 1 (.ops [qf 46 5 4,ql 47 5 46 1 false,qm 48 1,qk 50 275 48, .i (.lsl 50 1 1 [.nils] [(0,1,(.s 49))]), .i (.app 51 24 1 24 (.s 47) (.s 50)),qf 52 5 4,qs 5 52 51 1])) (.ops [.i (.bin 53 .add (.s 44) (qi 1)),qm 44 53]))))))) (.seq (.ops [ql 54 5 5 5 true,qs 4 4 54 5]) .ret))))))⟩
theorem zJ:cd ju=some rj:=by kernel_rfl
theorem eD (b:Bytes) (l:ao) (r:Rd) (hl:1≤l.n∧l.n≤10) (hr:r.wf b) (hb:b.length≤1073741824):VC cd ju (pK [(true,l.c)] 279 (av b r) []) (fun rs p=>rs= [(true,(kb b l r).1.o)]∧p= [.pt 279 (av b (kb b l r).2)]):=by
 refine VC.ic ?_
 refine bg zJ rfl ?_
 simp(disch:=omega) [rj,av,ao.c,VZ]
 refine bI (bN b r hr hb) ?_
 have w1:=aT hr
 generalize h1:aO b r=s1 at w1⊢
 simp(disch:=omega) [av,VZ]
 refine bI (bN b s1.2 w1.1 hb) ?_
 have w2:=aT w1.1
 generalize h2:aO b s1.2=s2 at w2⊢
 simp(disch:=omega) [av,VZ]
 refine bI (cJ b s2.2 w2.1 hb) ?_
 have w3:=bU w2.1 32
 generalize h3:ba b s2.2 32=s3 at w3⊢
 simp(disch:=omega) [av,VZ]
 by_cases g:s3.2.er=0
 case neg=>simp(disch:=omega) [g,kb,h1,h2,h3,Qc.o,av,aI,aJ,aP,ab,df,VZ]
 simp(disch:=omega) [g,VZ]
 refine an (vT b s3.2.at_ l.n hl w3.1.1 hb) rfl rfl ?_
 have w4:=nS b s3.2.at_ l.n
 generalize h4:bH b s3.2.at_ l.n=s4 at w4⊢
 simp(disch:=omega) [tN,VZ]
 refine an (sQ s4.1 (by omega)) rfl rfl ?_
 simp(disch:=omega) [VZ]
 refine ej (σ:=Nat×Nat×List Bytes×Rd) (f0:=_) (by simp(disch:=omega) [VZ];rfl) (dD.zg (s:=5) (k:=5) (i:=4) rfl rfl) (f1:=_) (es0:=_) (by simp(disch:=omega) [VZ];rfl) (by simp(disch:=omega) [VZ];rfl) (fun p=> [(44, .val false [.int .i64 (p.1:Int)]),(5, .box [.int .i64 s1.1, .int .i64 s2.1, .ow 106496 19, .ow 278528 24, .ow 5 p.2.1])]) (fun p=> [(4101, .pt 5 279 [.sl (bytes b), .int .i64 (p.2.2.2.at_:Int), .int .i64 (p.2.2.2.er:Int)]),(5, .sl p.2.1 true true (some (24,1)) (df p.2.2.1))])
  (fun p g=>(g+p.1=(a9 s4.1).length∧p.2.2.1.length=p.1)∧p.2.2.2.wf b∧eA (fun r=>ba b r 32) (a9 s4.1).length s4.2=(p.2.2.1++(eA (fun r=>ba b r 32) g p.2.2.2).1,(eA (fun r=>ba b r 32) g p.2.2.2).2)) (0,_,[],s4.2) (a9 s4.1).length (by simp(disch:=omega) [VZ];rfl) (by simp(disch:=omega) [df,av,VZ]) ⟨⟨by simp,rfl⟩,w4.1,by simp⟩ ?_
 rintro⟨i,v,x,q⟩ nx g0 ⟨⟨hg,h5⟩,h6,h7⟩ P hP
 simp only at hg h5 h6 h7
 have hl:(df x).length=i:=by rw[cn];exact h5
 simp(disch:=omega) [VZ]
 have hb4:=eR s4.1
 refine aj (fun h8=> ?_) (fun h8=> ?_)
 ·simp(disch:=omega) [av,VZ]
  refine bI (cJ b q h6 hb) ?_
  have w5:=bU h6 32
  obtain⟨g1,rfl⟩:∃g1,g0=g1+1:=⟨g0 - 1,by omega⟩
  simp only[eA]at h7
  generalize h9:ba b q 32=s5 at w5 h7⊢
  simp(disch:=omega) [av,hl,oM,VZ]
  refine hP (i+1,_,x++ [s5.1],s5.2) g1 _ _ (by omega) ⟨⟨by simp only;omega,by simp[h5]⟩,w5.1,by rw[h7];simp⟩ (by simp(disch:=omega) [VZ];rfl) (by simp(disch:=omega) [av,VZ])
 ·obtain rfl:g0=0:=by omega
  simp only[eA,List.append_nil]at h7
  simp(disch:=omega) [kb,h1,h2,h3,h4,g,h7,Qc.o,av,aI,aJ,aP,VZ]
abbrev qM:Nat:=126
def qS:AF:=⟨2,7,[.cell 4 5 true],(.seq (.ops [.i (.lbox 3 (.s 1)), .i (.lal 4 [.int .i64 0, .int .i64 0, .nils, .nils, .nils])]) (.seq (.ops [qm 10 0,qk 12 184 10, .i (.bld 12 [.int .i64 0, .int .i64 0, .nils, .nils, .nils] [(0,1,(.s 11))]), .i (.lal 5 [.int .i64 0, .int .i64 0, .nils, .nils, .nils]),qs 5 5 12 5]) (.seq (.ops [qm 13 0,qk 15 184 13,qf 15 5 1,qs 5 15 14 1]) (.seq (.ops [qm 16 0,qk 18 185 16,qf 18 5 2,qs 5 18 17 1]) (.seq (.seq (.ops [qm 19 0, .i (.nch 20 (.s 19)),qf 21 20 2, .i (.ldh 22 (.s 21) 1 false), .i (.bin 23 .eql (.s 22) (qi 0))]) (.cond (.s 23) (.seq (.ops [qm 25 0, .i (.nch 26 (.s 25)),qf 27 26 0, .i (.ldh 28 (.s 27) 1 false),qm 29 0, .i (.nch 30 (.s 29)),qf 31 30 1, .i (.ldh 32 (.s 31) 1 false),qf 33 3 0,ql 34 3 33 1 false, .i (.call 36 186 false [(.s 28),(.s 32),(.s 34)]),qm 24 35, .i (.ext 36 (.s 24) 0), .i (.ext 37 (.s 24) 1), .i (.ext 38 (.s 24) 2),qm 6 36,qm 7 37,qm 8 38]) (.seq (.ops [qm 39 0,qm 40 8, .i (.nch 41 (.s 39)),qf 42 41 2, .i (.sth (.s 42) (.s 40) 1)]) (.seq (.ops [qm 43 0,qm 44 7, .i (.nch 45 (.s 43)),qf 46 45 1, .i (.sth (.s 46) (.s 44) 1)]) (.ops [qm 47 6,qf 48 5 3,qs 5 48 47 1])))) .skip)) (.seq (.seq (.ops [qf 49 5 3,ql 50 5 49 1 false,qk 52 187 50,qm 9 51]) (.block 0 (.loop [62,61,60,59,58,57,56,55,54,53,52] (.seq (.seq (.ops [qm 52 9, .i (.bin 53 .gtr (.s 52) (qi 0))]) (.cond (.s 53) .skip (.exit 0))) (.seq (.block 1 (.ops [qf 56 5 4,ql 57 5 56 1 false,qm 58 0,qk 60 185 58, .i (.lsl 60 1 1 [.nils] [(0,1,(.s 59))]), .i (.app 61 24 1 24 (.s 57) (.s 60)),qf 62 5 4,qs 5 62 61 1])) (.ops [qm 54 9, .i (.bin 55 .sub (.s 54) (qi 1)),qm 9 55])))))) (.seq (.ops [ql 63 5 5 5 true,qs 4 4 63 5]) .ret)))))))⟩
theorem zh:cd qM=some qS:=by kernel_rfl
theorem jP (b:Bytes) (l:ao) (r:Rd) (hl:1≤l.n∧l.n≤10) (hr:r.wf b) (hb:b.length≤1073741824):VC cd qM (pK [] 166 (av b r) [(true,l.c)]) (fun rs p=>rs= [(true,(kb b l r).1.o)]∧p= [.pt 166 (av b (kb b l r).2)]):=by
 refine VC.ic ?_
 refine bg zh rfl ?_
 simp(disch:=omega) [qS,av,ao.c,VZ]
 refine bI (bQ b r hr hb) ?_
 have w1:=aT hr
 generalize h1:aO b r=s1 at w1⊢
 simp(disch:=omega) [av,VZ]
 refine bI (bQ b s1.2 w1.1 hb) ?_
 have w2:=aT w1.1
 generalize h2:aO b s1.2=s2 at w2⊢
 simp(disch:=omega) [av,VZ]
 refine bI (fK b s2.2 w2.1 hb) ?_
 have w3:=bU w2.1 32
 generalize h3:ba b s2.2 32=s3 at w3⊢
 simp(disch:=omega) [av,VZ]
 by_cases g:s3.2.er=0
 ·simp(disch:=omega) [g,VZ]
  refine an (we b s3.2.at_ l.n hl w3.1.1 hb) rfl rfl ?_
  have w4:=nS b s3.2.at_ l.n
  generalize h4:bH b s3.2.at_ l.n=s4 at w4⊢
  simp(disch:=omega) [tN,VZ]
  refine an (i6 s4.1 (by omega)) rfl rfl ?_
  simp(disch:=omega) [VZ]
  refine ej (σ:=Nat×Nat×List Bytes×Rd) (f0:=_) (by simp(disch:=omega) [VZ];rfl) (dD.zg (s:=5) (k:=5) (i:=4) rfl rfl) (f1:=_) (es0:=_) (by simp(disch:=omega) [VZ];rfl) (by simp(disch:=omega) [VZ];rfl) (fun p=> [(9, .val false [.int .i64 (p.1:Int)]),(5, .box [.int .i64 s1.1, .int .i64 s2.1, .ow 155648 19, .ow 303104 24, .ow 5 p.2.1])]) (fun p=> [(4096, .pt 0 166 [.sl (bytes b), .int .i64 (p.2.2.2.at_:Int), .int .i64 (p.2.2.2.er:Int)]),(5, .sl p.2.1 true true (some (24,1)) (df p.2.2.1))])
   (fun p g=>(p.1=g∧p.2.2.1.length+g=(a9 s4.1).length)∧p.2.2.2.wf b∧eA (fun r=>ba b r 32) (a9 s4.1).length s4.2=(p.2.2.1++(eA (fun r=>ba b r 32) g p.2.2.2).1,(eA (fun r=>ba b r 32) g p.2.2.2).2)) ((a9 s4.1).length,_,[],s4.2) (a9 s4.1).length (by simp(disch:=omega) [VZ];rfl) (by simp(disch:=omega) [df,av,VZ]) ⟨⟨by simp,by simp⟩,w4.1,by simp⟩ ?_
  rintro⟨i,v,x,q⟩ nx g0 ⟨⟨hg,h5⟩,h6,h7⟩ P hP
  simp only at hg h5 h6 h7
  have hl:(df x).length=(a9 s4.1).length - i:=by rw[cn];omega
  have hb4:=eR s4.1
  simp(disch:=omega) [VZ]
  refine aj (fun h8=> ?_) (fun h8=> ?_)
  ·simp(disch:=omega) [av,VZ]
   refine bI (fK b q h6 hb) ?_
   have w5:=bU h6 32
   obtain⟨g1,rfl⟩:∃g1,g0=g1+1:=⟨g0 - 1,by omega⟩
   simp only[eA]at h7
   generalize h9:ba b q 32=s5 at w5 h7⊢
   have hc:(i:Int) - 1=((i - 1:Nat):Int):=by omega
   simp(disch:=omega) [av,hl,oM,VZ]
   refine hP (i - 1,_,x++ [s5.1],s5.2) g1 _ _ (by omega) ⟨⟨by simp only;omega,by simp only[List.length_append,List.length_cons,List.length_nil];omega⟩,w5.1,by rw[h7];simp⟩ (by simp(disch:=omega) [hc,VZ];rfl) (by simp(disch:=omega) [av,VZ])
  ·obtain rfl:g0=0:=by omega
   simp only[eA,List.append_nil]at h7
   simp(disch:=omega) [kb,h1,h2,h3,h4,g,h7,Qc.o,av,aI,aJ,aP,VZ]
 ·simp(disch:=omega) [g,VZ]
  refine cp (i6 [] (by simp)) ?_ (ha:=by first|rfl|(simp[bytes,VY] <;>repeat' constructor))
  have hz:a9 []= []:=rfl
  simp(disch:=omega) [hz,VZ]
  refine bS (σ:=Unit) (f1:=_) (es0:=_) (by simp(disch:=omega) [VZ];rfl) (by simp(disch:=omega) [VZ];rfl) (fun _=> [(9, .val false [.int .i64 0])]) (fun _=> []) (fun _ _=>True) () 0 (by simp(disch:=omega) [VZ]) (by simp(disch:=omega) [VZ]) trivial ?_
  rintro _ n _ _
  simp(disch:=omega) [VZ]
  simp(disch:=omega) [kb,h1,h2,h3,g,Qc.o,av,aI,aJ,aP,ab,df,VZ]
end Go.Eng.F
namespace Go.Eng.F
theorem fF {n:Int} (h:isNum n=true):oN n:=by
 have:=eU h
 exact⟨by omega,by omega⟩
end Go.Eng.F
namespace Go.Eng.F
def Kq (n:Int):Prop:=0≤n∧n≤1152921504606846975
def Qc.rd (q:Qc):Prop:=(Kq q.view∧Kq q.height)∧q.block.length≤32∧q.bits.length≤2∧q.tags.length≤16∧∀t∈q.tags,t.length≤32
theorem kJ {n:Nat} (h:n≤1152921504606846975):Kq (n:Int):=⟨by omega,by omega⟩
theorem iP {b:Bytes} {l:ao} {r:Rd} (h:r.wf b):(kb b l r).2.wf b∧(kb b l r).1.rd:=by
 have w1:=aT h
 have w2:=aT w1.1
 have w3:=bU w2.1 32
 simp only[kb]
 split
 ·have w4:=nS b (ba b (aO b (aO b r).2).2 32).2.at_ l.n
  have w5:=fun(r:Rd) (hr:r.wf b)=>bU hr 32
  have w6:=DW (p:=fun t:Bytes=>t.length≤32) (b:=b) (f:=fun r=>ba b r 32) (fun(r:Rd) hr=>⟨(w5 r hr).1,(w5 r hr).2.1⟩)
  refine⟨BF (fun r hr=>(w5 r hr).1) _ _ w4.1,⟨kJ w1.2,kJ w2.2⟩,w3.2.1,w4.2,?_,w6 _ _ w4.1⟩
  simp only[sG]
  have:=eR (bH b (ba b (aO b (aO b r).2).2 32).2.at_ l.n).1
  omega
 ·exact⟨w3.1,⟨kJ w1.2,kJ w2.2⟩,w3.2.1,by simp,by simp,by simp⟩
def Head.rd (h:Head):Prop:=(Kq h.view∧Kq h.height∧Kq h.proposer)∧h.parent.length≤32∧h.root.length≤32∧h.qc.rd
theorem fY {b:Bytes} {l:ao} {r:Rd} (h:r.wf b):(bK b l r).2.wf b∧(bK b l r).1.rd:=by
 simp only[bK]
 have w1:=aT h
 generalize aO b r=s1 at w1⊢
 have w2:=aT w1.1
 generalize aO b s1.2=s2 at w2⊢
 have w3:=aX (bad:=decide (s2.1=0)) (c:=5) w2.1 (by omega)
 generalize ax s2.2 (decide (s2.1=0)) 5=s3 at w3⊢
 have w4:=cP (n:=l.n) (c:=5) w3 (by omega)
 generalize aM b s3 l.n 5=s4 at w4⊢
 have w5:=bU w4.1 32
 generalize ba b s4.2 32=s5 at w5⊢
 have w6:=bU w5.1 32
 generalize ba b s5.2 32=s6 at w6⊢
 have w7:=iP (l:=l) w6.1
 generalize kb b l s6.2=s7 at w7⊢
 exact⟨aX w7.1 (by omega),⟨kJ w1.2,kJ w2.2,kJ w4.2⟩,w5.2.1,w6.2.1,w7.2⟩
theorem Db (h:Head) (h1:0≤h.height) (h2:oN h.height):VC cd iw (bJ [(true,h.c)]) (fun rs _=>rs=bl (fits h)):=by
 simp only[oN]at h2
 refine aa pA rfl ?_
 simp(disch:=omega) [iq,Head.c,VY]
 refine aj (fun g1=> ?_) (fun g1=> ?_) <;>simp(disch:=omega) [g1,fits,VY]
 refine aj (fun g2=> ?_) (fun g2=> ?_) <;>simp(disch:=omega) [g1,g2,VY]
 refine an (ja _ _) rfl rfl ?_
 simp(disch:=omega) [g1,g2,VY]
theorem C2 (h:Head) (h1:0≤h.height) (h2:oN h.height):VC cd og (bJ [(true,h.c)]) (fun rs _=>rs=bl (fits h)):=by
 simp only[oN]at h2
 refine aa xQ rfl ?_
 simp(disch:=omega) [ou,Head.c,VY]
 refine aj (fun g1=> ?_) (fun g1=> ?_) <;>simp(disch:=omega) [g1,fits,VY]
 refine aj (fun g2=> ?_) (fun g2=> ?_) <;>simp(disch:=omega) [g1,g2,VY]
 refine an (i4 _ _) rfl rfl ?_
 simp(disch:=omega) [g1,g2,VY]
abbrev hZ:Nat:=201
def lr:AF:=⟨2,6,[.cell 4 10 true],(.seq (.ops [.i (.lbox 2 (.s 0)), .i (.lal 4 qz)]) (.seq (.ops [qm 6 1,qk 8 274 6,qm 8 1,qk 10 274 8, .i (.bld 10 qz [(0,1,(.s 7)),(1,1,(.s 9))]), .i (.lal 5 qz),qs 5 5 10 10]) (.seq (.ops [qm 11 1,qf 12 5 1,ql 13 5 12 1 false, .i (.bin 14 .neq (.s 13) (qi 0)), .i (.call 16 279 false [(.s 11),(.s 14),(qi 5)])]) (.seq (.ops [qm 16 1,qf 17 2 0,ql 18 2 17 1 false, .i (.call 20 276 false [(.s 16),(.s 18),(qi 5)]),qf 20 5 2,qs 5 20 19 1]) (.seq (.ops [qm 21 1,qk 23 275 21,qm 23 1,qk 25 275 23,qf 25 5 3,qs 5 25 22 1,qf 26 5 4,qs 5 26 24 1]) (.seq (.ops [ql 27 2 2 5 true,qm 28 1, .i (.call 30 199 false [(.s 27),(.s 28)]),qf 30 5 5,qs 5 30 29 5]) (.seq (.ops [qm 31 1,ql 32 5 5 10 true,qk 34 280 32, .i (.call 35 279 false [(.s 31),(.s 33),(qi 6)])]) (.seq (.ops [ql 35 5 5 10 true,qs 4 4 35 10]) .ret))))))))⟩
theorem wk:cd hZ=some lr:=by kernel_rfl
theorem gz (b:Bytes) (l:ao) (r:Rd) (hl:1≤l.n∧l.n≤10) (hr:r.wf b) (hb:b.length≤1073741824):VC cd hZ (pK [(true,l.c)] 279 (av b r) []) (fun rs p=>rs= [(true,(bK b l r).1.o)]∧p= [.pt 279 (av b (bK b l r).2)]):=by
 refine bg wk rfl ?_
 simp(disch:=omega) [lr,av,ao.c,VZ]
 refine bI (bN b r hr hb) ?_
 have w1:=aT hr
 generalize h1:aO b r=s1 at w1⊢
 simp(disch:=omega) [av,VZ]
 refine bI (bN b s1.2 w1.1 hb) ?_
 have w2:=aT w1.1
 generalize h2:aO b s1.2=s2 at w2⊢
 simp(disch:=omega) [av,VZ]
 refine bI (aY b s2.2 (!decide (s2.1=0)) 5) ?_
 simp only[Bool.not_not]
 have w3:=aX (bad:=decide (s2.1=0)) (c:=5) w2.1 (by omega)
 generalize h3:ax s2.2 (decide (s2.1=0)) 5=s3 at w3⊢
 simp(disch:=omega) [av,VZ]
 refine bI (cV b s3 l.n 5 w3 hb) ?_
 have w4:=cP (n:=l.n) (c:=5) w3 (by omega)
 generalize h4:aM b s3 l.n 5=s4 at w4⊢
 simp(disch:=omega) [av,VZ]
 refine bI (cJ b s4.2 w4.1 hb) ?_
 have w5:=bU w4.1 32
 generalize h5:ba b s4.2 32=s5 at w5⊢
 simp(disch:=omega) [av,VZ]
 refine bI (cJ b s5.2 w5.1 hb) ?_
 have w6:=bU w5.1 32
 generalize h6:ba b s5.2 32=s6 at w6⊢
 simp(disch:=omega) [av,VZ]
 refine bI (eD b l s6.2 hl w6.1 hb) ?_ (n1:=by simp(disch:=omega) [Qc.o,VZ]) (n3:=by simp(disch:=omega) [Qc.o,VZ])
 have w7:=iP (l:=l) w6.1
 generalize h7:kb b l s6.2=s7 at w7⊢
 simp(disch:=omega) [av,ao.c,Qc.o,VZ]
 have w2':=kJ w2.2
 simp only[Kq]at w2'
 refine cp (Db ⟨s1.1,s2.1,s4.1,s5.1,s6.1,s7.1⟩ w2'.1 ⟨by simp only;omega,by simp only;omega⟩) ?_ (ha:=by first|rfl|(simp[Head.c,VY] <;>repeat' constructor))
 simp(disch:=omega) [av,VZ]
 refine bI (aY b s7.2 (fits ⟨s1.1,s2.1,s4.1,s5.1,s6.1,s7.1⟩) 6) ?_
 have w8:=aX (bad:=(!fits ⟨s1.1,s2.1,s4.1,s5.1,s6.1,s7.1⟩)) (c:=6) w7.1 (by omega)
 generalize h8:ax s7.2 ((!fits ⟨s1.1,s2.1,s4.1,s5.1,s6.1,s7.1⟩)) 6=s8 at w8⊢
 simp(disch:=omega) [av,VZ]
 simp(disch:=omega) [bK,h1,h2,h3,h4,h5,h6,h7,h8,Head.o,av,VZ]
abbrev qv:Nat:=127
def qV:AF:=⟨2,6,[.cell 4 10 true],(.seq (.ops [.i (.lbox 3 (.s 1)), .i (.lal 4 qz)]) (.seq (.ops [qm 6 0,qk 8 184 6, .i (.bld 8 qz [(0,1,(.s 7))]), .i (.lal 5 qz),qs 5 5 8 10]) (.seq (.ops [qm 9 0,qk 11 184 9,qf 11 5 1,qs 5 11 10 1]) (.seq (.ops [qm 12 0,qf 13 5 1,ql 14 5 13 1 false, .i (.bin 15 .eql (.s 14) (qi 0)), .i (.call 17 132 false [(.s 12),(.s 15),(qi 5)])]) (.seq (.ops [qm 17 0,qk 19 184 17,qf 19 5 2,qs 5 19 18 1]) (.seq (.ops [qm 20 0,qf 21 5 2,ql 22 5 21 1 false,qf 23 3 0,ql 24 3 23 1 false,qd 25 .geq 22 24, .i (.call 27 132 false [(.s 20),(.s 25),(qi 5)])]) (.seq (.ops [qm 27 0,qk 29 185 27,qf 29 5 3,qs 5 29 28 1]) (.seq (.ops [qm 30 0,qk 32 185 30,qf 32 5 4,qs 5 32 31 1]) (.seq (.ops [qm 33 0,ql 34 3 3 5 true, .i (.call 36 126 false [(.s 33),(.s 34)]),qf 36 5 5,qs 5 36 35 5]) (.seq (.ops [qm 37 0,ql 38 5 5 10 true,qk 40 188 38, .i (.not 40 (.s 39)), .i (.call 42 132 false [(.s 37),(.s 40),(qi 6)])]) (.seq (.ops [ql 42 5 5 10 true,qs 4 4 42 10]) .ret)))))))))))⟩
theorem zA:cd qv=some qV:=by kernel_rfl
theorem uU (b:Bytes) (l:ao) (r:Rd) (hl:1≤l.n∧l.n≤10) (hr:r.wf b) (hb:b.length≤1073741824):VC cd qv (pK [] 166 (av b r) [(true,l.c)]) (fun rs p=>rs= [(true,(bK b l r).1.o)]∧p= [.pt 166 (av b (bK b l r).2)]):=by
 refine bg zA rfl ?_
 simp(disch:=omega) [qV,av,ao.c,VZ]
 refine bI (bQ b r hr hb) ?_
 have w1:=aT hr
 generalize h1:aO b r=s1 at w1⊢
 simp(disch:=omega) [av,VZ]
 refine bI (bQ b s1.2 w1.1 hb) ?_
 have w2:=aT w1.1
 generalize h2:aO b s1.2=s2 at w2⊢
 simp(disch:=omega) [av,VZ]
 refine bI (aA b s2.2 (decide (s2.1=0)) 5) ?_
 have w3:=aX (bad:=decide (s2.1=0)) (c:=5) w2.1 (by omega)
 generalize h3:ax s2.2 (decide (s2.1=0)) 5=s3 at w3⊢
 simp(disch:=omega) [av,VZ]
 refine bI (bQ b s3 w3 hb) ?_
 have w4:=aT w3
 generalize h4:aO b s3=s4 at w4⊢
 simp(disch:=omega) [av,VZ]
 refine bI (aA b s4.2 (decide (l.n≤(s4.1:Int))) 5) ?_
 have w5:=aX (bad:=decide (l.n≤(s4.1:Int))) (c:=5) w4.1 (by omega)
 generalize h5:ax s4.2 (decide (l.n≤(s4.1:Int))) 5=s5 at w5⊢
 simp(disch:=omega) [av,VZ]
 refine bI (fK b s5 w5 hb) ?_
 have w6:=bU w5 32
 generalize h6:ba b s5 32=s6 at w6⊢
 simp(disch:=omega) [av,VZ]
 refine bI (fK b s6.2 w6.1 hb) ?_
 have w7:=bU w6.1 32
 generalize h7:ba b s6.2 32=s7 at w7⊢
 simp(disch:=omega) [av,VZ]
 refine bI (jP b l s7.2 hl w7.1 hb) ?_ (n1:=by simp(disch:=omega) [Qc.o,VZ]) (n3:=by simp(disch:=omega) [Qc.o,VZ])
 have w8:=iP (l:=l) w7.1
 generalize h8:kb b l s7.2=s8 at w8⊢
 simp(disch:=omega) [av,ao.c,Qc.o,VZ]
 have w2':=kJ w2.2
 simp only[Kq]at w2'
 refine cp (C2 ⟨s1.1,s2.1,s4.1,s6.1,s7.1,s8.1⟩ w2'.1 ⟨by simp only;omega,by simp only;omega⟩) ?_ (ha:=by first|rfl|(simp[Head.c,VY] <;>repeat' constructor))
 simp(disch:=omega) [av,VZ]
 refine bI (aA b s8.2 ((!fits ⟨s1.1,s2.1,s4.1,s6.1,s7.1,s8.1⟩)) 6) ?_
 have w9:=aX (bad:=(!fits ⟨s1.1,s2.1,s4.1,s6.1,s7.1,s8.1⟩)) (c:=6) w8.1 (by omega)
 generalize h9:ax s8.2 ((!fits ⟨s1.1,s2.1,s4.1,s6.1,s7.1,s8.1⟩)) 6=s9 at w9⊢
 simp(disch:=omega) [av,VZ]
 simp(disch:=omega) [bK,aM,h1,h2,h3,h4,h5,h6,h7,h8,h9,Head.o,av,VZ]
end Go.Eng.F
namespace Go.Eng.F
def ao.rd (l:ao):Prop:=(1≤l.n∧l.n≤10)∧(0≤l.tx∧l.tx≤40)∧(0≤l.txs∧l.txs≤8)∧3≤l.heads∧l.heads≤5
theorem dQ {l:ao} (h:l.ok=true):l.rd:=by
 simp only[ao.ok,dR,Bool.and_eq_true,decide_eq_true_eq]at h
 exact⟨h.1.1.1.1,h.1.1.1.2,h.1.1.2,h.2⟩
theorem rz {α:Type} {f:Rd→α×Rd}:∀(k:Nat) (r:Rd),(bm f k r).2.er=0→(bm f k r).1.length=k
 |0,r,_=>rfl
 |k+1,r,h=>by
  rw[bm]at h⊢
  split
  ·rename_i g
   rw[if_pos g]at h
   simp only[List.length_cons,rz k _ h]
  ·rename_i g
   rw[if_neg g]at h
   exact absurd h g
theorem eI {r:Rd} {bad:Bool} {c:Nat} (h:(ax r bad c).er=0) (hc:c≠0):bad=false:=by
 unfold ax at h
 split at h
 ·exact absurd h hc
 ·rename_i g
  cases bad
  ·rfl
  ·exact absurd ⟨h,rfl⟩ g
theorem dK {r:Rd} {bad:Bool} {c:Nat} (h:r.er≠0):ax r bad c=r:=by
 unfold ax
 rw[if_neg (fun g=>h g.1)]
theorem fI {α:Type} {f:Rd→α×Rd} {k:Nat} {r:Rd} (h:r.er≠0):bm f k r=([],r):=by
 cases k
 ·rfl
 ·rw[bm,if_neg h]
theorem fB {α:Type} {f:Rd→α×Rd} {k:Nat} {r:Rd} (h:r.er=0):bm f (k+1) r=((f r).1::(bm f k (f r).2).1,(bm f k (f r).2).2):=by
 rw[bm,if_pos h]
theorem lM (b:Bytes) (r:Rd) (m:Int) (h0:0≤m∧m≤1073741824) (hr:r.wf b) (hb:b.length≤1073741824):VC cd fy (pK [] 279 (av b r) [(false,[.int .i64 m])]) (fun rs p=>rs= [(false,[.o true (some (5,1)) (bytes (bZ b r m.toNat).1)])]∧p= [.pt 279 (av b (bZ b r m.toNat).2)]):=by
 obtain⟨k,rfl⟩:=Int.eq_ofNat_of_zero_le h0.1
 exact xn b r k (by omega) hr hb
theorem vv (b:Bytes) (r:Rd) (m:Int) (h0:0≤m∧m≤1073741824) (hr:r.wf b) (hb:b.length≤1073741824):VC cd iT (pK [] 166 (av b r) [(false,[.int .i64 m])]) (fun rs p=>rs= [(false,[.o true (some (5,1)) (bytes (bZ b r m.toNat).1)])]∧p= [.pt 166 (av b (bZ b r m.toNat).2)]):=by
 obtain⟨k,rfl⟩:=Int.eq_ofNat_of_zero_le h0.1
 exact FO b r k (by omega) hr hb
abbrev gD:Nat:=203
def jM:AF:=⟨2,6,[.cell 4 11 true],(.seq (.ops [.i (.lbox 2 (.s 0)), .i (.lal 4 [.int .i64 0, .int .i64 0, .int .i64 0, .nils, .nils, .int .i64 0, .int .i64 0, .nils, .nils, .nils, .nils])]) (.seq (.ops [ql 8 2 2 5 true,qm 9 1, .i (.call 11 201 false [(.s 8),(.s 9)]), .i (.bld 11 [.int .i64 0, .int .i64 0, .int .i64 0, .nils, .nils, .int .i64 0, .int .i64 0, .nils, .nils, .nils, .nils] [(0,10,(.s 10))]), .i (.lal 5 [.int .i64 0, .int .i64 0, .int .i64 0, .nils, .nils, .int .i64 0, .int .i64 0, .nils, .nils, .nils, .nils]),qs 5 5 11 11]) (.seq (.ops [qm 12 1,qf 13 2 2,ql 14 2 13 1 false, .i (.bin 15 .add (.s 14) (qi 1)), .i (.call 17 276 false [(.s 12),(.s 15),(qi 3)]),qm 6 16]) (.seq (.seq (.ops [.i (.mov 7 (qi 0))]) (.block 0 (.loop [37,36,35,34,33,32,31,30,29,28,27,26,25,24,23,22,21,20,19,18,17] (.seq (.seq (.ops [qm 17 7,qm 18 6,qd 19 .lss 17 18,qm 20 19, .g 20 true 22 (.mov 21 (.s 1)), .g 20 true 23 (.nch 22 (.s 21)), .g 20 true 24 (.fad 23 (.s 22) 2), .g 20 true 25 (.ldh 24 (.s 23) 1 false), .g 20 true 26 (.bin 25 .eql (.s 24) (qi 0)), .i (.pick 26 (.s 20) (.s 25) (qb false))]) (.cond (.s 26) .skip (.exit 0))) (.seq (.block 1 (.ops [qf 29 5 10,ql 30 5 29 1 false,qm 31 1,qf 32 2 1,ql 33 2 32 1 false, .i (.call 35 281 false [(.s 31),(.s 33)]), .i (.lsl 35 1 1 [.nils] [(0,1,(.s 34))]), .i (.app 36 24 1 24 (.s 30) (.s 35)),qf 37 5 10,qs 5 37 36 1])) (.ops [qm 27 7, .i (.bin 28 .add (.s 27) (qi 1)),qm 7 28])))))) (.seq (.ops [qm 38 1,qm 39 1, .i (.nch 40 (.s 39)),qf 41 40 2, .i (.ldh 42 (.s 41) 1 false), .i (.bin 43 .neq (.s 42) (qi 0)),qm 44 43, .g 44 false 46 (.fad 45 (.s 5) 0), .g 44 false 47 (.fad 46 (.s 45) 4), .g 44 false 48 (.ldl 47 5 (.s 46) 1 false), .g 44 false 49 (.fad 48 (.s 5) 10), .g 44 false 50 (.ldl 49 5 (.s 48) 1 false), .g 44 false 51 (.call 51 282 false [(.s 49)]), .g 44 false 52 (.call 52 120 false [(.s 47),(.s 50)]), .i (.pick 52 (.s 44) (qb true) (.s 51)), .i (.call 54 279 false [(.s 38),(.s 52),(qi 7)])]) (.seq (.ops [ql 54 5 5 11 true,qs 4 4 54 11]) .ret))))))⟩
theorem u5:cd gD=some jM:=by kernel_rfl
theorem sw (b:Bytes) (l:ao) (r:Rd) (hL:l.rd) (hr:r.wf b) (hb:b.length≤1073741824):VC cd gD (pK [(true,l.c)] 279 (av b r) []) (fun rs p=>rs= [(true,(cz b l r).1.o)]∧p= [.pt 279 (av b (cz b l r).2)]):=by
 refine VC.ic ?_
 obtain⟨hl,hx,ht,hh⟩:=hL
 refine bg u5 rfl ?_
 simp(disch:=omega) [jM,av,ao.c,VZ]
 refine bI (gz b l r hl hr hb) ?_ (n1:=by simp(disch:=omega) [Head.o,VZ]) (n3:=by simp(disch:=omega) [Head.o,VZ])
 have w1:=fY (l:=l) hr
 generalize h1:bK b l r=s1 at w1⊢
 simp(disch:=omega) [av,ao.c,Head.o,VZ]
 refine bI (cV b s1.2 (l.txs+1) 3 w1.1 hb) ?_
 have w2:=cP (n:=(l.txs+1)) (c:=3) w1.1 (by omega)
 generalize h2:aM b s1.2 (l.txs+1) 3=s2 at w2⊢
 simp(disch:=omega) [av,VZ]
 have hn:s2.2.er=0→(s2.1:Int)≤l.txs:=by
  intro g
  have e:(aM b s1.2 (l.txs+1) 3).2.er=0:=by rw[h2];exact g
  have:=eI e (by omega)
  simp only[aM]at h2
  rw[show(aO b s1.2).1=s2.1 by rw[←h2]]at this
  simp only[decide_eq_false_iff_not]at this
  omega
 refine ej (σ:=Nat×Nat×List Bytes×Rd) (f0:=_) (by simp(disch:=omega) [VZ];rfl) (dD.zg (s:=5) (k:=5) (i:=10) rfl rfl) (f1:=_) (es0:=_) (by simp(disch:=omega) [VZ];rfl) (by simp(disch:=omega) [VZ];rfl) (fun p=> [(7, .val false [.int .i64 (p.1:Int)]),(5, .box [.int .i64 s1.1.view, .int .i64 s1.1.height, .int .i64 s1.1.proposer, .ow 98307 12, .ow 98308 13, .int .i64 s1.1.qc.view, .int .i64 s1.1.qc.height, .ow 98311 16, .ow 98312 17, .ow 98313 18, .ow 5 p.2.1])]) (fun p=> [(4101, .pt 5 279 [.sl (bytes b), .int .i64 (p.2.2.2.at_:Int), .int .i64 (p.2.2.2.er:Int)]),(5, .sl p.2.1 true true (some (24,1)) (df p.2.2.1))])
  (fun p g=>(g+p.1=s2.1∧p.2.2.1.length=p.1)∧(p.2.2.2.er=0→(s2.1:Int)≤l.txs)∧p.2.2.2.wf b∧bm (fun r=>bZ b r l.tx.toNat) s2.1 s2.2=(p.2.2.1++(bm (fun r=>bZ b r l.tx.toNat) g p.2.2.2).1,(bm (fun r=>bZ b r l.tx.toNat) g p.2.2.2).2)) (0,_,[],s2.2) s2.1 (by simp(disch:=omega) [VZ];rfl) (by simp(disch:=omega) [df,av,VZ]) ⟨⟨by simp,rfl⟩,hn,w2.1,by simp⟩ ?_
 have hall:∀t∈(bm (fun r=>bZ b r l.tx.toNat) s2.1 s2.2).1,t.length≤40:=jE (p:=fun t:Bytes=>t.length≤40) (b:=b) (fun r hr=>⟨(fi hr _).1,Nat.le_trans (fi hr _).2.1 (by omega)⟩) _ _ w2.1
 rintro⟨i,v,x,⟨qa,qe⟩⟩ nx g0 ⟨⟨hg,h5⟩,h10,h6,h7⟩ P hP
 simp only at hg h5 h6 h7 h10
 have hl2:(df x).length=i:=by rw[cn];exact h5
 by_cases h9:qe=0
 ·subst h9
  by_cases h8:i < s2.1
  ·have h11:=h10 rfl
   simp(disch:=omega) [h8,av,VZ]
   refine bI (lM b ⟨qa,0⟩ l.tx (by omega) h6 hb) ?_
   have w5:=fi h6 l.tx.toNat
   obtain⟨g1,rfl⟩:∃g1,g0=g1+1:=⟨g0 - 1,by omega⟩
   rw[fB rfl]at h7
   simp only at h7
   generalize h12:bZ b ⟨qa,0⟩ l.tx.toNat=s5 at w5 h7⊢
   simp(disch:=omega) [av,hl2,oM,VZ]
   refine hP (i+1,_,x++ [s5.1],s5.2) g1 _ _ (by omega) ⟨⟨by simp only;omega,by simp[h5]⟩,fun _=>h11,w5.1,by rw[h7];simp⟩ (by simp(disch:=omega) [VZ];rfl) (by simp(disch:=omega) [av,VZ])
  ·obtain rfl:g0=0:=by omega
   simp only[bm,List.append_nil]at h7
   have hx2:∀t∈x,t.length≤1073741823:=fun t ht=>Nat.le_trans (hall t (by rw[h7];exact ht)) (by omega)
   have h11:=h10 rfl
   simp(disch:=omega) [h8,av,VZ]
   refine cp (uV _ x rfl (by omega) hx2) ?_
   simp(disch:=omega) [VZ]
   refine cp (ja _ _) ?_
   simp(disch:=omega) [av,VZ]
   refine bI (aY b ⟨qa,0⟩ (decide (s1.1.root=bx x)) 7) ?_
   simp(disch:=omega) [cz,h1,h2,h7,Block.o,av,aI,aJ,aP,VZ]
 ·rw[fI (k:=g0) (r:=⟨qa,qe⟩) h9]at h7
  simp only[List.append_nil]at h7
  by_cases h8:i < s2.1
  ·skip
   have hx2:∀t∈x,t.length≤1073741823:=fun t ht=>Nat.le_trans (hall t (by rw[h7];exact ht)) (by omega)
   simp(disch:=omega) [h8,h9,av,VZ]
   refine bI (aY b ⟨qa,qe⟩ true 7) ?_
   have h12:∀bad c,ax ⟨qa,qe⟩ bad c=⟨qa,qe⟩:=fun bad c=>dK h9
   simp(disch:=omega) [cz,h1,h2,h7,Block.o,av,aI,aJ,aP,h12,VZ]
  ·skip
   have hx2:∀t∈x,t.length≤1073741823:=fun t ht=>Nat.le_trans (hall t (by rw[h7];exact ht)) (by omega)
   simp(disch:=omega) [h8,h9,av,VZ]
   refine bI (aY b ⟨qa,qe⟩ true 7) ?_
   have h12:∀bad c,ax ⟨qa,qe⟩ bad c=⟨qa,qe⟩:=fun bad c=>dK h9
   simp(disch:=omega) [cz,h1,h2,h7,Block.o,av,aI,aJ,aP,h12,VZ]
abbrev qP:Nat:=128
def pL:AF:=⟨2,6,[.cell 4 11 true],(.seq (.ops [.i (.lbox 3 (.s 1)), .i (.lal 4 [.int .i64 0, .int .i64 0, .int .i64 0, .nils, .nils, .int .i64 0, .int .i64 0, .nils, .nils, .nils, .nils])]) (.seq (.ops [qm 8 0,ql 9 3 3 5 true, .i (.call 11 127 false [(.s 8),(.s 9)]), .i (.bld 11 [.int .i64 0, .int .i64 0, .int .i64 0, .nils, .nils, .int .i64 0, .int .i64 0, .nils, .nils, .nils, .nils] [(0,10,(.s 10))]), .i (.lal 5 [.int .i64 0, .int .i64 0, .int .i64 0, .nils, .nils, .int .i64 0, .int .i64 0, .nils, .nils, .nils, .nils]),qs 5 5 11 11]) (.seq (.ops [qm 12 0,qk 14 184 12,qm 6 13]) (.seq (.ops [qm 14 0,qm 15 6,qf 16 3 2,ql 17 3 16 1 false,qd 18 .gtr 15 17, .i (.call 20 132 false [(.s 14),(.s 18),(qi 3)])]) (.seq (.seq (.ops [.i (.mov 7 (qi 0))]) (.block 0 (.loop [40,39,38,37,36,35,34,33,32,31,30,29,28,27,26,25,24,23,22,21,20] (.seq (.seq (.ops [qm 20 7,qm 21 6,qd 22 .lss 20 21,qm 23 22, .g 23 true 25 (.mov 24 (.s 0)), .g 23 true 26 (.nch 25 (.s 24)), .g 23 true 27 (.fad 26 (.s 25) 2), .g 23 true 28 (.ldh 27 (.s 26) 1 false), .g 23 true 29 (.bin 28 .eql (.s 27) (qi 0)), .i (.pick 29 (.s 23) (.s 28) (qb false))]) (.cond (.s 29) .skip (.exit 0))) (.seq (.block 1 (.ops [qf 32 5 10,ql 33 5 32 1 false,qm 34 0,qf 35 3 1,ql 36 3 35 1 false, .i (.call 38 189 false [(.s 34),(.s 36)]), .i (.lsl 38 1 1 [.nils] [(0,1,(.s 37))]), .i (.app 39 24 1 24 (.s 33) (.s 38)),qf 40 5 10,qs 5 40 39 1])) (.ops [qm 30 7, .i (.bin 31 .add (.s 30) (qi 1)),qm 7 31])))))) (.seq (.seq (.ops [qm 41 0, .i (.nch 42 (.s 41)),qf 43 42 2, .i (.ldh 44 (.s 43) 1 false), .i (.bin 45 .eql (.s 44) (qi 0))]) (.cond (.s 45) (.ops [qm 46 0,qf 47 5 0,qf 48 47 4,ql 49 5 48 1 false,qf 50 5 10,ql 51 5 50 1 false,qk 53 191 51, .i (.call 54 190 false [(.s 49),(.s 52)]), .i (.not 54 (.s 53)), .i (.call 56 132 false [(.s 46),(.s 54),(qi 7)])]) .skip)) (.seq (.ops [ql 56 5 5 11 true,qs 4 4 56 11]) .ret)))))))⟩
theorem zX:cd qP=some pL:=by kernel_rfl
theorem Hc (b:Bytes) (l:ao) (r:Rd) (hL:l.rd) (hr:r.wf b) (hb:b.length≤1073741824):VC cd qP (pK [] 166 (av b r) [(true,l.c)]) (fun rs p=>rs= [(true,(cz b l r).1.o)]∧p= [.pt 166 (av b (cz b l r).2)]):=by
 refine VC.ic ?_
 obtain⟨hl,hx,ht,hh⟩:=hL
 refine bg zX rfl ?_
 simp(disch:=omega) [pL,av,ao.c,VZ]
 refine bI (uU b l r hl hr hb) ?_ (n1:=by simp(disch:=omega) [Head.o,VZ]) (n3:=by simp(disch:=omega) [Head.o,VZ])
 have w1:=fY (l:=l) hr
 generalize h1:bK b l r=s1 at w1⊢
 simp(disch:=omega) [av,ao.c,Head.o,VZ]
 refine bI (bQ b s1.2 w1.1 hb) ?_
 have w2:=aT w1.1
 generalize h2:aO b s1.2=s2 at w2⊢
 simp(disch:=omega) [av,VZ]
 refine bI (aA b s2.2 (decide (l.txs < (s2.1:Int))) 3) ?_
 have w3:=aX (bad:=decide (l.txs < (s2.1:Int))) (c:=3) w2.1 (by omega)
 generalize h3':ax s2.2 (decide (l.txs < (s2.1:Int))) 3=s3 at w3⊢
 have h3:ax s2.2 (decide (l.txs+1≤(s2.1:Int))) 3=s3:=h3'
 simp(disch:=omega) [av,VZ]
 have hn:s3.er=0→(s2.1:Int)≤l.txs:=by
  intro g
  have e:=eI (by rw[h3];exact g) (by omega)
  simp only[decide_eq_false_iff_not]at e
  omega
 refine ej (σ:=Nat×Nat×List Bytes×Rd) (f0:=_) (by simp(disch:=omega) [VZ];rfl) (dD.zg (s:=5) (k:=5) (i:=10) rfl rfl) (f1:=_) (es0:=_) (by simp(disch:=omega) [VZ];rfl) (by simp(disch:=omega) [VZ];rfl) (fun p=> [(7, .val false [.int .i64 (p.1:Int)]),(5, .box [.int .i64 s1.1.view, .int .i64 s1.1.height, .int .i64 s1.1.proposer, .ow 98307 12, .ow 98308 13, .int .i64 s1.1.qc.view, .int .i64 s1.1.qc.height, .ow 98311 16, .ow 98312 17, .ow 98313 18, .ow 5 p.2.1])]) (fun p=> [(4096, .pt 0 166 [.sl (bytes b), .int .i64 (p.2.2.2.at_:Int), .int .i64 (p.2.2.2.er:Int)]),(5, .sl p.2.1 true true (some (24,1)) (df p.2.2.1))])
  (fun p g=>(g+p.1=s2.1∧p.2.2.1.length=p.1)∧(p.2.2.2.er=0→(s2.1:Int)≤l.txs)∧p.2.2.2.wf b∧bm (fun r=>bZ b r l.tx.toNat) s2.1 s3=(p.2.2.1++(bm (fun r=>bZ b r l.tx.toNat) g p.2.2.2).1,(bm (fun r=>bZ b r l.tx.toNat) g p.2.2.2).2)) (0,_,[],s3) s2.1 (by simp(disch:=omega) [VZ];rfl) (by simp(disch:=omega) [df,av,VZ]) ⟨⟨by simp,rfl⟩,hn,w3,by simp⟩ ?_
 have hall:∀t∈(bm (fun r=>bZ b r l.tx.toNat) s2.1 s3).1,t.length≤40:=jE (p:=fun t:Bytes=>t.length≤40) (b:=b) (fun r hr=>⟨(fi hr _).1,Nat.le_trans (fi hr _).2.1 (by omega)⟩) _ _ w3
 rintro⟨i,v,x,⟨qa,qe⟩⟩ nx g0 ⟨⟨hg,h5⟩,h10,h6,h7⟩ P hP
 simp only at hg h5 h6 h7 h10
 have hl2:(df x).length=i:=by rw[cn];exact h5
 by_cases h9:qe=0
 ·subst h9
  by_cases h8:i < s2.1
  ·have h11:=h10 rfl
   simp(disch:=omega) [h8,av,VZ]
   refine bI (vv b ⟨qa,0⟩ l.tx (by omega) h6 hb) ?_
   have w5:=fi h6 l.tx.toNat
   obtain⟨g1,rfl⟩:∃g1,g0=g1+1:=⟨g0 - 1,by omega⟩
   rw[fB rfl]at h7
   simp only at h7
   generalize h12:bZ b ⟨qa,0⟩ l.tx.toNat=s5 at w5 h7⊢
   simp(disch:=omega) [av,hl2,oM,VZ]
   refine hP (i+1,_,x++ [s5.1],s5.2) g1 _ _ (by omega) ⟨⟨by simp only;omega,by simp[h5]⟩,fun _=>h11,w5.1,by rw[h7];simp⟩ (by simp(disch:=omega) [VZ];rfl) (by simp(disch:=omega) [av,VZ])
  ·obtain rfl:g0=0:=by omega
   simp only[bm,List.append_nil]at h7
   have hx2:∀t∈x,t.length≤1073741823:=fun t ht=>Nat.le_trans (hall t (by rw[h7];exact ht)) (by omega)
   have h11:=h10 rfl
   simp(disch:=omega) [h8,av,VZ]
   refine cp (uM _ x rfl (by omega) hx2) ?_
   simp(disch:=omega) [VZ]
   refine cp (i4 _ _) ?_
   simp(disch:=omega) [av,VZ]
   refine bI (aA b ⟨qa,0⟩ (!decide (s1.1.root=bx x)) 7) ?_
   simp(disch:=omega) [cz,aM,h1,h2,h3,h7,Block.o,av,aI,aJ,aP,VZ]
 ·rw[fI (k:=g0) (r:=⟨qa,qe⟩) h9]at h7
  simp only[List.append_nil]at h7
  by_cases h8:i < s2.1
  ·skip
   have hx2:∀t∈x,t.length≤1073741823:=fun t ht=>Nat.le_trans (hall t (by rw[h7];exact ht)) (by omega)
   simp(disch:=omega) [h8,h9,av,VZ]
   have h12:∀bad c,ax ⟨qa,qe⟩ bad c=⟨qa,qe⟩:=fun bad c=>dK h9
   simp(disch:=omega) [cz,aM,h1,h2,h3,h7,Block.o,av,aI,aJ,aP,h12,VZ]
  ·skip
   have hx2:∀t∈x,t.length≤1073741823:=fun t ht=>Nat.le_trans (hall t (by rw[h7];exact ht)) (by omega)
   simp(disch:=omega) [h8,h9,av,VZ]
   have h12:∀bad c,ax ⟨qa,qe⟩ bad c=⟨qa,qe⟩:=fun bad c=>dK h9
   simp(disch:=omega) [cz,aM,h1,h2,h3,h7,Block.o,av,aI,aJ,aP,h12,VZ]
end Go.Eng.F
namespace Go.Eng.F
theorem G0 (l:List Head) (h:Head):uL l++ [[.int .i64 h.view, .int .i64 h.height, .int .i64 h.proposer, .sl (bytes h.parent), .sl (bytes h.root), .int .i64 h.qc.view, .int .i64 h.qc.height, .sl (bytes h.qc.block), .sl (bytes h.qc.bits), .sl (df h.qc.tags)]]=uL (l++ [h]):=by simp[uL,Head.c]
theorem wR {b:Bytes} {l:ao} {r:Rd} (h:r.er≠0):(kb b l r).2=r:=by simp[kb,aO,ba,h]
theorem Kq.i64 {n:Int} (h:Kq n):oN n:=⟨by have:=h.1;omega,by have:=h.2;omega⟩
theorem Qc.rd.wf {q:Qc} (h:q.rd):q.wf:=by
 obtain⟨⟨h1,h2⟩,h3,h4,h5,h6⟩:=h
 refine⟨h1.i64,h2.i64,?_,?_,?_⟩ <;>simp only[Sz] <;>omega
theorem Head.rd.wf {h:Head} (w:h.rd):h.wf:=by
 obtain⟨⟨h1,h2,h3⟩,h4,h5,h6⟩:=w
 refine⟨h1.i64,h2.i64,h3.i64,?_,?_,h6.wf⟩ <;>simp only[Sz] <;>omega
abbrev gB:Nat:=207
def kh:AF:=⟨2,6,[.cell 4 6 true],(.seq (.ops [.i (.lbox 2 (.s 0)), .i (.lal 4 [.nils, .int .i64 0, .int .i64 0, .nils, .nils, .nils])]) (.seq (.ops [.i (.bld 8 [.nils, .int .i64 0, .int .i64 0, .nils, .nils, .nils] []),qm 9 1,qk 11 274 9, .i (.lal 5 [.nils, .int .i64 0, .int .i64 0, .nils, .nils, .nils]),qs 5 5 8 6,qm 6 10]) (.seq (.ops [qm 11 1,qm 12 6, .i (.bin 13 .geq (.s 12) (qi 3)), .i (.call 15 279 false [(.s 11),(.s 13),(qi 5)])]) (.seq (.ops [qm 15 1,qm 16 6,qf 17 2 4,ql 18 2 17 1 false,qd 19 .leq 16 18, .i (.call 21 279 false [(.s 15),(.s 19),(qi 3)])]) (.seq (.seq (.ops [.i (.mov 7 (qi 0))]) (.block 0 (.loop [40,39,38,37,36,35,34,33,32,31,30,29,28,27,26,25,24,23,22,21] (.seq (.seq (.ops [qm 21 7,qm 22 6,qd 23 .lss 21 22,qm 24 23, .g 24 true 26 (.mov 25 (.s 1)), .g 24 true 27 (.nch 26 (.s 25)), .g 24 true 28 (.fad 27 (.s 26) 2), .g 24 true 29 (.ldh 28 (.s 27) 1 false), .g 24 true 30 (.bin 29 .eql (.s 28) (qi 0)), .i (.pick 30 (.s 24) (.s 29) (qb false))]) (.cond (.s 30) .skip (.exit 0))) (.seq (.block 1 (.ops [qf 33 5 0,ql 34 5 33 1 false,ql 35 2 2 5 true,qm 36 1, .i (.call 38 201 false [(.s 35),(.s 36)]), .i (.lsl 38 10 1 qz [(0,10,(.s 37))]), .i (.app 39 64 10 160 (.s 34) (.s 38)),qf 40 5 0,qs 5 40 39 1])) (.ops [qm 31 7, .i (.bin 32 .add (.s 31) (qi 1)),qm 7 32])))))) (.seq (.ops [ql 41 2 2 5 true,qm 42 1, .i (.call 44 199 false [(.s 41),(.s 42)]),qf 44 5 1,qs 5 44 43 5]) (.seq (.ops [qm 45 1,qm 46 1, .i (.nch 47 (.s 46)),qf 48 47 2, .i (.ldh 49 (.s 48) 1 false), .i (.bin 50 .neq (.s 49) (qi 0)),qm 51 50, .g 51 false 53 (.ldl 52 5 (.s 5) 6 true), .g 51 false 54 (.call 54 283 false [(.s 52)]), .i (.pick 54 (.s 51) (qb true) (.s 53)), .i (.call 56 279 false [(.s 45),(.s 54),(qi 6)])]) (.seq (.ops [ql 56 5 5 6 true,qs 4 4 56 6]) .ret))))))))⟩
theorem uS:cd gB=some kh:=by kernel_rfl
theorem sM (b:Bytes) (l:ao) (r:Rd) (hL:l.rd) (hr:r.wf b) (hb:b.length≤1073741824):VC cd gB (pK [(true,l.c)] 279 (av b r) []) (fun rs p=>rs= [(true,(b7 b l r).1.o)]∧p= [.pt 279 (av b (b7 b l r).2)]):=by
 refine VC.ic ?_
 obtain⟨hl,hx,ht,hh⟩:=hL
 refine bg uS rfl ?_
 simp(disch:=omega) [kh,av,ao.c,VZ]
 refine bI (bN b r hr hb) ?_
 have w1:=aT hr
 generalize h1:aO b r=s1 at w1⊢
 simp(disch:=omega) [av,VZ]
 refine bI (aY b s1.2 (decide (3≤(s1.1:Int))) 5) ?_
 have e2:(!decide (3≤(s1.1:Int)))=decide (s1.1 < 3):=by rw[←decide_not,decide_eq_decide];omega
 rw[e2]
 have w2:=aX (bad:=decide (s1.1 < 3)) (c:=5) w1.1 (by omega)
 generalize h2:ax s1.2 (decide (s1.1 < 3)) 5=s2 at w2⊢
 simp(disch:=omega) [av,VZ]
 refine bI (aY b s2 (decide ((s1.1:Int)≤l.heads)) 3) ?_
 have e3:(!decide ((s1.1:Int)≤l.heads))=decide (l.heads < (s1.1:Int)):=by rw[←decide_not,decide_eq_decide];omega
 rw[e3]
 have w3:=aX (bad:=decide (l.heads < (s1.1:Int))) (c:=3) w2 (by omega)
 generalize h3:ax s2 (decide (l.heads < (s1.1:Int))) 3=s3 at w3⊢
 simp(disch:=omega) [av,VZ]
 have hn:s3.er=0→3≤s1.1∧(s1.1:Int)≤l.heads:=by
  intro g
  have e:=eI (by rw[h3];exact g) (by omega)
  have g2:s2.er=0:=by
   have:=dK (r:=s2) (bad:=decide (l.heads < (s1.1:Int))) (c:=3)
   rw[h3]at this
   by_cases g3:s2.er=0
   ·exact g3
   ·rw[←this g3];exact g
  have e2:=eI (by rw[h2];exact g2) (by omega)
  simp only[decide_eq_false_iff_not]at e e2
  omega
 refine ej (σ:=Nat×Nat×List Head×Rd) (f0:=_) (by simp(disch:=omega) [VZ];rfl) (dD.zg (s:=5) (k:=5) (i:=0) rfl rfl) (f1:=_) (es0:=_) (by simp(disch:=omega) [VZ];rfl) (by simp(disch:=omega) [VZ];rfl) (fun p=> [(7, .val false [.int .i64 (p.1:Int)]),(5, .box [.ow 5 p.2.1, .int .i64 0, .int .i64 0, .nils, .nils, .nils])]) (fun p=> [(4101, .pt 5 279 [.sl (bytes b), .int .i64 (p.2.2.2.at_:Int), .int .i64 (p.2.2.2.er:Int)]),(5, .sl p.2.1 true true (some (64,10)) (uL p.2.2.1))])
  (fun p g=>(g+p.1=s1.1∧p.2.2.1.length=p.1)∧(p.2.2.2.er=0→3≤s1.1∧(s1.1:Int)≤l.heads)∧p.2.2.2.wf b∧bm (bK b l) s1.1 s3=(p.2.2.1++(bm (bK b l) g p.2.2.2).1,(bm (bK b l) g p.2.2.2).2)) (0,_,[],s3) s1.1 (by simp(disch:=omega) [VZ];rfl) (by simp(disch:=omega) [uL,av,VZ]) ⟨⟨by simp,rfl⟩,hn,w3,by simp⟩ ?_
 have hall:∀t∈(bm (bK b l) s1.1 s3).1,t.rd:=jE (p:=fun t:Head=>t.rd) (b:=b) (fun r hr=>fY hr) _ _ w3
 rintro⟨i,v,x,⟨qa,qe⟩⟩ nx g0 ⟨⟨hg,h5⟩,h10,h6,h7⟩ P hP
 simp only at hg h5 h6 h7 h10
 have hl2:(uL x).length=i:=by rw[wL];exact h5
 by_cases h9:qe=0
 ·subst h9
  by_cases h8:i < s1.1
  ·have h11:=h10 rfl
   simp(disch:=omega) [h8,av,VZ]
   refine bI (gz b l ⟨qa,0⟩ hl h6 hb) ?_ (n1:=by simp(disch:=omega) [Head.o,VZ]) (n3:=by simp(disch:=omega) [Head.o,VZ])
   have w5:=fY (l:=l) h6
   obtain⟨g1,rfl⟩:∃g1,g0=g1+1:=⟨g0 - 1,by omega⟩
   rw[fB rfl]at h7
   simp only at h7
   generalize h12:bK b l ⟨qa,0⟩=s5 at w5 h7⊢
   simp(disch:=omega) [av,hl2,Head.o,G0,VZ]
   refine hP (i+1,_,x++ [s5.1],s5.2) g1 _ _ (by omega) ⟨⟨by simp only;omega,by simp[h5]⟩,fun _=>h11,w5.1,by rw[h7];simp⟩ (by simp(disch:=omega) [VZ];rfl) (by simp(disch:=omega) [av,VZ])
  ·obtain rfl:g0=0:=by omega
   simp only[bm,List.append_nil]at h7
   have hx2:∀t∈x,t.wf:=fun t ht=>(hall t (by rw[h7];exact ht)).wf
   simp(disch:=omega) [h8,av,VZ]
   refine bI (eD b l ⟨qa,0⟩ hl h6 hb) ?_ (n1:=by simp(disch:=omega) [Qc.o,VZ]) (n3:=by simp(disch:=omega) [Qc.o,VZ])
   have w13:=iP (l:=l) h6
   generalize h13:kb b l ⟨qa,0⟩=s13 at w13⊢
   obtain⟨q2,⟨qa,qe⟩⟩:=s13
   simp only at w13
   simp(disch:=omega) [av,Qc.o,VZ]
   by_cases h14:qe=0
   ·subst h14
    have h15:3≤x.length:=by have:=h10 rfl;omega
    simp(disch:=omega) [VZ]
    refine cp (Hy ⟨x,q2⟩ (by simp only;omega) ⟨⟨by have:=h10 rfl;simp only[Sz];omega,hx2⟩,w13.2.wf⟩) ?_ (ha:=by first|rfl|(simp[Proof.c,VY] <;>repeat' constructor))
    simp(disch:=omega) [av,VZ]
    refine bI (aY b ⟨qa,0⟩ (kA ⟨x,q2⟩) 6) ?_
    simp(disch:=omega) [b7,h1,h2,h3,h7,h13,Proof.o,av,aI,aJ,aP,VZ]
   ·simp(disch:=omega) [h14,av,VZ]
    refine bI (aY b ⟨qa,qe⟩ true 6) ?_
    have h12:∀bad c,ax ⟨qa,qe⟩ bad c=⟨qa,qe⟩:=fun bad c=>dK h14
    simp(disch:=omega) [b7,h1,h2,h3,h7,h13,Proof.o,av,aI,aJ,aP,h12,VZ]
 ·rw[fI (k:=g0) (r:=⟨qa,qe⟩) h9]at h7
  simp only[List.append_nil]at h7
  by_cases h8:i < s1.1
  ·skip
   have hx2:∀t∈x,t.wf:=fun t ht=>(hall t (by rw[h7];exact ht)).wf
   simp(disch:=omega) [h8,h9,av,VZ]
   refine bI (eD b l ⟨qa,qe⟩ hl h6 hb) ?_ (n1:=by simp(disch:=omega) [Qc.o,VZ]) (n3:=by simp(disch:=omega) [Qc.o,VZ])
   have w13:=iP (l:=l) h6
   have h16:=wR (b:=b) (l:=l) (r:=⟨qa,qe⟩) h9
   generalize h13:kb b l ⟨qa,qe⟩=s13 at w13 h16⊢
   obtain⟨q2,q3⟩:=s13
   simp only at w13 h16
   subst h16
   simp(disch:=omega) [av,Qc.o,h9,VZ]
   refine bI (aY b ⟨qa,qe⟩ true 6) ?_
   have h12:∀bad c,ax ⟨qa,qe⟩ bad c=⟨qa,qe⟩:=fun bad c=>dK h9
   simp(disch:=omega) [b7,h1,h2,h3,h7,h13,Proof.o,av,aI,aJ,aP,h12,VZ]
  ·skip
   have hx2:∀t∈x,t.wf:=fun t ht=>(hall t (by rw[h7];exact ht)).wf
   simp(disch:=omega) [h8,h9,av,VZ]
   refine bI (eD b l ⟨qa,qe⟩ hl h6 hb) ?_ (n1:=by simp(disch:=omega) [Qc.o,VZ]) (n3:=by simp(disch:=omega) [Qc.o,VZ])
   have w13:=iP (l:=l) h6
   have h16:=wR (b:=b) (l:=l) (r:=⟨qa,qe⟩) h9
   generalize h13:kb b l ⟨qa,qe⟩=s13 at w13 h16⊢
   obtain⟨q2,q3⟩:=s13
   simp only at w13 h16
   subst h16
   simp(disch:=omega) [av,Qc.o,h9,VZ]
   refine bI (aY b ⟨qa,qe⟩ true 6) ?_
   have h12:∀bad c,ax ⟨qa,qe⟩ bad c=⟨qa,qe⟩:=fun bad c=>dK h9
   simp(disch:=omega) [b7,h1,h2,h3,h7,h13,Proof.o,av,aI,aJ,aP,h12,VZ]
abbrev qG:Nat:=130
def qj:AF:=⟨2,6,[.cell 4 6 true],(.seq (.ops [.i (.lbox 3 (.s 1)), .i (.lal 4 [.nils, .int .i64 0, .int .i64 0, .nils, .nils, .nils])]) (.seq (.ops [.i (.bld 8 [.nils, .int .i64 0, .int .i64 0, .nils, .nils, .nils] []), .i (.lal 5 [.nils, .int .i64 0, .int .i64 0, .nils, .nils, .nils]),qs 5 5 8 6]) (.seq (.ops [qm 9 0,qk 11 184 9,qm 6 10]) (.seq (.ops [qm 11 0,qm 12 6, .i (.bin 13 .lss (.s 12) (qi 3)), .i (.call 15 132 false [(.s 11),(.s 13),(qi 5)])]) (.seq (.ops [qm 15 0,qm 16 6,qf 17 3 4,ql 18 3 17 1 false,qd 19 .gtr 16 18, .i (.call 21 132 false [(.s 15),(.s 19),(qi 3)])]) (.seq (.seq (.ops [.i (.mov 7 (qi 0))]) (.block 0 (.loop [40,39,38,37,36,35,34,33,32,31,30,29,28,27,26,25,24,23,22,21] (.seq (.seq (.ops [qm 21 7,qm 22 6,qd 23 .lss 21 22,qm 24 23, .g 24 true 26 (.mov 25 (.s 0)), .g 24 true 27 (.nch 26 (.s 25)), .g 24 true 28 (.fad 27 (.s 26) 2), .g 24 true 29 (.ldh 28 (.s 27) 1 false), .g 24 true 30 (.bin 29 .eql (.s 28) (qi 0)), .i (.pick 30 (.s 24) (.s 29) (qb false))]) (.cond (.s 30) .skip (.exit 0))) (.seq (.block 1 (.ops [qf 33 5 0,ql 34 5 33 1 false,qm 35 0,ql 36 3 3 5 true, .i (.call 38 127 false [(.s 35),(.s 36)]), .i (.lsl 38 10 1 qz [(0,10,(.s 37))]), .i (.app 39 64 10 160 (.s 34) (.s 38)),qf 40 5 0,qs 5 40 39 1])) (.ops [qm 31 7, .i (.bin 32 .add (.s 31) (qi 1)),qm 7 32])))))) (.seq (.ops [qm 41 0,ql 42 3 3 5 true, .i (.call 44 126 false [(.s 41),(.s 42)]),qf 44 5 1,qs 5 44 43 5]) (.seq (.seq (.ops [qm 45 0, .i (.nch 46 (.s 45)),qf 47 46 2, .i (.ldh 48 (.s 47) 1 false), .i (.bin 49 .eql (.s 48) (qi 0))]) (.cond (.s 49) (.ops [qm 50 0,ql 51 5 5 6 true,qk 53 192 51, .i (.not 53 (.s 52)), .i (.call 55 132 false [(.s 50),(.s 53),(qi 6)])]) .skip)) (.seq (.ops [ql 55 5 5 6 true,qs 4 4 55 6]) .ret)))))))))⟩
theorem zZ:cd qG=some qj:=by kernel_rfl
theorem Hw (b:Bytes) (l:ao) (r:Rd) (hL:l.rd) (hr:r.wf b) (hb:b.length≤1073741824):VC cd qG (pK [] 166 (av b r) [(true,l.c)]) (fun rs p=>rs= [(true,(b7 b l r).1.o)]∧p= [.pt 166 (av b (b7 b l r).2)]):=by
 refine VC.ic ?_
 obtain⟨hl,hx,ht,hh⟩:=hL
 refine bg zZ rfl ?_
 simp(disch:=omega) [qj,av,ao.c,VZ]
 refine bI (bQ b r hr hb) ?_
 have w1:=aT hr
 generalize h1:aO b r=s1 at w1⊢
 simp(disch:=omega) [av,VZ]
 refine bI (aA b s1.2 (decide ((s1.1:Int) < 3)) 5) ?_
 have e2:decide ((s1.1:Int) < 3)=decide (s1.1 < 3):=by first|rfl|(rw[decide_eq_decide];omega)
 rw[e2]
 have w2:=aX (bad:=decide (s1.1 < 3)) (c:=5) w1.1 (by omega)
 generalize h2:ax s1.2 (decide (s1.1 < 3)) 5=s2 at w2⊢
 simp(disch:=omega) [av,VZ]
 refine bI (aA b s2 (decide (l.heads < (s1.1:Int))) 3) ?_
 have e3:decide (l.heads < (s1.1:Int))=decide (l.heads < (s1.1:Int)):=by first|rfl|(rw[decide_eq_decide];omega)
 rw[e3]
 have w3:=aX (bad:=decide (l.heads < (s1.1:Int))) (c:=3) w2 (by omega)
 generalize h3:ax s2 (decide (l.heads < (s1.1:Int))) 3=s3 at w3⊢
 simp(disch:=omega) [av,VZ]
 have hn:s3.er=0→3≤s1.1∧(s1.1:Int)≤l.heads:=by
  intro g
  have e:=eI (by rw[h3];exact g) (by omega)
  have g2:s2.er=0:=by
   have:=dK (r:=s2) (bad:=decide (l.heads < (s1.1:Int))) (c:=3)
   rw[h3]at this
   by_cases g3:s2.er=0
   ·exact g3
   ·rw[←this g3];exact g
  have e2:=eI (by rw[h2];exact g2) (by omega)
  simp only[decide_eq_false_iff_not]at e e2
  omega
 refine ej (σ:=Nat×Nat×List Head×Rd) (f0:=_) (by simp(disch:=omega) [VZ];rfl) (dD.zg (s:=5) (k:=5) (i:=0) rfl rfl) (f1:=_) (es0:=_) (by simp(disch:=omega) [VZ];rfl) (by simp(disch:=omega) [VZ];rfl) (fun p=> [(7, .val false [.int .i64 (p.1:Int)]),(5, .box [.ow 5 p.2.1, .int .i64 0, .int .i64 0, .nils, .nils, .nils])]) (fun p=> [(4096, .pt 0 166 [.sl (bytes b), .int .i64 (p.2.2.2.at_:Int), .int .i64 (p.2.2.2.er:Int)]),(5, .sl p.2.1 true true (some (64,10)) (uL p.2.2.1))])
  (fun p g=>(g+p.1=s1.1∧p.2.2.1.length=p.1)∧(p.2.2.2.er=0→3≤s1.1∧(s1.1:Int)≤l.heads)∧p.2.2.2.wf b∧bm (bK b l) s1.1 s3=(p.2.2.1++(bm (bK b l) g p.2.2.2).1,(bm (bK b l) g p.2.2.2).2)) (0,_,[],s3) s1.1 (by simp(disch:=omega) [VZ];rfl) (by simp(disch:=omega) [uL,av,VZ]) ⟨⟨by simp,rfl⟩,hn,w3,by simp⟩ ?_
 have hall:∀t∈(bm (bK b l) s1.1 s3).1,t.rd:=jE (p:=fun t:Head=>t.rd) (b:=b) (fun r hr=>fY hr) _ _ w3
 rintro⟨i,v,x,⟨qa,qe⟩⟩ nx g0 ⟨⟨hg,h5⟩,h10,h6,h7⟩ P hP
 simp only at hg h5 h6 h7 h10
 have hl2:(uL x).length=i:=by rw[wL];exact h5
 by_cases h9:qe=0
 ·subst h9
  by_cases h8:i < s1.1
  ·have h11:=h10 rfl
   simp(disch:=omega) [h8,av,VZ]
   refine bI (uU b l ⟨qa,0⟩ hl h6 hb) ?_ (n1:=by simp(disch:=omega) [Head.o,VZ]) (n3:=by simp(disch:=omega) [Head.o,VZ])
   have w5:=fY (l:=l) h6
   obtain⟨g1,rfl⟩:∃g1,g0=g1+1:=⟨g0 - 1,by omega⟩
   rw[fB rfl]at h7
   simp only at h7
   generalize h12:bK b l ⟨qa,0⟩=s5 at w5 h7⊢
   simp(disch:=omega) [av,hl2,Head.o,G0,VZ]
   refine hP (i+1,_,x++ [s5.1],s5.2) g1 _ _ (by omega) ⟨⟨by simp only;omega,by simp[h5]⟩,fun _=>h11,w5.1,by rw[h7];simp⟩ (by simp(disch:=omega) [VZ];rfl) (by simp(disch:=omega) [av,VZ])
  ·obtain rfl:g0=0:=by omega
   simp only[bm,List.append_nil]at h7
   have hx2:∀t∈x,t.wf:=fun t ht=>(hall t (by rw[h7];exact ht)).wf
   simp(disch:=omega) [h8,av,VZ]
   refine bI (jP b l ⟨qa,0⟩ hl h6 hb) ?_ (n1:=by simp(disch:=omega) [Qc.o,VZ]) (n3:=by simp(disch:=omega) [Qc.o,VZ])
   have w13:=iP (l:=l) h6
   generalize h13:kb b l ⟨qa,0⟩=s13 at w13⊢
   obtain⟨q2,⟨qa,qe⟩⟩:=s13
   simp only at w13
   simp(disch:=omega) [av,Qc.o,VZ]
   by_cases h14:qe=0
   ·subst h14
    have h15:3≤x.length:=by have:=h10 rfl;omega
    simp(disch:=omega) [VZ]
    refine cp (Fo ⟨x,q2⟩ (by simp only;omega) ⟨⟨by have:=h10 rfl;simp only[Sz];omega,hx2⟩,w13.2.wf⟩) ?_ (ha:=by first|rfl|(simp[Proof.c,VY] <;>repeat' constructor))
    simp(disch:=omega) [av,VZ]
    refine bI (aA b ⟨qa,0⟩ (!kA ⟨x,q2⟩) 6) ?_
    simp(disch:=omega) [b7,h1,h2,h3,h7,h13,Proof.o,av,aI,aJ,aP,VZ]
   ·simp(disch:=omega) [h14,av,VZ]
    have h12:∀bad c,ax ⟨qa,qe⟩ bad c=⟨qa,qe⟩:=fun bad c=>dK h14
    simp(disch:=omega) [b7,h1,h2,h3,h7,h13,Proof.o,av,aI,aJ,aP,h12,VZ]
 ·rw[fI (k:=g0) (r:=⟨qa,qe⟩) h9]at h7
  simp only[List.append_nil]at h7
  by_cases h8:i < s1.1
  ·skip
   have hx2:∀t∈x,t.wf:=fun t ht=>(hall t (by rw[h7];exact ht)).wf
   simp(disch:=omega) [h8,h9,av,VZ]
   refine bI (jP b l ⟨qa,qe⟩ hl h6 hb) ?_ (n1:=by simp(disch:=omega) [Qc.o,VZ]) (n3:=by simp(disch:=omega) [Qc.o,VZ])
   have w13:=iP (l:=l) h6
   have h16:=wR (b:=b) (l:=l) (r:=⟨qa,qe⟩) h9
   generalize h13:kb b l ⟨qa,qe⟩=s13 at w13 h16⊢
   obtain⟨q2,q3⟩:=s13
   simp only at w13 h16
   subst h16
   simp(disch:=omega) [av,Qc.o,h9,VZ]
   have h12:∀bad c,ax ⟨qa,qe⟩ bad c=⟨qa,qe⟩:=fun bad c=>dK h9
   simp(disch:=omega) [b7,h1,h2,h3,h7,h13,Proof.o,av,aI,aJ,aP,h12,VZ]
  ·skip
   have hx2:∀t∈x,t.wf:=fun t ht=>(hall t (by rw[h7];exact ht)).wf
   simp(disch:=omega) [h8,h9,av,VZ]
   refine bI (jP b l ⟨qa,qe⟩ hl h6 hb) ?_ (n1:=by simp(disch:=omega) [Qc.o,VZ]) (n3:=by simp(disch:=omega) [Qc.o,VZ])
   have w13:=iP (l:=l) h6
   have h16:=wR (b:=b) (l:=l) (r:=⟨qa,qe⟩) h9
   generalize h13:kb b l ⟨qa,qe⟩=s13 at w13 h16⊢
   obtain⟨q2,q3⟩:=s13
   simp only at w13 h16
   subst h16
   simp(disch:=omega) [av,Qc.o,h9,VZ]
   have h12:∀bad c,ax ⟨qa,qe⟩ bad c=⟨qa,qe⟩:=fun bad c=>dK h9
   simp(disch:=omega) [b7,h1,h2,h3,h7,h13,Proof.o,av,aI,aJ,aP,h12,VZ]
end Go.Eng.F
namespace Go.Eng.F
def Tc.o (t:Tc):List E:= [.p (.int .i64 t.view), .o true (some (135,3)) (AZ t.entries)]
theorem FU (l:List Entry) (w h:Int) (t:Bytes):AZ l++ [[.int .i64 w, .int .i64 h, .sl (bytes t)]]=AZ (l++ [⟨w,h,t⟩]):=by simp[AZ,Entry.c]
theorem pf {b:Bytes} {l:ao} {v:Int} {k:Nat} {bf:Int} {r:Rd} (h:r.er≠0):eF b l v k bf r=([],r):=by
 cases k
 ·rfl
 ·rw[eF,if_neg h]
theorem kE {b:Bytes} {l:ao} {v:Int} {k:Nat} {bf:Int} {r:Rd} (h:r.er=0):eF b l v (k+1) bf r=
 (let w:=aM b r l.n 5
  let h:=aM b (ax w.2 (decide ((w.1:Int)≤bf)) 6) v 6
  let t:=ba b h.2 32
  (⟨w.1,h.1,t.1⟩::(eF b l v k w.1 t.2).1,(eF b l v k w.1 t.2).2)):=by
 rw[eF,if_pos h]
abbrev jz:Nat:=205
def qJ:AF:=⟨2,6,[.cell 4 2 true],(.seq (.ops [.i (.lbox 2 (.s 0)), .i (.lal 4 [.int .i64 0, .nils])]) (.seq (.ops [qm 10 1,qk 12 274 10, .i (.bld 12 [.int .i64 0, .nils] [(0,1,(.s 11))]), .i (.lal 5 [.int .i64 0, .nils]),qs 5 5 12 2]) (.seq (.ops [qm 13 1,qf 14 2 0,ql 15 2 14 1 false, .i (.bin 16 .add (.s 15) (qi 1)), .i (.call 18 276 false [(.s 13),(.s 16),(qi 3)]),qm 6 17, .i (.mov 7 (qi (-1)))]) (.seq (.seq (.ops [.i (.mov 8 (qi 0))]) (.block 0 (.loop [56,55,54,53,52,51,50,49,48,47,46,45,44,43,42,41,40,39,38,37,36,35,34,33,32,31,30,29,28,27,26,25,24,23,22,21,20,19,18,9] (.seq (.seq (.ops [qm 18 8,qm 19 6,qd 20 .lss 18 19,qm 21 20, .g 21 true 23 (.mov 22 (.s 1)), .g 21 true 24 (.nch 23 (.s 22)), .g 21 true 25 (.fad 24 (.s 23) 2), .g 21 true 26 (.ldh 25 (.s 24) 1 false), .g 21 true 27 (.bin 26 .eql (.s 25) (qi 0)), .i (.pick 27 (.s 21) (.s 26) (qb false))]) (.cond (.s 27) .skip (.exit 0))) (.seq (.block 1 (.seq (.ops [qm 30 1,qf 31 2 0,ql 32 2 31 1 false, .i (.call 34 276 false [(.s 30),(.s 32),(qi 5)]), .i (.bld 34 [.int .i64 0, .int .i64 0, .nils] [(0,1,(.s 33))]), .i (.lal 9 [.int .i64 0, .int .i64 0, .nils]),qs 9 9 34 3]) (.seq (.ops [qm 35 1,qf 36 9 0,ql 37 9 36 1 false,qm 38 7,qd 39 .gtr 37 38, .i (.call 41 279 false [(.s 35),(.s 39),(qi 6)])]) (.seq (.ops [qf 41 9 0,ql 42 9 41 1 false,qm 7 42]) (.seq (.ops [qm 43 1,qf 44 5 0,ql 45 5 44 1 false, .i (.call 47 276 false [(.s 43),(.s 45),(qi 6)]),qf 47 9 1,qs 9 47 46 1]) (.seq (.ops [qm 48 1,qk 50 275 48,qf 50 9 2,qs 9 50 49 1]) (.ops [qf 51 5 1,ql 52 5 51 1 false,ql 53 9 9 3 true, .i (.lsl 54 3 1 [.int .i64 0, .int .i64 0, .nils] [(0,3,(.s 53))]), .i (.app 55 135 3 40 (.s 52) (.s 54)),qf 56 5 1,qs 5 56 55 1]))))))) (.ops [qm 28 8, .i (.bin 29 .add (.s 28) (qi 1)),qm 8 29])))))) (.seq (.ops [ql 57 5 5 2 true,qs 4 4 57 2]) .ret)))))⟩
theorem zS:cd jz=some qJ:=by kernel_rfl
theorem x0 (b:Bytes) (l:ao) (r:Rd) (hL:l.rd) (hr:r.wf b) (hb:b.length≤1073741824):VC cd jz (pK [(true,l.c)] 279 (av b r) []) (fun rs p=>rs= [(true,(uX b l r).1.o)]∧p= [.pt 279 (av b (uX b l r).2)]):=by
 refine VC.ic ?_
 obtain⟨hl,hx,ht,hh⟩:=hL
 refine bg zS rfl ?_
 simp(disch:=omega) [qJ,av,ao.c,VZ]
 refine bI (bN b r hr hb) ?_
 have w1:=aT hr
 generalize h1:aO b r=s1 at w1⊢
 simp(disch:=omega) [av,VZ]
 refine bI (cV b s1.2 (l.n+1) 3 w1.1 hb) ?_
 have w2:=cP (n:=(l.n+1)) (c:=3) w1.1 (by omega)
 generalize h2:aM b s1.2 (l.n+1) 3=s2 at w2⊢
 simp(disch:=omega) [av,VZ]
 have hn:s2.2.er=0→(s2.1:Int)≤l.n:=by
  intro g
  have e:(aM b s1.2 (l.n+1) 3).2.er=0:=by rw[h2];exact g
  have:=eI e (by omega)
  simp only[aM]at h2
  rw[show(aO b s1.2).1=s2.1 by rw[←h2]]at this
  simp only[decide_eq_false_iff_not]at this
  omega
 refine ej (σ:=Nat×Nat×Int×List Entry×Rd) (f0:=_) (by simp(disch:=omega) [VZ];rfl) (dD.zg (s:=5) (k:=5) (i:=1) rfl rfl) (f1:=_) (es0:=_) (by simp(disch:=omega) [VZ];rfl) (by simp(disch:=omega) [VZ];rfl) (fun p=> [(8, .val false [.int .i64 (p.1:Int)]),(7, .val false [.int .i64 p.2.2.1]),(5, .box [.int .i64 s1.1, .ow 5 p.2.1])]) (fun p=> [(4101, .pt 5 279 [.sl (bytes b), .int .i64 (p.2.2.2.2.at_:Int), .int .i64 (p.2.2.2.2.er:Int)]),(5, .sl p.2.1 true true (some (135,3)) (AZ p.2.2.2.1))])
  (fun p g=>(g+p.1=s2.1∧p.2.2.2.1.length=p.1)∧(p.2.2.2.2.er=0→(s2.1:Int)≤l.n)∧p.2.2.2.2.wf b∧(-1≤p.2.2.1∧p.2.2.1≤1152921504606846975)∧eF b l s1.1 s2.1 (-1) s2.2=(p.2.2.2.1++(eF b l s1.1 g p.2.2.1 p.2.2.2.2).1,(eF b l s1.1 g p.2.2.1 p.2.2.2.2).2)) (0,_, -1,[],s2.2) s2.1 (by simp(disch:=omega) [VZ];rfl) (by simp(disch:=omega) [AZ,av,VZ]) ⟨⟨by simp,rfl⟩,hn,w2.1,⟨by simp,by simp⟩,by simp⟩ ?_
 rintro⟨i,v,bf,x,⟨qa,qe⟩⟩ nx g0 ⟨⟨hg,h5⟩,h10,h6,hbf,h7⟩ P hP
 simp only at hg h5 h6 h7 h10 hbf
 have hl2:(AZ x).length=i:=by rw[F9];exact h5
 by_cases h9:qe=0
 ·subst h9
  by_cases h8:i < s2.1
  ·have h11:=h10 rfl
   simp(disch:=omega) [h8,av,VZ]
   refine bI (cV b ⟨qa,0⟩ l.n 5 h6 hb) ?_
   have w21:=cP (n:=l.n) (c:=5) h6 (by omega)
   generalize h21:aM b ⟨qa,0⟩ l.n 5=s21 at w21⊢
   simp(disch:=omega) [av,VZ]
   refine bI (aY b s21.2 (decide (bf < (s21.1:Int))) 6) ?_
   have e22:(!decide (bf < (s21.1:Int)))=decide ((s21.1:Int)≤bf):=by rw[←decide_not,decide_eq_decide];omega
   rw[e22]
   have w22:=aX (bad:=decide ((s21.1:Int)≤bf)) (c:=6) w21.1 (by omega)
   generalize h22:ax s21.2 (decide ((s21.1:Int)≤bf)) 6=s22 at w22⊢
   simp(disch:=omega) [av,VZ]
   refine bI (cV b s22 (s1.1:Int) 6 w22 hb) ?_
   have w23:=cP (n:=(s1.1:Int)) (c:=6) w22 (by omega)
   generalize h23:aM b s22 (s1.1:Int) 6=s23 at w23⊢
   simp(disch:=omega) [av,VZ]
   refine bI (cJ b s23.2 w23.1 hb) ?_
   have w24:=bU w23.1 32
   generalize h24:ba b s23.2 32=s24 at w24⊢
   simp(disch:=omega) [av,VZ]
   obtain⟨g1,rfl⟩:∃g1,g0=g1+1:=⟨g0 - 1,by omega⟩
   rw[kE rfl]at h7
   simp only[h21,h22,h23,h24]at h7
   simp(disch:=omega) [av,hl2,FU,VZ]
   refine hP (i+1,_,(s21.1:Int),x++ [⟨(s21.1:Int),(s23.1:Int),s24.1⟩],s24.2) g1 _ _ (by omega) ⟨⟨by simp only;omega,by simp[h5]⟩,fun _=>h11,w24.1,⟨by simp only;omega,by have:=w21.2;simp only;omega⟩,by rw[h7];simp⟩ (by simp(disch:=omega) [VZ];rfl) (by simp(disch:=omega) [av,VZ])
  ·obtain rfl:g0=0:=by omega
   simp only[eF,List.append_nil]at h7
   simp(disch:=omega) [h8,uX,h1,h2,h7,Tc.o,av,aI,aJ,aP,VZ]
 ·rw[pf (k:=g0) (r:=⟨qa,qe⟩) h9]at h7
  simp only[List.append_nil]at h7
  by_cases h8:i < s2.1
  ·simp(disch:=omega) [h8,h9,uX,h1,h2,h7,Tc.o,av,aI,aJ,aP,VZ]
  ·simp(disch:=omega) [h8,h9,uX,h1,h2,h7,Tc.o,av,aI,aJ,aP,VZ]
abbrev rk:Nat:=129
def qL:AF:=⟨2,7,[.cell 4 2 true],(.seq (.ops [.i (.lbox 3 (.s 1)), .i (.lal 4 [.int .i64 0, .nils])]) (.seq (.ops [qm 10 0,qk 12 184 10, .i (.bld 12 [.int .i64 0, .nils] [(0,1,(.s 11))]), .i (.lal 5 [.int .i64 0, .nils]),qs 5 5 12 2]) (.seq (.ops [qm 13 0,qk 15 184 13,qm 6 14]) (.seq (.ops [qm 15 0,qm 16 6,qf 17 3 0,ql 18 3 17 1 false,qd 19 .gtr 16 18, .i (.call 21 132 false [(.s 15),(.s 19),(qi 3)])]) (.seq (.ops [.i (.mov 7 (qi (-1)))]) (.seq (.seq (.ops [.i (.mov 8 (qi 0))]) (.block 0 (.loop [69,68,67,66,65,64,63,62,61,60,59,58,57,56,55,54,53,52,51,50,49,48,47,46,45,44,43,42,41,40,39,38,37,36,35,34,33,32,31,30,29,28,27,26,25,24,23,22,21,9] (.seq (.seq (.ops [qm 21 8,qm 22 6,qd 23 .lss 21 22,qm 24 23, .g 24 true 26 (.mov 25 (.s 0)), .g 24 true 27 (.nch 26 (.s 25)), .g 24 true 28 (.fad 27 (.s 26) 2), .g 24 true 29 (.ldh 28 (.s 27) 1 false), .g 24 true 30 (.bin 29 .eql (.s 28) (qi 0)), .i (.pick 30 (.s 24) (.s 29) (qb false))]) (.cond (.s 30) .skip (.exit 0))) (.seq (.block 1 (.seq (.ops [qm 33 0,qk 35 184 33, .i (.bld 35 [.int .i64 0, .int .i64 0, .nils] [(0,1,(.s 34))]), .i (.lal 9 [.int .i64 0, .int .i64 0, .nils]),qs 9 9 35 3]) (.seq (.ops [qm 36 0,qf 37 9 0,ql 38 9 37 1 false,qf 39 3 0,ql 40 3 39 1 false,qd 41 .geq 38 40, .i (.call 43 132 false [(.s 36),(.s 41),(qi 5)])]) (.seq (.ops [qm 43 0,qf 44 9 0,ql 45 9 44 1 false,qm 46 7,qd 47 .leq 45 46, .i (.call 49 132 false [(.s 43),(.s 47),(qi 6)])]) (.seq (.ops [qf 49 9 0,ql 50 9 49 1 false,qm 7 50]) (.seq (.ops [qm 51 0,qk 53 184 51,qf 53 9 1,qs 9 53 52 1]) (.seq (.ops [qm 54 0,qf 55 9 1,ql 56 9 55 1 false,qf 57 5 0,ql 58 5 57 1 false,qd 59 .geq 56 58, .i (.call 61 132 false [(.s 54),(.s 59),(qi 6)])]) (.seq (.ops [qm 61 0,qk 63 185 61,qf 63 9 2,qs 9 63 62 1]) (.ops [qf 64 5 1,ql 65 5 64 1 false,ql 66 9 9 3 true, .i (.lsl 67 3 1 [.int .i64 0, .int .i64 0, .nils] [(0,3,(.s 66))]), .i (.app 68 135 3 40 (.s 65) (.s 67)),qf 69 5 1,qs 5 69 68 1]))))))))) (.ops [qm 31 8, .i (.bin 32 .add (.s 31) (qi 1)),qm 8 32])))))) (.seq (.ops [ql 70 5 5 2 true,qs 4 4 70 2]) .ret)))))))⟩
theorem zC:cd rk=some qL:=by kernel_rfl
theorem Hk (b:Bytes) (l:ao) (r:Rd) (hL:l.rd) (hr:r.wf b) (hb:b.length≤1073741824):VC cd rk (pK [] 166 (av b r) [(true,l.c)]) (fun rs p=>rs= [(true,(uX b l r).1.o)]∧p= [.pt 166 (av b (uX b l r).2)]):=by
 refine VC.ic ?_
 obtain⟨hl,hx,ht,hh⟩:=hL
 refine bg zC rfl ?_
 simp(disch:=omega) [qL,av,ao.c,VZ]
 refine bI (bQ b r hr hb) ?_
 have w1:=aT hr
 generalize h1:aO b r=s1 at w1⊢
 simp(disch:=omega) [av,VZ]
 refine bI (bQ b s1.2 w1.1 hb) ?_
 have w2:=aT w1.1
 generalize h2:aO b s1.2=s2 at w2⊢
 simp(disch:=omega) [av,VZ]
 refine bI (aA b s2.2 (decide (l.n < (s2.1:Int))) 3) ?_
 have w3:=aX (bad:=decide (l.n < (s2.1:Int))) (c:=3) w2.1 (by omega)
 generalize h3':ax s2.2 (decide (l.n < (s2.1:Int))) 3=s3 at w3⊢
 have h3:ax s2.2 (decide (l.n+1≤(s2.1:Int))) 3=s3:=h3'
 simp(disch:=omega) [av,VZ]
 have hn:s3.er=0→(s2.1:Int)≤l.n:=by
  intro g
  have e:=eI (by rw[h3];exact g) (by omega)
  simp only[decide_eq_false_iff_not]at e
  omega
 refine ej (σ:=Nat×Nat×Int×List Entry×Rd) (f0:=_) (by simp(disch:=omega) [VZ];rfl) (dD.zg (s:=5) (k:=5) (i:=1) rfl rfl) (f1:=_) (es0:=_) (by simp(disch:=omega) [VZ];rfl) (by simp(disch:=omega) [VZ];rfl) (fun p=> [(8, .val false [.int .i64 (p.1:Int)]),(7, .val false [.int .i64 p.2.2.1]),(5, .box [.int .i64 s1.1, .ow 5 p.2.1])]) (fun p=> [(4096, .pt 0 166 [.sl (bytes b), .int .i64 (p.2.2.2.2.at_:Int), .int .i64 (p.2.2.2.2.er:Int)]),(5, .sl p.2.1 true true (some (135,3)) (AZ p.2.2.2.1))])
  (fun p g=>(g+p.1=s2.1∧p.2.2.2.1.length=p.1)∧(p.2.2.2.2.er=0→(s2.1:Int)≤l.n)∧p.2.2.2.2.wf b∧(-1≤p.2.2.1∧p.2.2.1≤1152921504606846975)∧eF b l s1.1 s2.1 (-1) s3=(p.2.2.2.1++(eF b l s1.1 g p.2.2.1 p.2.2.2.2).1,(eF b l s1.1 g p.2.2.1 p.2.2.2.2).2)) (0,_, -1,[],s3) s2.1 (by simp(disch:=omega) [VZ];rfl) (by simp(disch:=omega) [AZ,av,VZ]) ⟨⟨by simp,rfl⟩,hn,w3,⟨by simp,by simp⟩,by simp⟩ ?_
 rintro⟨i,v,bf,x,⟨qa,qe⟩⟩ nx g0 ⟨⟨hg,h5⟩,h10,h6,hbf,h7⟩ P hP
 simp only at hg h5 h6 h7 h10 hbf
 have hl2:(AZ x).length=i:=by rw[F9];exact h5
 by_cases h9:qe=0
 ·subst h9
  by_cases h8:i < s2.1
  ·have h11:=h10 rfl
   simp(disch:=omega) [h8,av,VZ]
   refine bI (bQ b ⟨qa,0⟩ h6 hb) ?_
   have w21:=aT h6
   generalize h21:aO b ⟨qa,0⟩=s21 at w21⊢
   simp(disch:=omega) [av,VZ]
   refine bI (aA b s21.2 (decide (l.n≤(s21.1:Int))) 5) ?_
   have w22:=aX (bad:=decide (l.n≤(s21.1:Int))) (c:=5) w21.1 (by omega)
   generalize h22:ax s21.2 (decide (l.n≤(s21.1:Int))) 5=s22 at w22⊢
   simp(disch:=omega) [av,VZ]
   refine bI (aA b s22 (decide ((s21.1:Int)≤bf)) 6) ?_
   have e23:decide ((s21.1:Int)≤bf)=decide ((s21.1:Int)≤bf):=by first|rfl|(rw[decide_eq_decide];omega)
   rw[e23]
   have w23:=aX (bad:=decide ((s21.1:Int)≤bf)) (c:=6) w22 (by omega)
   generalize h23:ax s22 (decide ((s21.1:Int)≤bf)) 6=s23 at w23⊢
   simp(disch:=omega) [av,VZ]
   refine bI (bQ b s23 w23 hb) ?_
   have w24:=aT w23
   generalize h24:aO b s23=s24 at w24⊢
   simp(disch:=omega) [av,VZ]
   refine bI (aA b s24.2 (decide (s1.1≤s24.1)) 6) ?_
   have e25:decide (s1.1≤s24.1)=decide ((s1.1:Int)≤(s24.1:Int)):=by first|rfl|(rw[decide_eq_decide];omega)
   rw[e25]
   have w25:=aX (bad:=decide ((s1.1:Int)≤(s24.1:Int))) (c:=6) w24.1 (by omega)
   generalize h25:ax s24.2 (decide ((s1.1:Int)≤(s24.1:Int))) 6=s25 at w25⊢
   simp(disch:=omega) [av,VZ]
   refine bI (fK b s25 w25 hb) ?_
   have w26:=bU w25 32
   generalize h26:ba b s25 32=s26 at w26⊢
   simp(disch:=omega) [av,VZ]
   obtain⟨g1,rfl⟩:∃g1,g0=g1+1:=⟨g0 - 1,by omega⟩
   rw[kE rfl]at h7
   simp only[aM,h21,h22,h23,h24,h25,h26]at h7
   simp(disch:=omega) [av,hl2,FU,VZ]
   refine hP (i+1,_,(s21.1:Int),x++ [⟨(s21.1:Int),(s24.1:Int),s26.1⟩],s26.2) g1 _ _ (by omega) ⟨⟨by simp only;omega,by simp[h5]⟩,fun _=>h11,w26.1,⟨by simp only;omega,by have:=w21.2;simp only;omega⟩,by rw[h7];simp⟩ (by simp(disch:=omega) [VZ];rfl) (by simp(disch:=omega) [av,VZ])
  ·obtain rfl:g0=0:=by omega
   simp only[eF,List.append_nil]at h7
   simp(disch:=omega) [h8,uX,aM,h1,h2,h3,h7,Tc.o,av,aI,aJ,aP,VZ]
 ·rw[pf (k:=g0) (r:=⟨qa,qe⟩) h9]at h7
  simp only[List.append_nil]at h7
  by_cases h8:i < s2.1
  ·simp(disch:=omega) [h8,h9,uX,aM,h1,h2,h3,h7,Tc.o,av,aI,aJ,aP,VZ]
  ·simp(disch:=omega) [h8,h9,uX,aM,h1,h2,h3,h7,Tc.o,av,aI,aJ,aP,VZ]
end Go.Eng.F
