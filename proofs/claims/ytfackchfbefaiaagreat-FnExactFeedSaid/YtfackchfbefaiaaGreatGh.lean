import Derived.Test.YtfackchfbefaiaaGreatGe
import Derived.Test.YtfackchfbefaiaaGreatGg
set_option maxRecDepth 100000
set_option linter.unusedSimpArgs false
set_option linter.unusedVariables false
namespace Go.Eng.F
def dG:Bytes→Nat
 | []=>0
 |x::r=>x.toNat+256 * dG r
theorem rK:∀(b:Bytes),dG b < 256 ^ b.length
 | []=>by simp[dG]
 |x::r=>by
  have h:=rK r
  have hx:=wZ x
  simp only[dG,List.length_cons,Nat.pow_succ]
  omega
theorem zR (x:UInt8):∀(b:Bytes),dG (b++ [x])=dG b+x.toNat * 256 ^ b.length
 | []=>by simp[dG]
 |y::b=>by
  have h:=zR x b
  simp only[List.cons_append,dG,List.length_cons,Nat.pow_succ,h]
  have:256 * (dG b+x.toNat * 256 ^ b.length)=256 * dG b+x.toNat * (256 ^ b.length * 256):=by
   rw[Nat.mul_add,Nat.mul_left_comm,Nat.mul_comm 256 (256 ^ b.length)]
  omega
theorem OC (k:Nat):(256:Nat) ^ k=2 ^ (8 * k):=by rw[Nat.pow_mul]
theorem MJ {a b k:Nat} (ha:a < 2 ^ k) (hk:2 ^ k∣ b) (hb:b < 2 ^ 56) (hk2:k≤56):aG .or .i64 (a:Int) (b:Int)=((a+b:Nat):Int):=by
 have h2:(2:Nat) ^ k≤2 ^ 56:=Nat.pow_le_pow_right (by omega) hk2
 show IntKind.i64.wrap ((BitVec.ofInt 64 (a:Int)|||BitVec.ofInt 64 (b:Int)).toNat:Int)=_
 rw[BitVec.toNat_or,show BitVec.ofInt 64 (a:Int)=BitVec.ofNat 64 a from rfl,show BitVec.ofInt 64 (b:Int)=BitVec.ofNat 64 b from rfl,BitVec.toNat_ofNat,BitVec.toNat_ofNat,Nat.mod_eq_of_lt (by omega),Nat.mod_eq_of_lt (by omega)]
 obtain⟨q,rfl⟩:=hk
 rw[Nat.or_comm,←Nat.two_pow_add_eq_or_of_lt ha,Nat.add_comm]
 exact aS (by omega) (by omega)
abbrev i7:Nat:=194
def ja:AF:=⟨3,6,[.tmp 6, .tmp 7, .tmp 8],(.seq (.ops [.i (.mov 6 (.c (.val false [.nils]))), .i (.mov 7 (qi 0)), .i (.mov 8 (qi 0))]) (.seq (.seq (.ops [qm 9 1,qm 10 0,qn 11 10, .i (.call 13 103 false [(.s 9),(qi 0),(.s 11)]), .i (.not 13 (.s 12)),qm 14 13, .g 14 false 16 (.mov 15 (.s 2)), .g 14 false 17 (.mov 16 (.s 0)), .g 14 false 18 (.len 17 false (.s 16)), .g 14 false 19 (.mov 18 (.s 1)), .g 14 false 20 (.bin 19 .sub (.s 17) (.s 18)), .g 14 false 21 (.call 21 103 false [(.s 15),(qi 0),(.s 19)]), .g 14 false 22 (.not 21 (.s 20)), .i (.pick 22 (.s 14) (qb true) (.s 21))]) (.cond (.s 22) (.seq (.ops [.i (.mov 6 (.c (.val false [.nils]))), .i (.mov 7 (qi 0)), .i (.mov 8 (qi 1))]) .ret) .skip)) (.seq (.ops [qm 23 0,qm 24 1,qm 25 1,qm 26 2,qd 27 .add 25 26, .i (.eQ 28 1 (.s 23) (some (.s 24)) (some (.s 27))),qk 30 47 28,qm 30 1,qm 31 2,qd 32 .add 30 31,qm 6 29,qm 7 32, .i (.mov 8 (qi 0))]) .ret)))⟩
theorem pA:cd i7=some ja:=by kernel_rfl
theorem mP (b:Bytes) (a n:Nat) (h:a+n≤b.length) (hb:b.length≤1073741824):VC cd i7 (bI [(false,[.sl (bytes b)]),(false,[.int .i64 (a:Int)]),(false,[.int .i64 (n:Int)])]) (fun rs _=>rs= [(false,[.o true (some (5,1)) (bytes ((b.drop a).take n))]),(false,[.p (.int .i64 ((a+n:Nat):Int))]),(false,[.p (.int .i64 0)])]):=by
 have e1:dK (a:Int) 0 (b.length:Int)=true:=by simp[dK];omega
 have e2:dK (n:Int) 0 ((b.length:Int) - (a:Int))=true:=by simp[dK];omega
 have e3:((bytes b).drop a).take n=bytes ((b.drop a).take n):=by simp[bytes]
 have e4:((a:Int)+(n:Int) - (a:Int)).toNat=n:=by omega
 have e5:(a:Int)+(n:Int)≤(b.length:Int):=by omega
 have e6:(a:Int)≤(a:Int)+(n:Int):=by omega
 refine aa pA rfl ?_
 simp(disch:=omega) [ja,VY]
 refine ak (bu _ _ _) rfl rfl ?_
 simp(disch:=omega) [e1,VY]
 refine ak (bu _ _ _) rfl rfl ?_
 simp(disch:=omega) [e2,e3,e4,e5,e6,VY]
 refine cI (eG ((b.drop a).take n) (by simp;omega)) ?_
 simp(disch:=omega) [VY]
theorem wv {b:Bytes} {a w:Nat} (h:a+w≤b.length):((b.drop a).take w).length=w:=by simp;omega
theorem Kr {b:Bytes} {a w i:Nat} (h:a+w≤b.length) (hi:i < w):((b.drop a).take w)[i]'(by simp;omega)=b[a+i]:=by simp
abbrev p0:Nat:=133
def qv:AF:=⟨3,6,[.tmp 6, .tmp 7, .tmp 8],(.seq (.ops [.i (.mov 6 (qi 0)), .i (.mov 7 (qi 0)), .i (.mov 8 (qi 0))]) (.seq (.seq (.ops [qm 15 2, .i (.call 17 103 false [(.s 15),(qi 1),(qi 7)]), .i (.not 17 (.s 16))]) (.cond (.s 17) (.seq (.ops [.i (.mov 6 (qi 0)), .i (.mov 7 (qi 0)), .i (.mov 8 (qi 5))]) .ret) .skip)) (.seq (.ops [qm 19 0,qm 20 1,qm 21 2, .i (.call 23 194 false [(.s 19),(.s 20),(.s 21)]),qm 18 22, .i (.ext 23 (.s 18) 0), .i (.ext 24 (.s 18) 1), .i (.ext 25 (.s 18) 2),qm 9 23,qm 10 24,qm 11 25]) (.seq (.ops [.i (.mov 12 (qi 0))]) (.seq (.seq (.ops [qm 26 9,qn 27 26, .i (.mov 28 (qi 0))]) (.block 0 (.loop [40,39,38,37,36,35,34,33,32,31,30,29,14,13] (.seq (.ops [qd 29 .lss 28 27]) (.seq (.cond (.s 29) .skip (.exit 0)) (.seq (.block 1 (.seq (.ops [qm 30 28, .i (.iad 31 (.s 26) (.s 28) 1), .i (.ldh 32 (.s 31) 1 false),qm 13 30,qm 14 32]) (.ops [qm 33 12,qm 34 14, .i (.cvi 35 .i64 (.s 34)),qm 36 13, .i (.bin 37 .mul (qi 8) (.s 36)),qd 38 .shl 35 37,qd 39 .or 33 38,qm 12 39]))) (.ops [.i (.bin 40 .add (.s 28) (qi 1)),qm 28 40]))))))) (.seq (.ops [qm 41 12,qm 42 10,qm 43 11,qm 6 41,qm 7 42,qm 8 43]) .ret))))))⟩
theorem zi:cd p0=some qv:=by kernel_rfl
theorem ni (b:Bytes) (a w:Nat) (h:a+w≤b.length) (hw:1≤w∧w≤7) (hb:b.length≤1073741824):VC cd p0 (bI [(false,[.sl (bytes b)]),(false,[.int .i64 (a:Int)]),(false,[.int .i64 (w:Int)])]) (fun rs _=>rs= [(false,[.p (.int .i64 (dG ((b.drop a).take w):Int))]),(false,[.p (.int .i64 ((a+w:Nat):Int))]),(false,[.p (.int .i64 0)])]):=by
 have e1:dK (w:Int) 1 7=true:=by simp[dK];omega
 have hl:=wv h
 refine aa zi rfl ?_
 simp(disch:=omega) [qv,VY]
 refine ak (bu _ _ _) rfl rfl ?_
 simp(disch:=omega) [e1,VY]
 refine ak (mP b a w h hb) rfl rfl ?_
 simp(disch:=omega) [aP,hl,VY]
 generalize hx:(b.drop a).take w=x at *
 refine eZ (σ:=Nat) (f1:=_) (es0:=_) (by simp(disch:=omega) [VY];rfl) (by simp(disch:=omega) [VY];rfl) (fun i=> [(12, .val false [.int .i64 (dG (x.take i):Int)]),(28, .val false [.int .i64 (i:Int)])]) (fun _=> []) (fun i g=>g+i=w) 0 w (by simp(disch:=omega) [dG,VY]) (by simp(disch:=omega) [VY]) (by omega) ?_
 rintro i n g hg P hP
 simp(disch:=omega) [VY]
 refine aj (fun h1=> ?_) (fun h1=> ?_)
 ·have hi:i < x.length:=by omega
  have hq:=wZ x[i]
  have e2:=aS (n:=(x[i].toNat:Int)) (by omega) (by omega)
  have e3:¬(8:Int) * (i:Int) < 0:=by omega
  have e4:((8:Int) * (i:Int)).toNat=8 * i:=by omega
  have e5:min (8 * i) 64=8 * i:=by omega
  have hp:x[i].toNat * 2 ^ (8 * i) < 2 ^ 56:=by
   have:(2:Nat) ^ (8 * i)≤2 ^ 48:=Nat.pow_le_pow_right (by omega) (by omega)
   calc x[i].toNat * 2 ^ (8 * i)≤x[i].toNat * 2 ^ 48:=Nat.mul_le_mul_left _ this
    _ < 2 ^ 56:=by omega
  have e6:IntKind.i64.wrap ((x[i].toNat:Int) * 2 ^ (8 * i))=((x[i].toNat * 2 ^ (8 * i):Nat):Int):=by
   rw[show((x[i].toNat:Int) * 2 ^ (8 * i))=((x[i].toNat * 2 ^ (8 * i):Nat):Int)by simp]
   exact aS (by omega) (by omega)
  have hf:=rK (x.take i)
  rw[List.length_take,Nat.min_eq_left (by omega),OC]at hf
  have e7:=MJ hf (Nat.dvd_mul_left _ _) hp (by omega)
  have e8:dG (x.take (i+1))=dG (x.take i)+x[i].toNat * 2 ^ (8 * i):=by
   rw[List.take_add_one,List.getElem?_eq_getElem hi]
   show dG (x.take i++ [x[i]])=_
   rw[zR,List.length_take,Nat.min_eq_left (by omega),OC]
  simp(disch:=omega) [bQ hi,e2,e3,e4,e5,IntKind.bits,VY]
  rw[e6,e7,←e8]
  simp(disch:=omega) [VY]
  exact hP (i+1) (g - 1) _ _ (by omega) (by omega) (by simp(disch:=omega) [VY]) (by simp(disch:=omega) [VY])
 ·have:i=w:=by omega
  subst this
  rw[List.take_of_length_le (by omega)]
  simp(disch:=omega) [VY]
theorem GF {x:Bytes} {i:Nat} (h:i < x.length):dG (x.drop i)=x[i].toNat+256 * dG (x.drop (i+1)):=by
 rw[List.drop_eq_getElem_cons h]
 rfl
abbrev pO:Nat:=68
def pB:AF:=⟨3,6,[.tmp 6, .tmp 7, .tmp 8],(.seq (.ops [.i (.mov 6 (qi 0)), .i (.mov 7 (qi 0)), .i (.mov 8 (qi 0))]) (.seq (.seq (.ops [qm 11 2, .i (.call 13 67 false [(.s 11),(qi 1),(qi 7)]), .i (.not 13 (.s 12))]) (.cond (.s 13) (.seq (.ops [.i (.mov 6 (qi 0)), .i (.mov 7 (qi 0)), .i (.mov 8 (qi 5))]) .ret) .skip)) (.seq (.seq (.ops [qm 14 1, .i (.bin 15 .lss (.s 14) (qi 0)),qm 16 15, .g 16 false 18 (.mov 17 (.s 1)), .g 16 false 19 (.mov 18 (.s 0)), .g 16 false 20 (.len 19 false (.s 18)), .g 16 false 21 (.mov 20 (.s 2)), .g 16 false 22 (.bin 21 .sub (.s 19) (.s 20)), .g 16 false 23 (.bin 22 .gtr (.s 17) (.s 21)), .i (.pick 23 (.s 16) (qb true) (.s 22))]) (.cond (.s 23) (.seq (.ops [.i (.mov 6 (qi 0)), .i (.mov 7 (qi 0)), .i (.mov 8 (qi 1))]) .ret) .skip)) (.seq (.ops [.i (.mov 9 (qi 0))]) (.seq (.seq (.ops [qm 24 2, .i (.bin 25 .sub (.s 24) (qi 1)),qm 10 25]) (.block 0 (.loop [39,38,37,36,35,34,33,32,31,30,29,28,27,26] (.seq (.seq (.ops [qm 26 10, .i (.bin 27 .geq (.s 26) (qi 0))]) (.cond (.s 27) .skip (.exit 0))) (.seq (.block 1 (.ops [qm 30 9, .i (.bin 31 .mul (.s 30) (qi 256)),qm 32 0,qm 33 1,qm 34 10,qd 35 .add 33 34, .i (.iad 36 (.s 32) (.s 35) 1), .i (.ldh 37 (.s 36) 1 false), .i (.cvi 38 .i64 (.s 37)),qd 39 .add 31 38,qm 9 39])) (.ops [qm 28 10, .i (.bin 29 .sub (.s 28) (qi 1)),qm 10 29])))))) (.seq (.ops [qm 40 9,qm 41 1,qm 42 2,qd 43 .add 41 42,qm 6 40,qm 7 43, .i (.mov 8 (qi 0))]) .ret))))))⟩
theorem yG:cd pO=some pB:=by kernel_rfl
theorem nP (b:Bytes) (a w:Nat) (h:a+w≤b.length) (hw:1≤w∧w≤7) (hb:b.length≤1073741824):VC cd pO (bI [(false,[.sl (bytes b)]),(false,[.int .i64 (a:Int)]),(false,[.int .i64 (w:Int)])]) (fun rs _=>rs= [(false,[.p (.int .i64 (dG ((b.drop a).take w):Int))]),(false,[.p (.int .i64 ((a+w:Nat):Int))]),(false,[.p (.int .i64 0)])]):=by
 have e1:dK (w:Int) 1 7=true:=by simp[dK];omega
 have hl:=wv h
 refine aa yG rfl ?_
 simp(disch:=omega) [pB,VY]
 refine ak (dB _ _ _) rfl rfl ?_
 simp(disch:=omega) [e1,VY]
 refine aj (fun h0=> ?_) (fun h0=> ?_)
 ·omega
 simp(disch:=omega) [h0,VY]
 refine aj (fun h0b=> ?_) (fun h0b=> ?_)
 ·omega
 simp(disch:=omega) [h0,h0b,VY]
 refine eZ (σ:=Nat) (f1:=_) (es0:=_) (by simp(disch:=omega) [VY];rfl) (by simp(disch:=omega) [VY];rfl) (fun i=> [(9, .val false [.int .i64 (dG (((b.drop a).take w).drop (w - i)):Int)]),(10, .val false [.int .i64 ((w:Int) - 1 - (i:Int))])]) (fun _=> []) (fun i g=>g+i=w) 0 w (by simp(disch:=omega) [hl,dG,VY]) (by simp(disch:=omega) [VY]) (by omega) ?_
 rintro i n g hg P hP
 simp(disch:=omega) [VY]
 refine aj (fun h1=> ?_) (fun h1=> ?_)
 ·have hi:w - (i+1) < ((b.drop a).take w).length:=by omega
  have hd:=GF hi
  rw[Kr h (by omega),show w - (i+1)+1=w - i by omega]at hd
  have hf:=rK (((b.drop a).take w).drop (w - i))
  have hf2:(256:Nat) ^ (((b.drop a).take w).drop (w - i)).length≤256 ^ 6:=Nat.pow_le_pow_right (by omega) (by rw[List.length_drop,hl];omega)
  have hq:=wZ (b[a+(w - (i+1))]'(by omega))
  have e2:((a:Int)+((w:Int) - 1 - (i:Int))).toNat=a+(w - (i+1)):=by omega
  have e3:(0:Int)≤(a:Int)+((w:Int) - 1 - (i:Int)):=by omega
  have e4:=aS (n:=((b[a+(w - (i+1))]'(by omega)).toNat:Int)) (by omega) (by omega)
  have hj2:a+(w - (i+1)) < b.length:=by omega
  have e5:((dG (((b.drop a).take w).drop (w - (i+1))):Nat):Int)=(dG (((b.drop a).take w).drop (w - i)):Int) * 256+((b[a+(w - (i+1))]'(by omega)).toNat:Int):=by omega
  simp(disch:=omega) [e2,e3,bQ hj2,e4,VY]
  exact hP (i+1) (g - 1) _ _ (by omega) (by omega) (by simp(disch:=omega) [e5,VY];omega) (by simp(disch:=omega) [VY])
 ·have:i=w:=by omega
  subst this
  simp(disch:=omega) [VY]
def ra (s:Bytes) (a:Nat):Nat:=dG ((s.drop (a+2)).take 2)
def FG (s:Bytes) (a:Nat):Nat:=dG ((s.drop (a+4)).take 4)
def Cc (s:Bytes) (a:Nat):Bytes:=(s.drop (a+8)).take (ra s a)
def av (l:ao) (s:Bytes) (a:Nat):Int×Int:=
 if l.ok=true∧a < s.length then
  if(s.getD a 0).toNat=181 then
   if a+1 < s.length∧¬(s.getD (a+1) 0).toNat=70 then(0,0)else
   if s.length - a < 4 then(1,0)else if ¬dK (ra s a) 1 l.frame=true then(0,0)else if s.length - a < 8+ra s a then(1,8+ra s a)else if FG s a=HX (Cc s a)then(3,8+ra s a)else(2,8+ra s a)
  else(0,0)
 else(0,0)
def cu (p:Int×Int):List (Bool×List E):= [(false,[.p (.int .i64 p.1)]),(false,[.p (.int .i64 p.2)])]
abbrev oh:Nat:=80
def ng:AF:=⟨3,7,[.tmp 6, .tmp 7],(.seq (.ops [.i (.lbox 3 (.s 0)), .i (.mov 6 (qi 0)), .i (.mov 7 (qi 0))]) (.seq (.seq (.ops [ql 15 3 3 5 true,qk 17 70 15, .i (.not 17 (.s 16)),qm 18 17, .g 18 false 20 (.mov 19 (.s 2)), .g 18 false 21 (.mov 20 (.s 1)), .g 18 false 22 (.len 21 false (.s 20)), .g 18 false 23 (.bin 22 .sub (.s 21) (qi 1)), .g 18 false 24 (.call 24 103 false [(.s 19),(qi 0),(.s 22)]), .g 18 false 25 (.not 24 (.s 23)), .i (.pick 25 (.s 18) (qb true) (.s 24)),qm 26 25, .g 26 false 28 (.mov 27 (.s 1)), .g 26 false 29 (.mov 28 (.s 2)), .g 26 false 30 (.iad 29 (.s 27) (.s 28) 1), .g 26 false 31 (.ldh 30 (.s 29) 1 false), .g 26 false 32 (.bin 31 .neq (.s 30) (.c (.val false [.int .u8 181]))), .i (.pick 32 (.s 26) (qb true) (.s 31)),qm 33 32, .g 33 false 35 (.mov 34 (.s 1)), .g 33 false 36 (.len 35 false (.s 34)), .g 33 false 37 (.mov 36 (.s 2)), .g 33 false 38 (.bin 37 .sub (.s 35) (.s 36)), .g 33 false 39 (.bin 38 .gtr (.s 37) (qi 1)), .g 33 false 40 (.mov 39 (.s 38)), .g 39 true 41 (.mov 40 (.s 1)), .g 39 true 42 (.mov 41 (.s 2)), .g 39 true 43 (.bin 42 .add (.s 41) (qi 1)), .g 39 true 44 (.iad 43 (.s 40) (.s 42) 1), .g 39 true 45 (.ldh 44 (.s 43) 1 false), .g 39 true 46 (.bin 45 .neq (.s 44) (.c (.val false [.int .u8 70]))), .g 33 false 47 (.pick 46 (.s 39) (.s 45) (qb false)), .i (.pick 47 (.s 33) (qb true) (.s 46))]) (.cond (.s 47) (.seq (.ops [.i (.mov 6 (qi 0)), .i (.mov 7 (qi 0))]) .ret) .skip)) (.seq (.ops [qm 48 1,qn 49 48,qm 50 2,qd 51 .sub 49 50,qm 8 51]) (.seq (.seq (.ops [qm 52 8, .i (.bin 53 .lss (.s 52) (qi 4))]) (.cond (.s 53) (.seq (.ops [.i (.mov 6 (qi 1)), .i (.mov 7 (qi 0))]) .ret) .skip)) (.seq (.ops [qm 55 1,qm 56 2, .i (.bin 57 .add (.s 56) (qi 2)), .i (.call 59 133 false [(.s 55),(.s 57),(qi 2)]),qm 54 58, .i (.ext 59 (.s 54) 0), .i (.ext 60 (.s 54) 1), .i (.ext 61 (.s 54) 2),qm 9 59,qm 10 60,qm 11 61]) (.seq (.block 0 (.seq (.ops [qm 63 9,qf 64 3 3,ql 65 3 64 1 false, .i (.call 67 103 false [(.s 63),(qi 1),(.s 65)]), .i (.not 67 (.s 66)),qm 62 67]) (.cond (.s 62) (.seq (.ops [.i (.mov 6 (qi 0)), .i (.mov 7 (qi 0))]) .ret) (.seq (.ops [qm 69 8,qm 70 9, .i (.bin 71 .add (qi 8) (.s 70)),qd 72 .lss 69 71,qm 68 72]) (.cond (.s 68) (.seq (.ops [qm 73 9, .i (.bin 74 .add (qi 8) (.s 73)), .i (.mov 6 (qi 1)),qm 7 74]) .ret) .skip))))) (.seq (.ops [qm 76 1,qm 77 2, .i (.bin 78 .add (.s 77) (qi 4)), .i (.call 80 133 false [(.s 76),(.s 78),(qi 4)]),qm 75 79, .i (.ext 80 (.s 75) 0), .i (.ext 81 (.s 75) 1), .i (.ext 82 (.s 75) 2),qm 12 80,qm 13 81,qm 14 82]) (.seq (.seq (.ops [qm 83 12,qm 84 1,qm 85 2, .i (.bin 86 .add (.s 85) (qi 8)),qm 87 2, .i (.bin 88 .add (.s 87) (qi 8)),qm 89 9,qd 90 .add 88 89, .i (.eQ 91 1 (.s 84) (some (.s 86)) (some (.s 90))),qk 93 105 91,qd 93 .neq 83 92]) (.cond (.s 93) (.seq (.ops [qm 94 9, .i (.bin 95 .add (qi 8) (.s 94)), .i (.mov 6 (qi 2)),qm 7 95]) .ret) .skip)) (.seq (.ops [qm 96 9, .i (.bin 97 .add (qi 8) (.s 96)), .i (.mov 6 (qi 3)),qm 7 97]) .ret)))))))))⟩
theorem xn:cd oh=some ng:=by kernel_rfl
theorem gR (l:ao) (s:Bytes) (a:Nat) (hs:s.length≤1073741824) (ha:a≤1073741824):VC cd oh (bI [(true,l.c),(false,[.sl (bytes s)]),(false,[.int .i64 (a:Int)])]) (fun rs _=>rs=cu (av l s a)):=by
 refine aa xn rfl ?_
 simp(disch:=omega) [ng,ao.c,VY]
 refine ak (bx l) rfl rfl ?_
 simp(disch:=omega) [VY]
 refine dO (fun h0=> ?_) (fun h0=> ?_)
 case refine_2=>simp(disch:=omega) [h0,av,cu,VY]
 simp(disch:=omega) [h0,VY]
 refine ak (bu _ _ _) rfl rfl ?_
 simp(disch:=omega) [VY]
 cases h1:dK (a:Int) 0 ((s.length:Int) - 1)with
 |false=>
  have h2:=IP h1
  have h3:¬a < s.length:=by omega
  simp(disch:=omega) [h0,h3,av,cu,VY]
 |true=>
  have h2:=eM h1
  have h3:a < s.length:=by omega
  simp(disch:=omega) [bQ h3,VY]
  refine aj (fun h4=> ?_) (fun h4=> ?_)
  case refine_2=>
   have h4n:¬s[a].toNat=181:=by omega
   simp(disch:=omega) [h4,h4n,h0,h3,av,cu,VY]
  have h4n:s[a].toNat=181:=by omega
  have key:∀(hc:a+1 < s.length→s[a+1]?.getD 0=70),av l s a=if s.length - a < 4 then(1,0)else if ¬dK (ra s a) 1 l.frame=true then(0,0)else if s.length - a < 8+ra s a then(1,8+(ra s a:Int))else if FG s a=HX (Cc s a)then(3,8+(ra s a:Int))else(2,8+(ra s a:Int)):=by
   intro hc
   have:¬(a+1 < s.length∧¬(s.getD (a+1) 0).toNat=70):=fun h=>by
    refine h.2 ?_
    rw[List.getD_eq_getElem?_getD,hc h.1]
    rfl
   unfold av
   have hg:s.getD a 0=s[a]:=by simp[List.getD,h3]
   rw[if_pos ⟨h0,h3⟩,hg,if_pos h4n,if_neg this]
  simp(disch:=omega) [h4,VY]
  refine aj (fun h5=> ?_) (fun h5=> ?_)
  ·have h5n:a+1 < s.length:=by omega
   have e5:((a:Int)+1).toNat=a+1:=by omega
   have e50:(0:Int)≤(a:Int)+1:=by omega
   simp(disch:=omega) [h4,h5,e5,e50,bQ h5n,VY]
   refine aj (fun h6=> ?_) (fun h6=> ?_)
   case refine_2=>
    have h6n:¬s[a+1].toNat=70:=by omega
    simp(disch:=omega) [h4,h5,h6,h6n,h5n,h0,h3,h4n,av,cu,VY]
   have h6n:s[a+1]?.getD 0=70:=by
    simp only[List.getElem?_eq_getElem h5n,Option.getD_some]
    exact UInt8.toNat_inj.1 (by have:(70:UInt8).toNat=70:=rfl;omega)
   rw[key (fun _=>h6n)]
   simp(disch:=omega) [h4,h5,h6,VY]
   refine aj (fun h8=> ?_) (fun h8=> ?_)
   ·have h8n:s.length - a < 4:=by omega
    simp(disch:=omega) [h8,h8n,cu,VY]
   have h8n:¬s.length - a < 4:=by omega
   have hl:dG ((s.drop (a+2)).take 2) < 65536:=by
    have:=rK ((s.drop (a+2)).take 2)
    rw[wv (by omega)]at this
    exact this
   simp(disch:=omega) [h8,VY]
   refine cI (ni s (a+2) 2 (by omega) (by omega) (by omega)) ?_
   simp(disch:=omega) [VY]
   refine ak (bu _ _ _) rfl rfl ?_
   simp(disch:=omega) [VY]
   refine dO (fun h9=> ?_) (fun h9=> ?_)
   case refine_2=>simp(disch:=omega) [h8n,ra,h9,cu,VY]
   have h9t:=eM h9
   simp(disch:=omega) [h9,VY]
   refine aj (fun h10=> ?_) (fun h10=> ?_)
   ·have h10n:s.length - a < 8+dG ((s.drop (a+2)).take 2):=by omega
    simp(disch:=omega) [h8n,ra,h9,h10,h10n,cu,VY]
   have h10n:¬s.length - a < 8+dG ((s.drop (a+2)).take 2):=by omega
   simp(disch:=omega) [h10,VY]
   refine cI (ni s (a+4) 4 (by omega) (by omega) (by omega)) ?_
   have e6:((bytes s).drop (a+8)).take (dG ((s.drop (a+2)).take 2))=bytes (Cc s a):=by simp[bytes,Cc,ra]
   have e7:((a:Int)+8).toNat=a+8:=by omega
   have e8:((a:Int)+8+(dG ((s.drop (a+2)).take 2):Int) - ((a:Int)+8)).toNat=dG ((s.drop (a+2)).take 2):=by omega
   have e9:(a:Int)+8≤(a:Int)+8+(dG ((s.drop (a+2)).take 2):Int):=by omega
   have e10:(a:Int)+8+(dG ((s.drop (a+2)).take 2):Int)≤(s.length:Int):=by omega
   have e11:(0:Int)≤(a:Int)+8:=by omega
   simp(disch:=omega) [e6,e7,e8,e9,e10,e11,ju,VY]
   refine cI (Dy (Cc s a) (by simp[Cc];omega)) ?_
   simp(disch:=omega) [VY]
   refine aj (fun h11=> ?_) (fun h11=> ?_)
   ·have h11n:FG s a=HX (Cc s a):=by unfold FG;omega
    simp(disch:=omega) [h11,h8n,ra,h9,h10n,h11n,cu,VY]
   ·have h11n:¬FG s a=HX (Cc s a):=by unfold FG;omega
    simp(disch:=omega) [h11,h8n,ra,h9,h10n,h11n,cu,VY]
  ·rw[key (fun h=>by omega)]
   have h7:s.length - a < 4:=by omega
   have h7i:(s.length:Int) - (a:Int) < 4:=by omega
   simp(disch:=omega) [h4,h5,h7,h7i,cu,VY]
abbrev mg:Nat:=37
def nm:AF:=⟨3,7,[.tmp 6, .tmp 7],(.seq (.ops [.i (.lbox 3 (.s 0)), .i (.mov 6 (qi 0)), .i (.mov 7 (qi 0))]) (.seq (.seq (.ops [ql 14 3 3 5 true,qk 16 66 14, .i (.not 16 (.s 15)),qm 17 16, .g 17 false 19 (.mov 18 (.s 2)), .g 17 false 20 (.mov 19 (.s 1)), .g 17 false 21 (.len 20 false (.s 19)), .g 17 false 22 (.bin 21 .sub (.s 20) (qi 1)), .g 17 false 23 (.call 23 67 false [(.s 18),(qi 0),(.s 21)]), .g 17 false 24 (.not 23 (.s 22)), .i (.pick 24 (.s 17) (qb true) (.s 23)),qm 25 24, .g 25 false 27 (.mov 26 (.s 1)), .g 25 false 28 (.mov 27 (.s 2)), .g 25 false 29 (.iad 28 (.s 26) (.s 27) 1), .g 25 false 30 (.ldh 29 (.s 28) 1 false), .g 25 false 31 (.bin 30 .neq (.s 29) (.c (.val false [.int .u8 181]))), .i (.pick 31 (.s 25) (qb true) (.s 30)),qm 32 31, .g 32 false 34 (.mov 33 (.s 2)), .g 32 false 35 (.bin 34 .add (.s 33) (qi 1)), .g 32 false 36 (.mov 35 (.s 1)), .g 32 false 37 (.len 36 false (.s 35)), .g 32 false 38 (.bin 37 .lss (.s 34) (.s 36)), .g 32 false 39 (.mov 38 (.s 37)), .g 38 true 40 (.mov 39 (.s 1)), .g 38 true 41 (.mov 40 (.s 2)), .g 38 true 42 (.bin 41 .add (.s 40) (qi 1)), .g 38 true 43 (.iad 42 (.s 39) (.s 41) 1), .g 38 true 44 (.ldh 43 (.s 42) 1 false), .g 38 true 45 (.bin 44 .neq (.s 43) (.c (.val false [.int .u8 70]))), .g 32 false 46 (.pick 45 (.s 38) (.s 44) (qb false)), .i (.pick 46 (.s 32) (qb true) (.s 45))]) (.cond (.s 46) (.seq (.ops [.i (.mov 6 (qi 0)), .i (.mov 7 (qi 0))]) .ret) .skip)) (.seq (.seq (.ops [qm 47 1,qn 48 47,qm 49 2,qd 50 .sub 48 49, .i (.bin 51 .lss (.s 50) (qi 4))]) (.cond (.s 51) (.seq (.ops [.i (.mov 6 (qi 1)), .i (.mov 7 (qi 0))]) .ret) .skip)) (.seq (.ops [qm 53 1,qm 54 2, .i (.bin 55 .add (.s 54) (qi 2)), .i (.call 57 68 false [(.s 53),(.s 55),(qi 2)]),qm 52 56, .i (.ext 57 (.s 52) 0), .i (.ext 58 (.s 52) 1), .i (.ext 59 (.s 52) 2),qm 8 57,qm 9 58,qm 10 59]) (.seq (.seq (.ops [qm 60 8,qf 61 3 3,ql 62 3 61 1 false, .i (.call 64 67 false [(.s 60),(qi 1),(.s 62)]), .i (.not 64 (.s 63))]) (.cond (.s 64) (.seq (.ops [.i (.mov 6 (qi 0)), .i (.mov 7 (qi 0))]) .ret) .skip)) (.seq (.seq (.ops [qm 65 1,qn 66 65,qm 67 2,qd 68 .sub 66 67,qm 69 8, .i (.bin 70 .add (qi 8) (.s 69)),qd 71 .lss 68 70]) (.cond (.s 71) (.seq (.ops [qm 72 8, .i (.bin 73 .add (qi 8) (.s 72)), .i (.mov 6 (qi 1)),qm 7 73]) .ret) .skip)) (.seq (.ops [qm 75 1,qm 76 2, .i (.bin 77 .add (.s 76) (qi 4)), .i (.call 79 68 false [(.s 75),(.s 77),(qi 4)]),qm 74 78, .i (.ext 79 (.s 74) 0), .i (.ext 80 (.s 74) 1), .i (.ext 81 (.s 74) 2),qm 11 79,qm 12 80,qm 13 81]) (.seq (.seq (.ops [qm 82 11,qm 83 1,qm 84 2, .i (.bin 85 .add (.s 84) (qi 8)),qm 86 2, .i (.bin 87 .add (.s 86) (qi 8)),qm 88 8,qd 89 .add 87 88, .i (.eQ 90 1 (.s 83) (some (.s 85)) (some (.s 89))),qk 92 69 90,qd 92 .neq 82 91]) (.cond (.s 92) (.seq (.ops [qm 93 8, .i (.bin 94 .add (qi 8) (.s 93)), .i (.mov 6 (qi 2)),qm 7 94]) .ret) .skip)) (.seq (.ops [qm 95 8, .i (.bin 96 .add (qi 8) (.s 95)), .i (.mov 6 (qi 3)),qm 7 96]) .ret)))))))))⟩
theorem xY:cd mg=some nm:=by kernel_rfl
theorem lJ (l:ao) (s:Bytes) (a:Nat) (hs:s.length≤1073741824) (ha:a≤1073741824):VC cd mg (bI [(true,l.c),(false,[.sl (bytes s)]),(false,[.int .i64 (a:Int)])]) (fun rs _=>rs=cu (av l s a)):=by
 refine aa xY rfl ?_
 simp(disch:=omega) [nm,ao.c,VY]
 refine ak (dH l) rfl rfl ?_
 simp(disch:=omega) [VY]
 refine dO (fun h0=> ?_) (fun h0=> ?_)
 case refine_2=>simp(disch:=omega) [h0,av,cu,VY]
 simp(disch:=omega) [h0,VY]
 refine ak (dB _ _ _) rfl rfl ?_
 simp(disch:=omega) [VY]
 cases h1:dK (a:Int) 0 ((s.length:Int) - 1)with
 |false=>
  have h2:=IP h1
  have h3:¬a < s.length:=by omega
  simp(disch:=omega) [h0,h3,av,cu,VY]
 |true=>
  have h2:=eM h1
  have h3:a < s.length:=by omega
  simp(disch:=omega) [bQ h3,VY]
  refine aj (fun h4=> ?_) (fun h4=> ?_)
  case refine_2=>
   have h4n:¬s[a].toNat=181:=by omega
   simp(disch:=omega) [h4,h4n,h0,h3,av,cu,VY]
  have h4n:s[a].toNat=181:=by omega
  have key:∀(hc:a+1 < s.length→s[a+1]?.getD 0=70),av l s a=if s.length - a < 4 then(1,0)else if ¬dK (ra s a) 1 l.frame=true then(0,0)else if s.length - a < 8+ra s a then(1,8+(ra s a:Int))else if FG s a=HX (Cc s a)then(3,8+(ra s a:Int))else(2,8+(ra s a:Int)):=by
   intro hc
   have:¬(a+1 < s.length∧¬(s.getD (a+1) 0).toNat=70):=fun h=>by
    refine h.2 ?_
    rw[List.getD_eq_getElem?_getD,hc h.1]
    rfl
   unfold av
   have hg:s.getD a 0=s[a]:=by simp[List.getD,h3]
   rw[if_pos ⟨h0,h3⟩,hg,if_pos h4n,if_neg this]
  simp(disch:=omega) [h4,VY]
  refine aj (fun h5=> ?_) (fun h5=> ?_)
  ·have h5n:a+1 < s.length:=by omega
   have e5:((a:Int)+1).toNat=a+1:=by omega
   have e50:(0:Int)≤(a:Int)+1:=by omega
   simp(disch:=omega) [h4,h5,e5,e50,bQ h5n,VY]
   refine aj (fun h6=> ?_) (fun h6=> ?_)
   case refine_2=>
    have h6n:¬s[a+1].toNat=70:=by omega
    simp(disch:=omega) [h4,h5,h6,h6n,h5n,h0,h3,h4n,av,cu,VY]
   have h6n:s[a+1]?.getD 0=70:=by
    simp only[List.getElem?_eq_getElem h5n,Option.getD_some]
    exact UInt8.toNat_inj.1 (by have:(70:UInt8).toNat=70:=rfl;omega)
   rw[key (fun _=>h6n)]
   simp(disch:=omega) [h4,h5,h6,VY]
   refine aj (fun h8=> ?_) (fun h8=> ?_)
   ·have h8n:s.length - a < 4:=by omega
    simp(disch:=omega) [h8,h8n,cu,VY]
   have h8n:¬s.length - a < 4:=by omega
   have hl:dG ((s.drop (a+2)).take 2) < 65536:=by
    have:=rK ((s.drop (a+2)).take 2)
    rw[wv (by omega)]at this
    exact this
   simp(disch:=omega) [h8,VY]
   refine cI (nP s (a+2) 2 (by omega) (by omega) (by omega)) ?_
   simp(disch:=omega) [VY]
   refine ak (dB _ _ _) rfl rfl ?_
   simp(disch:=omega) [VY]
   refine dO (fun h9=> ?_) (fun h9=> ?_)
   case refine_2=>simp(disch:=omega) [h8n,ra,h9,cu,VY]
   have h9t:=eM h9
   simp(disch:=omega) [h9,VY]
   refine aj (fun h10=> ?_) (fun h10=> ?_)
   ·have h10n:s.length - a < 8+dG ((s.drop (a+2)).take 2):=by omega
    simp(disch:=omega) [h8n,ra,h9,h10,h10n,cu,VY]
   have h10n:¬s.length - a < 8+dG ((s.drop (a+2)).take 2):=by omega
   simp(disch:=omega) [h10,VY]
   refine cI (nP s (a+4) 4 (by omega) (by omega) (by omega)) ?_
   have e6:((bytes s).drop (a+8)).take (dG ((s.drop (a+2)).take 2))=bytes (Cc s a):=by simp[bytes,Cc,ra]
   have e7:((a:Int)+8).toNat=a+8:=by omega
   have e8:((a:Int)+8+(dG ((s.drop (a+2)).take 2):Int) - ((a:Int)+8)).toNat=dG ((s.drop (a+2)).take 2):=by omega
   have e9:(a:Int)+8≤(a:Int)+8+(dG ((s.drop (a+2)).take 2):Int):=by omega
   have e10:(a:Int)+8+(dG ((s.drop (a+2)).take 2):Int)≤(s.length:Int):=by omega
   have e11:(0:Int)≤(a:Int)+8:=by omega
   simp(disch:=omega) [e6,e7,e8,e9,e10,e11,ju,VY]
   refine cI (C9 (Cc s a) (by simp[Cc];omega)) ?_
   simp(disch:=omega) [VY]
   refine aj (fun h11=> ?_) (fun h11=> ?_)
   ·have h11n:FG s a=HX (Cc s a):=by unfold FG;omega
    simp(disch:=omega) [h11,h8n,ra,h9,h10n,h11n,cu,VY]
   ·have h11n:¬FG s a=HX (Cc s a):=by unfold FG;omega
    simp(disch:=omega) [h11,h8n,ra,h9,h10n,h11n,cu,VY]
  ·rw[key (fun h=>by omega)]
   have h7:s.length - a < 4:=by omega
   have h7i:(s.length:Int) - (a:Int) < 4:=by omega
   simp(disch:=omega) [h4,h5,h7,h7i,cu,VY]
structure cf where
 skip:Int
 buf:Bytes
def cf.c (p:cf):List D:= [.int .i64 p.skip, .sl (bytes p.buf)]
def jb (l:ao) (p:cf):Bool:=l.ok && isNum p.skip && (decide (p.buf= [])||decide ((av l p.buf 0).1=1))
abbrev pv:Nat:=45
def qJ:AF:=⟨2,5,[.tmp 4],(.seq (.ops [.i (.lbox 2 (.s 0)), .i (.lbox 3 (.s 1)), .i (.mov 4 (qb false))]) (.seq (.ops [ql 8 2 2 5 true,qf 9 3 1,ql 10 3 9 1 false, .i (.call 12 80 false [(.s 8),(.s 10),(qi 0)]),qm 7 11, .i (.ext 12 (.s 7) 0), .i (.ext 13 (.s 7) 1),qm 5 12,qm 6 13]) (.seq (.ops [ql 14 2 2 5 true,qk 16 70 14,qm 16 15, .g 16 true 18 (.fad 17 (.s 3) 0), .g 16 true 19 (.ldl 18 3 (.s 17) 1 false), .g 16 true 20 (.call 20 81 false [(.s 18)]), .i (.pick 20 (.s 16) (.s 19) (qb false)),qm 21 20, .g 21 true 23 (.fad 22 (.s 3) 1), .g 21 true 24 (.ldl 23 3 (.s 22) 1 false), .g 21 true 25 (.len 24 false (.s 23)), .g 21 true 26 (.bin 25 .eql (.s 24) (qi 0)), .g 21 true 27 (.mov 26 (.s 25)), .g 26 false 28 (.mov 27 (.s 5)), .g 26 false 29 (.bin 28 .eql (.s 27) (qi 1)), .g 21 true 30 (.pick 29 (.s 26) (qb true) (.s 28)), .i (.pick 30 (.s 21) (.s 29) (qb false)),qm 4 30]) .ret)))⟩
theorem yE:cd pv=some qJ:=by kernel_rfl
theorem wY (l:ao) (p:cf) (hb:p.buf.length≤1073741824):VC cd pv (bI [(true,l.c),(true,p.c)]) (fun rs _=>rs=bl (jb l p)):=by
 refine aa yE rfl ?_
 simp(disch:=omega) [qJ,ao.c,cf.c,VY]
 refine cI (gR l p.buf 0 hb (by omega)) ?_
 simp(disch:=omega) [cu,VY]
 refine ak (bx l) rfl rfl ?_
 simp(disch:=omega) [VY]
 refine dO (fun h0=> ?_) (fun h0=> ?_) <;>simp(disch:=omega) [h0,jb,VY]
 refine ak (Cp _) rfl rfl ?_
 simp(disch:=omega) [h0,VY]
 refine dO (fun h1=> ?_) (fun h1=> ?_) <;>simp(disch:=omega) [h0,h1,VY]
 refine aj (fun h2=> ?_) (fun h2=> ?_)
 ·simp(disch:=omega) [h0,h1,h2,VY]
 ·simp(disch:=omega) [h0,h1,h2,VY]
abbrev qG:Nat:=42
def qo:AF:=⟨2,5,[.tmp 4],(.seq (.ops [.i (.lbox 2 (.s 0)), .i (.lbox 3 (.s 1)), .i (.mov 4 (qb false))]) (.seq (.seq (.ops [ql 7 2 2 5 true,qk 9 66 7, .i (.not 9 (.s 8)),qm 10 9, .g 10 false 12 (.fad 11 (.s 3) 0), .g 10 false 13 (.ldl 12 3 (.s 11) 1 false), .g 10 false 14 (.call 14 78 false [(.s 12)]), .g 10 false 15 (.not 14 (.s 13)), .i (.pick 15 (.s 10) (qb true) (.s 14))]) (.cond (.s 15) (.seq (.ops [.i (.mov 4 (qb false))]) .ret) .skip)) (.seq (.ops [ql 17 2 2 5 true,qf 18 3 1,ql 19 3 18 1 false, .i (.call 21 37 false [(.s 17),(.s 19),(qi 0)]),qm 16 20, .i (.ext 21 (.s 16) 0), .i (.ext 22 (.s 16) 1),qm 5 21,qm 6 22]) (.seq (.ops [qf 23 3 1,ql 24 3 23 1 false,qn 25 24, .i (.bin 26 .eql (.s 25) (qi 0)),qm 27 26, .g 27 false 29 (.mov 28 (.s 5)), .g 27 false 30 (.bin 29 .eql (.s 28) (qi 1)), .i (.pick 30 (.s 27) (qb true) (.s 29)),qm 4 30]) .ret))))⟩
theorem yB:cd qG=some qo:=by kernel_rfl
theorem xE (l:ao) (p:cf) (hb:p.buf.length≤1073741824):VC cd qG (bI [(true,l.c),(true,p.c)]) (fun rs _=>rs=bl (jb l p)):=by
 refine aa yB rfl ?_
 simp(disch:=omega) [qo,ao.c,cf.c,VY]
 refine ak (dH l) rfl rfl ?_
 simp(disch:=omega) [VY]
 refine dO (fun h0=> ?_) (fun h0=> ?_)
 case refine_2=>simp(disch:=omega) [h0,jb,VY]
 simp(disch:=omega) [h0,VY]
 refine ak (G7 _) rfl rfl ?_
 simp(disch:=omega) [h0,VY]
 refine dO (fun h1=> ?_) (fun h1=> ?_)
 case refine_2=>simp(disch:=omega) [h0,h1,jb,VY]
 simp(disch:=omega) [h0,h1,VY]
 refine cI (lJ l p.buf 0 hb (by omega)) ?_
 simp(disch:=omega) [cu,VY]
 refine aj (fun h2=> ?_) (fun h2=> ?_)
 ·simp(disch:=omega) [h0,h1,h2,jb,VY]
 ·simp(disch:=omega) [h0,h1,h2,jb,VY]
end Go.Eng.F
namespace Go.Eng.F
end Go.Eng.F
namespace Go.Eng.F
open Go.Eng.U (yx cZ TLimits wB)
def da.tv (f:da):Tv:= .r [f.l.tv,oZ f.heads]
theorem da.enc (f:da):enc wB f.tv=f.c:=by simp only[da.tv,ot,eP,cc,cT,ao.enc,da.c,List.append_nil]
theorem da.ex {v:Tv} (h:aB wB v):∃q:da,v=q.tv:=by
 obtain⟨vs,rfl,h⟩:=h.st
 obtain⟨v0,_,rfl,h0,h⟩:=h.step
 obtain⟨v1,_,rfl,h1,h⟩:=h.step
 obtain rfl:=h.fin
 obtain⟨n0,rfl⟩:=ao.ex h0
 obtain⟨n1,rfl⟩:=vY h1
 exact⟨⟨n0,n1⟩,rfl⟩
theorem da.of {f:da} (h:aB wB f.tv) (hw:wt f.tv≤1048576):f.wc∧aB TLimits f.l.tv∧f.heads.length≤1048576:=by
 simp only[da.tv,c8,ba]at h
 simp only[da.tv,wt,fB]at hw
 obtain⟨h0,h1,_⟩:=h
 have h5:=BJ h1 (by omega)
 have h6:f.heads.length≤wt (oZ f.heads):=by unfold oZ;rw[B5,List.length_map];omega
 exact⟨⟨h5.1,h5.2⟩,c8.2 (c8.1 h0),by omega⟩
end Go.Eng.F
namespace Go.Eng.F
structure eT where
 l:ao
 t:Table
 push:cf
 chain:List Head
def eT.c (x:eT):List D:= [.int .i64 x.l.n, .int .i64 x.l.tx, .int .i64 x.l.txs, .int .i64 x.l.frame, .int .i64 x.l.heads, .sl (rws x.t.rows), .int .i64 x.push.skip, .sl (bytes x.push.buf), .sl (ud x.chain)]
def eT.wc (x:eT):Prop:=x.t.wf∧x.push.buf.length≤1073741824∧Sz x.chain.length∧∀h∈x.chain,h.wc
def ht (hs:List Head) (i:Nat):Int:=match hs[i]? with|some h=>h.height|none=>0
structure oU where
 l:ao
 t:Table
 x:eT
 own:List Head
def oU.c (d:oU):List D:= [.int .i64 d.l.n, .int .i64 d.l.tx, .int .i64 d.l.txs, .int .i64 d.l.frame, .int .i64 d.l.heads, .sl (rws d.t.rows), .int .i64 d.x.l.n, .int .i64 d.x.l.tx, .int .i64 d.x.l.txs, .int .i64 d.x.l.frame, .int .i64 d.x.l.heads, .sl (rws d.x.t.rows), .int .i64 d.x.push.skip, .sl (bytes d.x.push.buf), .sl (ud d.x.chain), .sl (ud d.own)]
def oU.wc (d:oU):Prop:=d.t.wf∧d.x.wc∧Sz d.own.length∧∀h∈d.own,h.wc
end Go.Eng.F
namespace Go.Eng.F
open Go.Eng.U (yx cZ TLimits iu TPush og FH)
def cf.wf (p:cf):Prop:=ru p.skip∧Sz p.buf.length
def cf.tv (x:cf):Tv:= .r [.i x.skip,lO x.buf]
theorem cf.enc (x:cf):enc TPush x.tv=x.c:=by simp only[cf.tv,eP,cc,cT,dS,eW,gB,gx,dY,gJ,cf.c,List.cons_append,List.nil_append,List.append_assoc]
theorem cf.ex {v:Tv} (h:aB TPush v):∃x:cf,v=x.tv:=by
 obtain⟨vs,rfl,h⟩:=h.st
 obtain⟨v0,_,rfl,h0,h⟩:=h.step
 obtain⟨v1,_,rfl,h1,h⟩:=h.step
 obtain rfl:=h.fin
 obtain⟨n0,rfl,_⟩:=h0.int
 obtain⟨n1,rfl⟩:=gU h1
 exact⟨⟨n0,n1⟩,rfl⟩
theorem cf.of {x:cf} (h:aB TPush x.tv) (hw:wt x.tv≤1048576):x.wf:=by
 simp only[cf.tv,c8,ba]at h
 simp only[cf.tv,wt,fB]at hw
 obtain⟨h0,h1,_⟩:=h
 exact⟨eC (ok_int.1 h0),qy (by omega)⟩
theorem cf.wf.tok {x:cf} (h:x.wf):aB TPush x.tv:=by
 simp only[cf.tv,c8,ba]
 obtain⟨h0,h1⟩:=h
 exact⟨dQ h0,pT h1,eK.2 trivial⟩
def eT.tv (x:eT):Tv:= .r [x.l.tv,x.t.tv,x.push.tv,oZ x.chain]
theorem eT.enc (x:eT):enc og x.tv=x.c:=by simp only[eT.tv,ot,eP,cc,cT,ao.enc,Table.enc,cf.enc,eT.c,ao.c,Table.c,cf.c,List.cons_append,List.nil_append,List.append_nil]
theorem eT.ex {v:Tv} (h:aB og v):∃q:eT,v=q.tv:=by
 obtain⟨vs,rfl,h⟩:=h.st
 obtain⟨v0,_,rfl,h0,h⟩:=h.step
 obtain⟨v1,_,rfl,h1,h⟩:=h.step
 obtain⟨v2,_,rfl,h2,h⟩:=h.step
 obtain⟨v3,_,rfl,h3,h⟩:=h.step
 obtain rfl:=h.fin
 obtain⟨n0,rfl⟩:=ao.ex h0
 obtain⟨n1,rfl⟩:=Table.ex h1
 obtain⟨n2,rfl⟩:=cf.ex h2
 obtain⟨n3,rfl⟩:=vY h3
 exact⟨⟨n0,n1,n2,n3⟩,rfl⟩
theorem eT.of {x:eT} (h:aB og x.tv) (hw:wt x.tv≤1048576):x.wc:=by
 simp only[eT.tv,c8,ba]at h
 simp only[eT.tv,wt,fB]at hw
 obtain⟨h0,h1,h2,h3,_⟩:=h
 have k1:=Table.of h1 (by omega)
 have k2:=cf.of h2 (by omega)
 have k3:=BJ h3 (by omega)
 exact⟨k1,k2.2,k3.1,k3.2⟩
def oU.tv (x:oU):Tv:= .r [x.l.tv,x.t.tv,x.x.tv,oZ x.own]
theorem oU.enc (x:oU):enc FH x.tv=x.c:=by simp only[oU.tv,ot,eP,cc,cT,ao.enc,Table.enc,eT.enc,oU.c,eT.c,ao.c,Table.c,List.cons_append,List.nil_append,List.append_nil]
theorem oU.ex {v:Tv} (h:aB FH v):∃q:oU,v=q.tv:=by
 obtain⟨vs,rfl,h⟩:=h.st
 obtain⟨v0,_,rfl,h0,h⟩:=h.step
 obtain⟨v1,_,rfl,h1,h⟩:=h.step
 obtain⟨v2,_,rfl,h2,h⟩:=h.step
 obtain⟨v3,_,rfl,h3,h⟩:=h.step
 obtain rfl:=h.fin
 obtain⟨n0,rfl⟩:=ao.ex h0
 obtain⟨n1,rfl⟩:=Table.ex h1
 obtain⟨n2,rfl⟩:=eT.ex h2
 obtain⟨n3,rfl⟩:=vY h3
 exact⟨⟨n0,n1,n2,n3⟩,rfl⟩
theorem oU.of {x:oU} (h:aB FH x.tv) (hw:wt x.tv≤1048576):x.wc:=by
 simp only[oU.tv,c8,ba]at h
 simp only[oU.tv,wt,fB]at hw
 obtain⟨h0,h1,h2,h3,_⟩:=h
 have k1:=Table.of h1 (by omega)
 have k2:=eT.of h2 (by omega)
 have k3:=BJ h3 (by omega)
 exact⟨k1,k2,k3.1,k3.2⟩
end Go.Eng.F
namespace Go.Eng.F
open Go.Eng.U (yx cZ TLimits iu TPush og)
end Go.Eng.F
namespace Go.Eng.F
open Go.Eng.U (yx cZ TLimits iu fq)
theorem eb {cd:Nat→Option AF} {pd:List (Nat×Nat)} {R:List RV} {Q:List (Bool×List E)→List E→Prop} {k:List VK} {f:UT} {st:St} {ds:List Nat} {b:AC} {σ:Type} (f0:UT) (hf:cB f ds=f0) {f2:UT} {st2:St} (hw:dt f0 st f2 st2) (f1:UT) (es0:List (Nat×En)) (h2:f2=f1) (he:Ly st2.es=es0)
 (i3:σ→List (Nat×U)) (ue:σ→List (Nat×En)) (J:σ→Nat→Prop) (s0:σ) (g0:Nat) (hu:f1=bR f1 (i3 s0)) (hs:kr st2 (BK es0 (ue s0))) (h0:J s0 g0)
 (round:∀s n g,J s g→∀P:UT→St→Prop,(∀(s':σ) (g':Nat) (f':UT) (st':St),g' < g→J s' g'→cB f' ds=bR f1 (i3 s')→kr st' (BK es0 (ue s'))→P f' st')→VX cd pd R Q (.c b:: .stop P::k) (bR f1 (i3 s)) ⟨n,BK es0 (ue s)⟩):
 VX cd pd R Q (.c (.loop ds b)::k) f st:=
 rV f0 hf hw f1 es0 h2 he i3 ue J s0 g0 hu hs h0 fun s n g h=>round s n g h _ fun s' g' f' st' a b c d=>⟨s',g',a,b,c,d⟩
theorem HW {bits:Bytes} {n:Int} (h:ef bits n=true):bits.length≤2:=by
 simp only[ef,Bool.and_eq_true,decide_eq_true_eq]at h
 have h1:=eM h.1.1
 have h2:=h.1.2
 rw[uU]at h2
 omega
end Go.Eng.F
namespace Go.Eng.F
structure cX where
 view:Int
 height:Int
 block:Bytes
 who:Int
 tag:Bytes
def cX.c (v:cX):List D:= [.int .i64 v.view, .int .i64 v.height, .sl (bytes v.block), .int .i64 v.who, .sl (bytes v.tag)]
def cX.wf (v:cX):Prop:=ru v.view∧ru v.height∧Sz v.block.length∧ru v.who∧Sz v.tag.length
def yl (a b:cX):Bool:=decide (a.view=b.view) && decide (a.height=b.height) && decide (a.block=b.block) && decide (a.who=b.who) && decide (a.tag=b.tag)
end Go.Eng.F
namespace Go.Eng.F
def cur (b:Bytes) (i:Nat) (h:Int):List E0:= [.p (.sl (bytes b)), .p (.int .i64 (i:Int)), .p (.int .i64 h)]
theorem AK (k v ty:Nat) (xs:List E0) (r:List E):aO k v (.pt ty xs::r)=(.pt k v 0::(aO (k+(1+xs.length)) (v+(1+xs.length)) r).1,(k, .pt v ty (aU (k+1) (v+1) xs).1)::((aU (k+1) (v+1) xs).2++(aO (k+(1+xs.length)) (v+(1+xs.length)) r).2)):=rfl
theorem tm {N:Int} (h:0≤N) {n:Nat} (hn:n≠0):∃y:Nat,y < n∧N.tmod (n:Int)=(y:Int):=by
 obtain⟨m,rfl⟩:=Int.eq_ofNat_of_zero_le h
 exact⟨m % n,Nat.mod_lt _ (by omega),rfl⟩
def ao.e (l:ao):List E:= [.p (.int .i64 l.n), .p (.int .i64 l.tx), .p (.int .i64 l.txs), .p (.int .i64 l.frame), .p (.int .i64 l.heads)]
end Go.Eng.F
namespace Go.Eng.F
end Go.Eng.F
namespace Go.Eng.F
open Go.Eng.U (yx cZ TLimits fq oR ik)
def FC (l:ao) (t:List Bytes):Bool:=t.all fun x=>decide ((x.length:Int)≤l.tx)
def iX (l:ao) (x:Block):Bool:=eE l x.head && decide ((x.txs.length:Int)≤l.txs) && FC l x.txs && decide (x.head.root=br x.txs)
end Go.Eng.F
namespace Go.Eng.F
open Go.Eng.U (yx cZ TLimits fq u4 iu og TPush KW fk oR)
structure Entry where
 who:Int
 high:Int
 tag:Bytes
def Entry.c (r:Entry):List D:= [.int .i64 r.who, .int .i64 r.high, .sl (bytes r.tag)]
def Entry.wf (r:Entry):Prop:=ru r.who∧ru r.high∧Sz r.tag.length
structure Tc where
 view:Int
 entries:List Entry
def zY (l:List Entry):List (List D):=l.map Entry.c
theorem F8 (l:List Entry):(zY l).length=l.length:=by simp[zY]
def Tc.c (t:Tc):List D:= [.int .i64 t.view, .sl (zY t.entries)]
def Tc.wf (t:Tc):Prop:=ru t.view∧Sz t.entries.length∧∀r∈t.entries,r.wf
def Entry.tv (x:Entry):Tv:= .r [.i x.who, .i x.high,lO x.tag]
theorem Entry.enc (x:Entry):enc fk x.tv=x.c:=by simp only[Entry.tv,eP,cc,cT,dS,eW,gB,gx,dY,gJ,Entry.c,List.cons_append,List.nil_append,List.append_assoc]
theorem Entry.ex {v:Tv} (h:aB fk v):∃x:Entry,v=x.tv:=by
 obtain⟨vs,rfl,h⟩:=h.st
 obtain⟨v0,_,rfl,h0,h⟩:=h.step
 obtain⟨v1,_,rfl,h1,h⟩:=h.step
 obtain⟨v2,_,rfl,h2,h⟩:=h.step
 obtain rfl:=h.fin
 obtain⟨n0,rfl,_⟩:=h0.int
 obtain⟨n1,rfl,_⟩:=h1.int
 obtain⟨n2,rfl⟩:=gU h2
 exact⟨⟨n0,n1,n2⟩,rfl⟩
theorem Entry.of {x:Entry} (h:aB fk x.tv) (hw:wt x.tv≤1048576):x.wf:=by
 simp only[Entry.tv,c8,ba]at h
 simp only[Entry.tv,wt,fB]at hw
 obtain⟨h0,h1,h2,_⟩:=h
 exact⟨eC (ok_int.1 h0),eC (ok_int.1 h1),qy (by omega)⟩
theorem Entry.wf.tok {x:Entry} (h:x.wf):aB fk x.tv:=by
 simp only[Entry.tv,c8,ba]
 obtain⟨h0,h1,h2⟩:=h
 exact⟨dQ h0,dQ h1,pT h2,eK.2 trivial⟩
def wD (l:List Entry):Tv:= .l (l.map Entry.tv)
theorem KF (l:List Entry):enc (.sl fk) (wD l)= [.sl (zY l)]:=by
 simp only[wD,yg,List.map_map,zY]
 congr 2
 exact List.map_congr_left fun x _=>Entry.enc x
theorem K9 {v:Tv} (h:aB (.sl fk) v):∃l,v=wD l:=by
 obtain⟨xs,rfl,_,h2⟩:=h.sl
 obtain⟨ys,rfl⟩:=om (f:=Entry.tv) (P:=aB fk) (fun v hv=>Entry.ex hv) h2
 exact⟨ys,rfl⟩
theorem Np {l:List Entry} (h:aB (.sl fk) (wD l)) (hw:wt (wD l)≤1048576):Sz l.length∧∀x∈l,x.wf:=by
 unfold wD at h hw
 rw[B5]at hw
 have h2:=(wX.1 h).2
 simp only[List.length_map]at hw
 refine⟨by unfold Sz;omega,fun x hx=>Entry.of (h2 _ (List.mem_map_of_mem hx)) ?_⟩
 have:=rD (f:=Entry.tv) hx
 omega
theorem Kl {l:List Entry} (h:Sz l.length∧∀x∈l,x.wf):aB (.sl fk) (wD l):=by
 unfold wD
 refine wX.2 ⟨by have:=h.1;unfold Sz at this;rw[List.length_map,ig];omega,fun v hv=> ?_⟩
 obtain⟨x,hx,rfl⟩:=List.mem_map.1 hv
 exact(h.2 x hx).tok
def Tc.tv (x:Tc):Tv:= .r [.i x.view,wD x.entries]
theorem Tc.enc (x:Tc):enc KW x.tv=x.c:=by simp only[Tc.tv,KF,eP,cc,cT,dS,eW,gB,gx,dY,gJ,Tc.c,List.cons_append,List.nil_append,List.append_assoc]
theorem Tc.ex {v:Tv} (h:aB KW v):∃x:Tc,v=x.tv:=by
 obtain⟨vs,rfl,h⟩:=h.st
 obtain⟨v0,_,rfl,h0,h⟩:=h.step
 obtain⟨v1,_,rfl,h1,h⟩:=h.step
 obtain rfl:=h.fin
 obtain⟨n0,rfl,_⟩:=h0.int
 obtain⟨n1,rfl⟩:=K9 h1
 exact⟨⟨n0,n1⟩,rfl⟩
theorem Tc.of {x:Tc} (h:aB KW x.tv) (hw:wt x.tv≤1048576):x.wf:=by
 simp only[Tc.tv,c8,ba]at h
 simp only[Tc.tv,wt,fB]at hw
 obtain⟨h0,h1,_⟩:=h
 exact⟨eC (ok_int.1 h0),Np h1 (by omega)⟩
theorem Tc.wf.tok {x:Tc} (h:x.wf):aB KW x.tv:=by
 simp only[Tc.tv,c8,ba]
 obtain⟨h0,h1⟩:=h
 exact⟨dQ h0,Kl h1,eK.2 trivial⟩
end Go.Eng.F
namespace Go.Eng.F
def wP (a b:Qc):Bool:=decide (a.view=b.view) && decide (a.height=b.height) && decide (a.block=b.block) && decide (a.bits=b.bits) && decide (a.tags=b.tags)
def nI (a b:Head):Bool:=decide (a.view=b.view) && decide (a.height=b.height) && decide (a.proposer=b.proposer) && decide (a.parent=b.parent) && decide (a.root=b.root) && wP a.qc b.qc
def tG (a b:Block):Bool:=nI a.head b.head && decide (a.txs=b.txs)
structure ck where
 height:Int
 n:Int
 idx:Int
 tx:Bytes
 path:List Bytes
def ck.c (x:ck):List D:= [.int .i64 x.height, .int .i64 x.n, .int .i64 x.idx, .sl (bytes x.tx), .sl (dN x.path)]
def ck.wc (x:ck):Prop:=ru x.height∧ru x.n∧ru x.idx∧Sz x.tx.length∧Fx x.path
def ck.o (x:ck):List E:= [.p (.int .i64 x.height), .p (.int .i64 x.n), .p (.int .i64 x.idx), .o true (some (5,1)) (bytes x.tx), .o true (some (24,1)) (dN x.path)]
def xv (a b:ck):Bool:=decide (a.height=b.height) && decide (a.n=b.n) && decide (a.idx=b.idx) && decide (a.tx=b.tx) && decide (a.path=b.path)
def wu {α:Type} (f:α→α→Bool) (a b:List α):Bool:=decide (a.length=b.length) && (List.range b.length).all fun i=>match a[i]?,b[i]? with|some x,some y=>f x y|_,_=>false
def Al (a b:List Head):Bool:=wu nI a b
def tk (a b:Proof):Bool:=Al a.heads b.heads && wP a.qc b.qc
def AW (a b:Entry):Bool:=decide (a.who=b.who) && decide (a.high=b.high) && decide (a.tag=b.tag)
def Ei (a b:Tc):Bool:=decide (a.view=b.view) && wu AW a.entries b.entries
end Go.Eng.F
namespace Go.Eng.F
def zM (x:Bytes):Bytes:=ek x.length++x
def Bk (l:ao) (v:cX):Bool:=l.ok && isNum v.view && isNum v.height && hash v.block && hash v.tag && dK v.who 0 (l.n - 1)
def OX (v:cX):Bytes:=ek v.view.toNat++(ek v.height.toNat++(v.block++(ek v.who.toNat++v.tag)))
structure MK (v:cX):Prop where
 view:isNum v.view=true
 height:isNum v.height=true
 block:v.block.length=32
 who:isNum v.who=true
 tag:v.tag.length=32
theorem E5 {l:ao} {v:cX} (h:Bk l v=true):MK v:=by
 simp only[Bk,Bool.and_eq_true]at h
 have h1:=LI h.1.1.1.1.1
 have h2:=eM h.2
 exact⟨h.1.1.1.1.2,h.1.1.1.2,jT h.1.1.2,by simp[isNum,dK];omega,jT h.1.2⟩
def bE (i n:Nat):Nat:=if h:n < 2 then 0 else
 have:=fo (n:=n) (by omega)
 if i < splitAt n then 1+bE i (splitAt n)else 1+bE (i - splitAt n) (n - splitAt n)
termination_by n
theorem rj {i n:Nat} (h:n < 2):bE i n=0:=by rw[bE,dif_pos h]
theorem uB {i n:Nat} (h:2≤n) (hi:i < splitAt n):bE i n=1+bE i (splitAt n):=by rw[bE,dif_neg (by omega),if_pos hi]
theorem tg {i n:Nat} (h:2≤n) (hi:¬i < splitAt n):bE i n=1+bE (i - splitAt n) (n - splitAt n):=by rw[bE,dif_neg (by omega),if_neg hi]
theorem dk:∀(n i:Nat),bE i n≤n:=by
 intro n
 induction n using Nat.strongRecOn with
 |ind n ih=>
 intro i
 rcases Nat.lt_or_ge n 2 with h|h
 ·rw[rj h];omega
 ·have h1:=fo h
  by_cases hi:i < splitAt n
  ·rw[uB h hi];have:=ih (splitAt n) h1.2 i;omega
  ·rw[tg h hi];have:=ih (n - splitAt n) (by omega) (i - splitAt n);omega
abbrev nk:Nat:=284
def mT:AF:=⟨2,6,[.tmp 4],(.seq (.ops [.i (.mov 4 (qi 0))]) (.seq (.seq (.ops [qm 6 1, .i (.bin 7 .lss (.s 6) (qi 2)),qm 8 7, .g 8 false 10 (.mov 9 (.s 1)), .g 8 false 11 (.bin 10 .gtr (.s 9) (qi 1048576)), .i (.pick 11 (.s 8) (qb true) (.s 10)),qm 12 11, .g 12 false 14 (.mov 13 (.s 0)), .g 12 false 15 (.mov 14 (.s 1)), .g 12 false 16 (.bin 15 .sub (.s 14) (qi 1)), .g 12 false 17 (.call 17 103 false [(.s 13),(qi 0),(.s 15)]), .g 12 false 18 (.not 17 (.s 16)), .i (.pick 18 (.s 12) (qb true) (.s 17))]) (.cond (.s 18) (.seq (.ops [.i (.mov 4 (qi 0))]) .ret) .skip)) (.seq (.ops [qm 19 1,qk 21 313 19,qm 5 20]) (.seq (.seq (.ops [qm 21 0,qm 22 5,qd 23 .lss 21 22]) (.cond (.s 23) (.seq (.ops [qm 24 0,qm 25 5, .i (.call 27 284 false [(.s 24),(.s 25)]), .i (.bin 27 .add (qi 1) (.s 26)),qm 4 27]) .ret) .skip)) (.seq (.ops [qm 28 0,qm 29 5,qd 30 .sub 28 29,qm 31 1,qm 32 5,qd 33 .sub 31 32, .i (.call 35 284 false [(.s 30),(.s 33)]), .i (.bin 35 .add (qi 1) (.s 34)),qm 4 35]) .ret)))))⟩
theorem wL:cd nk=some mT:=by kernel_rfl
theorem vq:∀(n i:Nat),i < n→n≤1048576→VC cd nk (bI [(false,[.int .i64 (i:Int)]),(false,[.int .i64 (n:Int)])]) (fun rs _=>rs=it (bE i n)):=by
 intro n
 induction n using Nat.strongRecOn with
 |ind n ih=>
 intro i hi hn
 have hp:=dk n i
 have he:dK (i:Int) 0 ((n:Int) - 1)=true:=by simp only[dK,decide_eq_true_eq];omega
 refine aa wL rfl ?_
 simp(disch:=omega) [mT,VY]
 refine aj (fun h1=> ?_) (fun h1=> ?_)
 ·simp(disch:=omega) [h1,rj (i:=i) (n:=n) (by omega),VY]
 have h2:2≤n:=by omega
 obtain⟨k1,k2⟩:=fo h2
 simp(disch:=omega) [h1,VY]
 refine aj (fun h3=> ?_) (fun h3=> ?_)
 ·omega
 simp(disch:=omega) [h1,h3,VY]
 refine cI (bu (i:Int) 0 ((n:Int) - 1)) ?_
 simp(disch:=omega) [h1,h3,he,VY]
 refine cI (kY n (by omega)) ?_
 simp(disch:=omega) [VY]
 refine aj (fun h4=> ?_) (fun h4=> ?_)
 ·have h5:i < splitAt n:=by omega
  have h6:=uB h2 h5
  simp(disch:=omega) [h4,VY]
  refine cI (ih (splitAt n) k2 i h5 (by omega)) ?_
  have h7:=dk (splitAt n) i
  simp(disch:=omega) [h6,VY]
 ·have h5:¬i < splitAt n:=by omega
  have h6:=tg h2 h5
  have t1:(i:Int) - (splitAt n:Int)=((i - splitAt n:Nat):Int):=by omega
  have t2:(n:Int) - (splitAt n:Int)=((n - splitAt n:Nat):Int):=by omega
  simp(disch:=omega) [h4,t1,t2,VY]
  refine cI (ih (n - splitAt n) (by omega) (i - splitAt n) (by omega) (by omega)) ?_
  have h7:=dk (n - splitAt n) (i - splitAt n)
  simp(disch:=omega) [h6,VY]
abbrev sx:Nat:=273
def sC:AF:=⟨2,4,[.tmp 4],(.seq (.ops [.i (.mov 4 (qb false))]) (.seq (.ops [qm 5 1, .i (.call 7 67 false [(.s 5),(qi 1),(qi 1048576)]),qm 7 6, .g 7 true 9 (.mov 8 (.s 0)), .g 7 true 10 (.mov 9 (.s 1)), .g 7 true 11 (.bin 10 .sub (.s 9) (qi 1)), .g 7 true 12 (.call 12 67 false [(.s 8),(qi 0),(.s 10)]), .i (.pick 12 (.s 7) (.s 11) (qb false)),qm 4 12]) .ret))⟩
theorem Au:cd sx=some sC:=by kernel_rfl
theorem IK (i n:Nat) (hn:n≤1048576):VC cd sx (bI [(false,[.int .i64 (i:Int)]),(false,[.int .i64 (n:Int)])]) (fun rs _=>rs=bl (dK (n:Int) 1 1048576 && dK (i:Int) 0 ((n:Int) - 1))):=by
 refine aa Au rfl ?_
 simp(disch:=omega) [sC,VY]
 refine cI (dB (n:Int) 1 1048576) ?_
 simp(disch:=omega) [VY]
 refine dO (fun h1=> ?_) (fun h1=> ?_) <;>simp(disch:=omega) [h1,VY]
 refine cI (dB (i:Int) 0 ((n:Int) - 1)) ?_
 simp(disch:=omega) [h1,VY]
abbrev nL:Nat:=193
def nV:AF:=⟨2,5,[.tmp 4],(.seq (.ops [.i (.mov 4 (qi 0))]) (.seq (.seq (.ops [qm 6 0,qm 7 1, .i (.call 9 273 false [(.s 6),(.s 7)]), .i (.not 9 (.s 8)),qm 10 9, .g 10 false 12 (.mov 11 (.s 1)), .g 10 false 13 (.bin 12 .eql (.s 11) (qi 1)), .i (.pick 13 (.s 10) (qb true) (.s 12))]) (.cond (.s 13) (.seq (.ops [.i (.mov 4 (qi 0))]) .ret) .skip)) (.seq (.ops [qm 14 1,qk 16 271 14,qm 5 15]) (.seq (.seq (.ops [qm 16 0,qm 17 5,qd 18 .lss 16 17]) (.cond (.s 18) (.seq (.ops [qm 19 0,qm 20 5, .i (.call 22 193 false [(.s 19),(.s 20)]), .i (.bin 22 .add (qi 1) (.s 21)),qm 4 22]) .ret) .skip)) (.seq (.ops [qm 23 0,qm 24 5,qd 25 .sub 23 24,qm 26 1,qm 27 5,qd 28 .sub 26 27, .i (.call 30 193 false [(.s 25),(.s 28)]), .i (.bin 30 .add (qi 1) (.s 29)),qm 4 30]) .ret)))))⟩
theorem xm:cd nL=some nV:=by kernel_rfl
theorem vR:∀(n i:Nat),i < n→n≤1048576→VC cd nL (bI [(false,[.int .i64 (i:Int)]),(false,[.int .i64 (n:Int)])]) (fun rs _=>rs=it (bE i n)):=by
 intro n
 induction n using Nat.strongRecOn with
 |ind n ih=>
 intro i hi hn
 have hp:=dk n i
 have he:dK (i:Int) 0 ((n:Int) - 1)=true:=by simp only[dK,decide_eq_true_eq];omega
 have he2:dK (n:Int) 1 1048576=true:=by simp only[dK,decide_eq_true_eq];omega
 refine aa xm rfl ?_
 simp(disch:=omega) [nV,VY]
 refine cI (IK i n hn) ?_
 simp(disch:=omega) [he,he2,VY]
 refine aj (fun h1=> ?_) (fun h1=> ?_)
 ·simp(disch:=omega) [h1,rj (i:=i) (n:=n) (by omega),VY]
 have h2:2≤n:=by omega
 obtain⟨k1,k2⟩:=fo h2
 simp(disch:=omega) [h1,VY]
 refine cI (lC n (by omega)) ?_
 simp(disch:=omega) [VY]
 refine aj (fun h4=> ?_) (fun h4=> ?_)
 ·have h5:i < splitAt n:=by omega
  have h6:=uB h2 h5
  simp(disch:=omega) [h4,VY]
  refine cI (ih (splitAt n) k2 i h5 (by omega)) ?_
  have h7:=dk (splitAt n) i
  simp(disch:=omega) [h6,VY]
 ·have h5:¬i < splitAt n:=by omega
  have h6:=tg h2 h5
  have t1:(i:Int) - (splitAt n:Int)=((i - splitAt n:Nat):Int):=by omega
  have t2:(n:Int) - (splitAt n:Int)=((n - splitAt n:Nat):Int):=by omega
  simp(disch:=omega) [h4,t1,t2,VY]
  refine cI (ih (n - splitAt n) (by omega) (i - splitAt n) (by omega) (by omega)) ?_
  have h7:=dk (n - splitAt n) (i - splitAt n)
  simp(disch:=omega) [h6,VY]
def nB (l:ao) (x:ck):Bool:=l.ok && isNum x.height && dK x.n 1 l.txs && dK x.idx 0 (x.n - 1) && decide ((x.tx.length:Int)≤l.tx) && decide (x.path.length=bE x.idx.toNat x.n.toNat) && hashes x.path
def E9 (x:ck):Bytes:=ek x.height.toNat++(ek x.n.toNat++(ek x.idx.toNat++(zM x.tx++x.path.flatten)))
def FX (l:ao) (t:Tc) (i:Nat):Bool:=match t.entries[i]? with
 |some e=>dK e.who 0 (l.n - 1) && dK e.high 0 (t.view - 1) && hash e.tag && (decide (i=0)||match t.entries[i - 1]? with|some d=>decide (d.who < e.who)|none=>false)
 |none=>false
def CT (l:ao) (t:Tc):Bool:=l.ok && isNum t.view && decide ((t.entries.length:Int)≤l.n) && (List.range t.entries.length).all (FX l t)
def OH (e:Entry):Bytes:=ek e.who.toNat++(ek e.high.toNat++e.tag)
def OV (t:Tc):Bytes:=ek t.view.toNat++(ek t.entries.length++(t.entries.map OH).flatten)
def AN (x:Block):Bytes:=ry x.head++(ek x.txs.length++(x.txs.map zM).flatten)
def Bj (p:Proof):Bytes:=ek p.heads.length++((p.heads.map ry).flatten++MW p.qc)
end Go.Eng.F
namespace Go.Eng.F
structure cg where
 kind:Int
 vote:cX
 qc:Qc
 head:Head
 block:Block
 tc:Tc
 proof:Proof
 incl:ck
def cg.c (m:cg):List D:= [.int .i64 m.kind, .int .i64 m.vote.view, .int .i64 m.vote.height, .sl (bytes m.vote.block), .int .i64 m.vote.who, .sl (bytes m.vote.tag), .int .i64 m.qc.view, .int .i64 m.qc.height, .sl (bytes m.qc.block), .sl (bytes m.qc.bits), .sl (dN m.qc.tags), .int .i64 m.head.view, .int .i64 m.head.height, .int .i64 m.head.proposer, .sl (bytes m.head.parent), .sl (bytes m.head.root), .int .i64 m.head.qc.view, .int .i64 m.head.qc.height, .sl (bytes m.head.qc.block), .sl (bytes m.head.qc.bits), .sl (dN m.head.qc.tags), .int .i64 m.block.head.view, .int .i64 m.block.head.height, .int .i64 m.block.head.proposer, .sl (bytes m.block.head.parent), .sl (bytes m.block.head.root), .int .i64 m.block.head.qc.view, .int .i64 m.block.head.qc.height, .sl (bytes m.block.head.qc.block), .sl (bytes m.block.head.qc.bits), .sl (dN m.block.head.qc.tags), .sl (dN m.block.txs), .int .i64 m.tc.view, .sl (zY m.tc.entries), .sl (ud m.proof.heads), .int .i64 m.proof.qc.view, .int .i64 m.proof.qc.height, .sl (bytes m.proof.qc.block), .sl (bytes m.proof.qc.bits), .sl (dN m.proof.qc.tags), .int .i64 m.incl.height, .int .i64 m.incl.n, .int .i64 m.incl.idx, .sl (bytes m.incl.tx), .sl (dN m.incl.path)]
def Block.wx (x:Block):Prop:=x.wc∧∀t∈x.txs,t.length≤100000000
structure cg.wc (m:cg):Prop where
 kind:ru m.kind
 vote:m.vote.wf
 qc:m.qc.wc
 head:m.head.wc
 block:m.block.wx
 tc:m.tc.wf
 proof:m.proof.wc
 incl:m.incl.wc
 tx:m.incl.tx.length≤100000000
def bm:cX:=⟨0,0,[],0,[]⟩
def gw:Qc:=⟨0,0,[],[],[]⟩
def bh:Head:=⟨0,0,0,[],[],gw⟩
def aJ:Block:=⟨bh,[]⟩
def gC:Tc:=⟨0,[]⟩
def aK:Proof:=⟨[],gw⟩
def bk:ck:=⟨0,0,0,[],[]⟩
def ay:cg:=⟨0,bm,gw,bh,aJ,gC,aK,bk⟩
theorem ic:ay.wc:=by
 constructor <;>simp[ay,bm,gw,bh,aJ,gC,aK,bk,ru,Sz,cX.wf,Qc.wc,Qc.wf,Head.wc,Head.wf,Block.wx,Block.wc,Fx,Tc.wf,Proof.wc,Proof.wf,Bf,ck.wc]
def BX (a b:cg):Bool:=decide (a.kind=b.kind) && yl a.vote b.vote && wP a.qc b.qc && nI a.head b.head && tG a.block b.block && Ei a.tc b.tc && tk a.proof b.proof && xv a.incl b.incl
def gD (m:cg):cg:=if m.kind=1 then {ay with kind:=1,vote:=m.vote}else if m.kind=2 then {ay with kind:=2,qc:=m.qc}else if m.kind=3 then {ay with kind:=3,head:=m.head}else if m.kind=4 then {ay with kind:=4,block:=m.block}else if m.kind=5 then {ay with kind:=5,tc:=m.tc}else if m.kind=6 then {ay with kind:=6,proof:=m.proof}else if m.kind=7 then {ay with kind:=7,incl:=m.incl}else ay
def dD (l:ao) (m:cg):Bool:=if m.kind=1 then Bk l m.vote else if m.kind=2 then mV l m.qc else if m.kind=3 then eE l m.head else if m.kind=4 then iX l m.block else if m.kind=5 then CT l m.tc else if m.kind=6 then iT l m.proof else if m.kind=7 then nB l m.incl else false
def ep (m:cg):Bytes:=if m.kind=1 then OX m.vote else if m.kind=2 then MW m.qc else if m.kind=3 then ry m.head else if m.kind=4 then AN m.block else if m.kind=5 then OV m.tc else if m.kind=6 then Bj m.proof else E9 m.incl
theorem nF {l:ao} {m:cg} (h:dD l m=true):m.kind=1∨m.kind=2∨m.kind=3∨m.kind=4∨m.kind=5∨m.kind=6∨m.kind=7:=by
 unfold dD at h
 repeat' split at h
 all_goals first|(simp at h;done)|omega
def eO (l:ao) (m:cg):Bool:=dD l m && BX m (gD m)
end Go.Eng.F
namespace Go.Eng.F
open Go.Eng.U (yx cZ TLimits uO ik KW fq uN oR)
def cX.tv (x:cX):Tv:= .r [.i x.view, .i x.height,lO x.block, .i x.who,lO x.tag]
theorem cX.enc (x:cX):enc uO x.tv=x.c:=by simp only[cX.tv,eP,cc,cT,dS,eW,gB,gx,dY,gJ,cX.c,List.cons_append,List.nil_append,List.append_assoc]
theorem cX.ex {v:Tv} (h:aB uO v):∃x:cX,v=x.tv:=by
 obtain⟨vs,rfl,h⟩:=h.st
 obtain⟨v0,_,rfl,h0,h⟩:=h.step
 obtain⟨v1,_,rfl,h1,h⟩:=h.step
 obtain⟨v2,_,rfl,h2,h⟩:=h.step
 obtain⟨v3,_,rfl,h3,h⟩:=h.step
 obtain⟨v4,_,rfl,h4,h⟩:=h.step
 obtain rfl:=h.fin
 obtain⟨n0,rfl,_⟩:=h0.int
 obtain⟨n1,rfl,_⟩:=h1.int
 obtain⟨n2,rfl⟩:=gU h2
 obtain⟨n3,rfl,_⟩:=h3.int
 obtain⟨n4,rfl⟩:=gU h4
 exact⟨⟨n0,n1,n2,n3,n4⟩,rfl⟩
theorem cX.of {x:cX} (h:aB uO x.tv) (hw:wt x.tv≤1048576):x.wf:=by
 simp only[cX.tv,c8,ba]at h
 simp only[cX.tv,wt,fB]at hw
 obtain⟨h0,h1,h2,h3,h4,_⟩:=h
 exact⟨eC (ok_int.1 h0),eC (ok_int.1 h1),qy (by omega),eC (ok_int.1 h3),qy (by omega)⟩
theorem cX.wf.tok {x:cX} (h:x.wf):aB uO x.tv:=by
 simp only[cX.tv,c8,ba]
 obtain⟨h0,h1,h2,h3,h4⟩:=h
 exact⟨dQ h0,dQ h1,pT h2,dQ h3,pT h4,eK.2 trivial⟩
def ck.tv (x:ck):Tv:= .r [.i x.height, .i x.n, .i x.idx,lO x.tx,j5 x.path]
theorem ck.enc (x:ck):enc uN x.tv=x.c:=by simp only[ck.tv,eP,cc,cT,dS,eW,gB,gx,dY,gJ,ck.c,List.cons_append,List.nil_append,List.append_assoc]
theorem ck.ex {v:Tv} (h:aB uN v):∃x:ck,v=x.tv:=by
 obtain⟨vs,rfl,h⟩:=h.st
 obtain⟨v0,_,rfl,h0,h⟩:=h.step
 obtain⟨v1,_,rfl,h1,h⟩:=h.step
 obtain⟨v2,_,rfl,h2,h⟩:=h.step
 obtain⟨v3,_,rfl,h3,h⟩:=h.step
 obtain⟨v4,_,rfl,h4,h⟩:=h.step
 obtain rfl:=h.fin
 obtain⟨n0,rfl,_⟩:=h0.int
 obtain⟨n1,rfl,_⟩:=h1.int
 obtain⟨n2,rfl,_⟩:=h2.int
 obtain⟨n3,rfl⟩:=gU h3
 obtain⟨n4,rfl⟩:=Aw h4
 exact⟨⟨n0,n1,n2,n3,n4⟩,rfl⟩
theorem ck.of {x:ck} (h:aB uN x.tv) (hw:wt x.tv≤1048576):x.wc:=by
 simp only[ck.tv,c8,ba]at h
 simp only[ck.tv,wt,fB]at hw
 obtain⟨h0,h1,h2,h3,h4,_⟩:=h
 exact⟨eC (ok_int.1 h0),eC (ok_int.1 h1),eC (ok_int.1 h2),qy (by omega),E3 (by omega)⟩
theorem ck.wc.tok {x:ck} (h:x.wc):aB uN x.tv:=by
 simp only[ck.tv,c8,ba]
 obtain⟨h0,h1,h2,h3,h4⟩:=h
 exact⟨dQ h0,dQ h1,dQ h2,pT h3,EF h4.1 h4.2,eK.2 trivial⟩
def cg.tv (m:cg):Tv:= .r [.i m.kind,m.vote.tv,m.qc.tv,m.head.tv,m.block.tv,m.tc.tv,m.proof.tv,m.incl.tv]
theorem cg.enc (m:cg):enc oR m.tv=m.c:=by simp only[cg.tv,eP,cc,cT,dS,cX.enc,Qc.enc,Head.enc,Block.enc,Tc.enc,Proof.enc,ck.enc,cg.c,cX.c,Qc.c,Head.c,Block.c,Tc.c,Proof.c,ck.c,List.cons_append,List.nil_append,List.append_assoc,List.append_nil]
theorem cg.ex {v:Tv} (h:aB oR v):∃m:cg,v=m.tv:=by
 obtain⟨vs,rfl,h⟩:=h.st
 obtain⟨v0,_,rfl,h0,h⟩:=h.step
 obtain⟨v1,_,rfl,h1,h⟩:=h.step
 obtain⟨v2,_,rfl,h2,h⟩:=h.step
 obtain⟨v3,_,rfl,h3,h⟩:=h.step
 obtain⟨v4,_,rfl,h4,h⟩:=h.step
 obtain⟨v5,_,rfl,h5,h⟩:=h.step
 obtain⟨v6,_,rfl,h6,h⟩:=h.step
 obtain⟨v7,_,rfl,h7,h⟩:=h.step
 obtain rfl:=h.fin
 obtain⟨n0,rfl,_⟩:=h0.int
 obtain⟨n1,rfl⟩:=cX.ex h1
 obtain⟨n2,rfl⟩:=Qc.ex h2
 obtain⟨n3,rfl⟩:=Head.ex h3
 obtain⟨n4,rfl⟩:=Block.ex h4
 obtain⟨n5,rfl⟩:=Tc.ex h5
 obtain⟨n6,rfl⟩:=Proof.ex h6
 obtain⟨n7,rfl⟩:=ck.ex h7
 exact⟨⟨n0,n1,n2,n3,n4,n5,n6,n7⟩,rfl⟩
theorem cg.of {m:cg} (h:aB oR m.tv) (hw:wt m.tv≤1048576):m.wc:=by
 simp only[cg.tv,c8,ba]at h
 simp only[cg.tv,wt,fB]at hw
 obtain⟨h0,h1,h2,h3,h4,h5,h6,h7,_⟩:=h
 have hb:wt m.block.tv=wt m.block.head.tv+(wt (j5 m.block.txs)+0):=by simp only[Block.tv,wt,fB]
 have hi:wt m.incl.tv=0+(0+(0+(wt (lO m.incl.tx)+(wt (j5 m.incl.path)+0)))):=by simp only[ck.tv,wt,fB]
 refine⟨eC (ok_int.1 h0),cX.of h1 (by omega),Qc.of h2 (by omega),Head.of h3 (by omega),⟨Block.of h4 (by omega),fun t ht=> ?_⟩,Tc.of h5 (by omega),Proof.PG h6 (by omega),ck.of h7 (by omega),?_⟩
 ·have:=(HM m.block.txs).2 t ht
  omega
 ·rw[iP]at hi
  omega
end Go.Eng.F
namespace Go.Eng.F
open Go.Eng.U (cZ TLimits oR)
def fW (m:cg):UInt8:=UInt8.ofNat m.kind.toNat
theorem xH {l:ao} {m:cg} (h:eO l m=true):dD l m=true:=by
 simp only[eO,Bool.and_eq_true]at h
 exact h.1
end Go.Eng.F
namespace Go.Eng.F
def gv:Bytes→Nat→Nat→Nat×Nat×Nat
 | [],_,_=>(0,0,1)
 |c::r,k,n=>
  if(0 < k∧c.toNat=0)∨(k=8∧128≤c.toNat)then(0,0,2)
  else if c.toNat < 128 then(if n+c.toNat * 128 ^ k≤1152921504606846975 then(n+c.toNat * 128 ^ k,k+1,0)else(0,0,2))
  else gv r (k+1) (n+(c.toNat - 128) * 128 ^ k)
structure Rd where
 at_:Nat
 er:Nat
def getVar (b:Bytes) (a:Nat):Nat×Rd:=
 let x:=gv (b.drop a) 0 0
 if x.2.2=0 then(x.1,⟨a+x.2.1,0⟩)else(0,⟨0,x.2.2⟩)
def db (b:Bytes) (a n:Nat):Bytes×Rd:=if a+n≤b.length then((b.drop a).take n,⟨a+n,0⟩)else([],⟨0,1⟩)
def ej (b:Bytes) (a m:Nat):Bytes×Rd:=
 let x:=getVar b a
 if x.2.er≠0 then([],⟨0,x.2.er⟩)else if m < x.1 then([],⟨0,3⟩)else db b x.2.at_ x.1
def bF (b:Bytes) (a:Nat) (n:Int):Bytes×Rd:=
 let x:=db b a (uU n).toNat
 if x.2.er≠0 then([],⟨0,x.2.er⟩)else if ef x.1 n then x else([],⟨0,4⟩)
def aM (b:Bytes) (r:Rd):Nat×Rd:=if r.er=0 then getVar b r.at_ else(0,r)
def aw (r:Rd) (bad:Bool) (c:Nat):Rd:=if r.er=0∧bad=true then⟨r.at_,c⟩else r
def aL (b:Bytes) (r:Rd) (n:Int) (c:Nat):Nat×Rd:=((aM b r).1,aw (aM b r).2 (decide (n≤((aM b r).1:Int))) c)
def aY (b:Bytes) (r:Rd) (n:Nat):Bytes×Rd:=if r.er=0 then db b r.at_ n else([],r)
def bW (b:Bytes) (r:Rd) (m:Nat):Bytes×Rd:=if r.er=0 then ej b r.at_ m else([],r)
def Rd.wf (b:Bytes) (r:Rd):Prop:=r.at_≤b.length∧r.er≤9
theorem L8:∀(s:Bytes) (k n:Nat),k≤8→(gv s k n).2.1≤k+s.length∧(gv s k n).2.2≤2∧(gv s k n).1≤1152921504606846975∧((gv s k n).2.2=0→k < (gv s k n).2.1)
 | [],k,n,h=>by simp[gv]
 |c::r,k,n,h=>by
  rw[gv]
  split
  ·simp
  ·rename_i h1
   split
   ·split
    ·rename_i h3;simp only[List.length_cons];omega
    ·simp
   ·rename_i h2
    have:=L8 r (k+1) (n+(c.toNat - 128) * 128 ^ k) (by omega)
    simp only[List.length_cons]
    omega
theorem oF {b:Bytes} {a:Nat} (h:a≤b.length):(getVar b a).2.wf b∧(getVar b a).1≤1152921504606846975:=by
 have h1:=L8 (b.drop a) 0 0 (by omega)
 simp only[List.length_drop]at h1
 simp only[getVar]
 split
 ·exact⟨⟨by simp only;omega,by simp⟩,h1.2.2.1⟩
 ·exact⟨⟨by simp,by simp only;omega⟩,by simp⟩
theorem ji (b:Bytes) (a n:Nat):(db b a n).2.wf b∧(db b a n).1.length≤n∧(db b a n).1.length≤b.length:=by
 unfold db
 split
 ·exact⟨⟨by simp only;omega,by simp⟩,by simp;omega,by simp;omega⟩
 ·exact⟨⟨by simp,by simp⟩,by simp,by simp⟩
theorem D8 {b:Bytes} {a m:Nat} (h:a≤b.length):(ej b a m).2.wf b∧(ej b a m).1.length≤m∧(ej b a m).1.length≤b.length:=by
 have h1:=oF h
 simp only[ej]
 split
 ·exact⟨⟨by simp,h1.1.2⟩,by simp,by simp⟩
 ·split
  ·exact⟨⟨by simp,by simp⟩,by simp,by simp⟩
  ·have:=ji b (getVar b a).2.at_ (getVar b a).1
   exact⟨this.1,by omega,this.2.2⟩
theorem Ef (b:Bytes) (a:Nat) (n:Int):(bF b a n).2.wf b∧(bF b a n).1.length≤b.length:=by
 have h1:=ji b a (uU n).toNat
 simp only[bF]
 split
 ·exact⟨⟨by simp,h1.1.2⟩,by simp⟩
 ·split
  ·exact⟨h1.1,h1.2.2⟩
  ·exact⟨⟨by simp,by simp⟩,by simp⟩
theorem aR {b:Bytes} {r:Rd} (h:r.wf b):(aM b r).2.wf b∧(aM b r).1≤1152921504606846975:=by
 unfold aM
 split
 ·exact oF h.1
 ·exact⟨h,by simp⟩
theorem aV {b:Bytes} {r:Rd} (h:r.wf b) {bad:Bool} {c:Nat} (hc:c≤9):(aw r bad c).wf b:=by
 unfold aw
 split
 ·exact⟨h.1,hc⟩
 ·exact h
theorem cN {b:Bytes} {r:Rd} (h:r.wf b) {n:Int} {c:Nat} (hc:c≤9):(aL b r n c).2.wf b∧(aL b r n c).1≤1152921504606846975:=⟨aV (aR h).1 hc,(aR h).2⟩
theorem bS {b:Bytes} {r:Rd} (h:r.wf b) (n:Nat):(aY b r n).2.wf b∧(aY b r n).1.length≤n∧(aY b r n).1.length≤b.length:=by
 unfold aY
 split
 ·exact ji b _ n
 ·exact⟨h,by simp,by simp⟩
theorem eX {b:Bytes} {r:Rd} (h:r.wf b) (m:Nat):(bW b r m).2.wf b∧(bW b r m).1.length≤m∧(bW b r m).1.length≤b.length:=by
 unfold bW
 split
 ·exact D8 h.1
 ·exact⟨h,by simp,by simp⟩
def Ce (x:Nat×Rd):List (Bool×List E):= [(false,[.p (.int .i64 (x.1:Int))]),(false,[.p (.int .i64 (x.2.at_:Int))]),(false,[.p (.int .i64 (x.2.er:Int))])]
def td (x:Bytes×Rd):List (Bool×List E):= [(false,[.o true (some (5,1)) (bytes x.1)]),(false,[.p (.int .i64 (x.2.at_:Int))]),(false,[.p (.int .i64 (x.2.er:Int))])]
theorem Fq {b:Bytes} {a k n:Nat} (h:a+k < b.length):gv (b.drop (a+k)) k n=(if(0 < k∧b[a+k].toNat=0)∨(k=8∧128≤b[a+k].toNat)then(0,0,2)
 else if b[a+k].toNat < 128 then(if n+b[a+k].toNat * 128 ^ k≤1152921504606846975 then(n+b[a+k].toNat * 128 ^ k,k+1,0)else(0,0,2))
 else gv (b.drop (a+k+1)) (k+1) (n+(b[a+k].toNat - 128) * 128 ^ k)):=by
 rw[List.drop_eq_getElem_cons h,gv]
theorem IY {b:Bytes} {a k n:Nat} (h:b.length≤a+k):gv (b.drop (a+k)) k n=(0,0,1):=by
 rw[List.drop_eq_nil_of_le h,gv]
end Go.Eng.F
namespace Go.Eng.F
def el {α:Type} (f:Rd→α×Rd):Nat→Rd→List α×Rd
 |0,r=>([],r)
 |k+1,r=>((f r).1::(el f k (f r).2).1,(el f k (f r).2).2)
def bj {α:Type} (f:Rd→α×Rd):Nat→Rd→List α×Rd
 |0,r=>([],r)
 |k+1,r=>if r.er=0 then((f r).1::(bj f k (f r).2).1,(bj f k (f r).2).2)else([],r)
theorem A6 {α:Type} {b:Bytes} {f:Rd→α×Rd} (h:∀r,r.wf b→(f r).2.wf b):∀(k:Nat) (r:Rd),r.wf b→(el f k r).2.wf b
 |0,r,hr=>hr
 |k+1,r,hr=>A6 h k _ (h r hr)
theorem xK {α:Type} {b:Bytes} {f:Rd→α×Rd} (h:∀r,r.wf b→(f r).2.wf b):∀(k:Nat) (r:Rd),r.wf b→(bj f k r).2.wf b
 |0,r,hr=>hr
 |k+1,r,hr=>by
  rw[bj]
  split
  ·exact xK h k _ (h r hr)
  ·exact hr
theorem sP {α:Type} {f:Rd→α×Rd}:∀(k:Nat) (r:Rd),(el f k r).1.length=k
 |0,r=>rfl
 |k+1,r=>by simp only[el,List.length_cons,sP k]
theorem CY {α:Type} {b:Bytes} {f:Rd→α×Rd} {p:α→Prop} (h:∀r,r.wf b→(f r).2.wf b∧p (f r).1):∀(k:Nat) (r:Rd),r.wf b→∀x∈(el f k r).1,p x
 |0,r,hr,x,hx=>by simp[el]at hx
 |k+1,r,hr,x,hx=>by
  simp only[el]at hx
  rcases List.mem_cons.1 hx with rfl|hx
  ·exact(h r hr).2
  ·exact CY h k _ (h r hr).1 x hx
theorem jv {α:Type} {b:Bytes} {f:Rd→α×Rd} {p:α→Prop} (h:∀r,r.wf b→(f r).2.wf b∧p (f r).1):∀(k:Nat) (r:Rd),r.wf b→∀x∈(bj f k r).1,p x
 |0,r,hr,x,hx=>by simp[bj]at hx
 |k+1,r,hr,x,hx=>by
  rw[bj]at hx
  split at hx
  ·rcases List.mem_cons.1 hx with rfl|hx
   ·exact(h r hr).2
   ·exact jv h k _ (h r hr).1 x hx
  ·cases hx
def eB (b:Bytes) (l:ao) (r:Rd):cX×Rd:=
 let v:=aM b r
 let h:=aM b v.2
 let k:=aY b h.2 32
 let w:=aL b k.2 l.n 5
 let t:=aY b w.2 32
 (⟨v.1,h.1,k.1,w.1,t.1⟩,t.2)
def jD (b:Bytes) (l:ao) (r:Rd):Qc×Rd:=
 let v:=aM b r
 let h:=aM b v.2
 let k:=aY b h.2 32
 if k.2.er=0 then
  let x:=bF b k.2.at_ l.n
  let t:=el (fun r=>aY b r 32) (aX x.1).length x.2
  (⟨v.1,h.1,k.1,x.1,t.1⟩,t.2)
 else(⟨v.1,h.1,k.1,[],[]⟩,k.2)
def bJ (b:Bytes) (l:ao) (r:Rd):Head×Rd:=
 let v:=aM b r
 let h:=aM b v.2
 let p:=aL b (aw h.2 (decide (h.1=0)) 5) l.n 5
 let pa:=aY b p.2 32
 let ro:=aY b pa.2 32
 let q:=jD b l ro.2
 (⟨v.1,h.1,p.1,pa.1,ro.1,q.1⟩,aw q.2 (!fits ⟨v.1,h.1,p.1,pa.1,ro.1,q.1⟩) 6)
def cm (b:Bytes) (l:ao) (r:Rd):Block×Rd:=
 let h:=bJ b l r
 let n:=aL b h.2 (l.txs+1) 3
 let x:=bj (fun r=>bW b r l.tx.toNat) n.1 n.2
 (⟨h.1,x.1⟩,aw x.2 (decide (h.1.root≠br x.1)) 7)
def eA (b:Bytes) (l:ao) (view:Int):Nat→Int→Rd→List Entry×Rd
 |0,_,r=>([],r)
 |k+1,bf,r=>if r.er=0 then
   let w:=aL b r l.n 5
   let h:=aL b (aw w.2 (decide ((w.1:Int)≤bf)) 6) view 6
   let t:=aY b h.2 32
   (⟨w.1,h.1,t.1⟩::(eA b l view k w.1 t.2).1,(eA b l view k w.1 t.2).2)
  else([],r)
def uo (b:Bytes) (l:ao) (r:Rd):Tc×Rd:=
 let v:=aM b r
 let n:=aL b v.2 (l.n+1) 3
 let e:=eA b l v.1 n.1 (-1) n.2
 (⟨v.1,e.1⟩,e.2)
def b7 (b:Bytes) (l:ao) (r:Rd):Proof×Rd:=
 let n:=aM b r
 let h:=bj (bJ b l) n.1 (aw (aw n.2 (decide (n.1 < 3)) 5) (decide (l.heads < (n.1:Int))) 3)
 let q:=jD b l h.2
 (⟨h.1,q.1⟩,aw q.2 (!kh ⟨h.1,q.1⟩) 6)
def bq (b:Bytes) (l:ao) (r:Rd):(Nat×Nat×Nat×Bytes)×Rd:=
 let h:=aM b r
 let n:=aM b h.2
 let a:=aL b (aw (aw n.2 (decide (n.1=0)) 5) (decide (l.txs < (n.1:Int))) 3) n.1 5
 let t:=bW b a.2 l.tx.toNat
 ((h.1,n.1,a.1,t.1),t.2)
def At (b:Bytes) (a:Nat) (s:Bytes):Prop:=∃t,b.drop a=s++t
theorem At.app {b:Bytes} {a:Nat} {s t:Bytes} (h:At b a (s++t)):At b a s∧At b (a+s.length) t:=by
 obtain⟨u,h⟩:=h
 refine⟨⟨t++u,by rw[h,List.append_assoc]⟩,u,?_⟩
 rw[←List.drop_drop,h,List.append_assoc,List.drop_left]
theorem At.len {b:Bytes} {a:Nat} {s:Bytes} (h:At b a s):a+s.length≤b.length∨s= []:=by
 obtain⟨u,h⟩:=h
 have h2:=congrArg List.length h
 simp only[List.length_drop,List.length_append]at h2
 by_cases hs:s= []
 ·exact .inr hs
 ·have:=List.length_pos_iff.2 hs
  exact .inl (by omega)
theorem At.take {b:Bytes} {a:Nat} {s:Bytes} (h:At b a s):(b.drop a).take s.length=s:=by
 obtain⟨u,h⟩:=h
 rw[h,List.take_left]
theorem Nr {n:Nat} (h:n < 256):(UInt8.ofNat n).toNat=n:=by simp[UInt8.toNat_ofNat'];omega
end Go.Eng.F
namespace Go.Eng.F
def au (b:Bytes) (r:Rd):List E0:= [.p (.sl (bytes b)), .p (.int .i64 (r.at_:Int)), .p (.int .i64 (r.er:Int))]
theorem gZ (b:Bytes) (a n:Nat) (ha:a≤b.length) (hb:b.length≤1073741824) (hn:n≤2000000000000000000):VC cd i7 (bI [(false,[.sl (bytes b)]),(false,[.int .i64 (a:Int)]),(false,[.int .i64 (n:Int)])]) (fun rs _=>rs=td (db b a n)):=by
 by_cases h:a+n≤b.length
 ·refine(mP b a n h hb).mono fun rs _ q=> ?_
  rw[q,td,db,if_pos h]
  rfl
 ·refine VC.gV ?_
  have e1:dK (a:Int) 0 (b.length:Int)=true:=by simp[dK];omega
  have e2:dK (n:Int) 0 ((b.length:Int) - (a:Int))=false:=by simp[dK];omega
  refine aa pA rfl ?_
  simp(disch:=omega) [ja,VY]
  refine ak (bu _ _ _) rfl rfl ?_
  simp(disch:=omega) [e1,VY]
  refine ak (bu _ _ _) rfl rfl ?_
  simp(disch:=omega) [e2,aH,aI,aN,ab,td,db,h,VY]
abbrev po:Nat:=264
def pZ:AF:=⟨3,6,[.tmp 6, .tmp 7, .tmp 8],(.seq (.ops [.i (.mov 6 (.c (.val false [.nils]))), .i (.mov 7 (qi 0)), .i (.mov 8 (qi 0))]) (.seq (.seq (.ops [qm 9 1, .i (.bin 10 .lss (.s 9) (qi 0)),qm 11 10, .g 11 false 13 (.mov 12 (.s 2)), .g 11 false 14 (.bin 13 .lss (.s 12) (qi 0)), .i (.pick 14 (.s 11) (qb true) (.s 13)),qm 15 14, .g 15 false 17 (.mov 16 (.s 1)), .g 15 false 18 (.mov 17 (.s 0)), .g 15 false 19 (.len 18 false (.s 17)), .g 15 false 20 (.bin 19 .gtr (.s 16) (.s 18)), .i (.pick 20 (.s 15) (qb true) (.s 19)),qm 21 20, .g 21 false 23 (.mov 22 (.s 2)), .g 21 false 24 (.mov 23 (.s 0)), .g 21 false 25 (.len 24 false (.s 23)), .g 21 false 26 (.mov 25 (.s 1)), .g 21 false 27 (.bin 26 .sub (.s 24) (.s 25)), .g 21 false 28 (.bin 27 .gtr (.s 22) (.s 26)), .i (.pick 28 (.s 21) (qb true) (.s 27))]) (.cond (.s 28) (.seq (.ops [.i (.mov 6 (.c (.val false [.nils]))), .i (.mov 7 (qi 0)), .i (.mov 8 (qi 1))]) .ret) .skip)) (.seq (.ops [qm 29 0,qm 30 1,qm 31 1,qm 32 2,qd 33 .add 31 32, .i (.eQ 34 1 (.s 29) (some (.s 30)) (some (.s 33))),qk 36 43 34,qm 36 1,qm 37 2,qd 38 .add 36 37,qm 6 35,qm 7 38, .i (.mov 8 (qi 0))]) .ret)))⟩
theorem zj:cd po=some pZ:=by kernel_rfl
theorem gS (b:Bytes) (a n:Nat) (ha:a≤b.length) (hb:b.length≤1073741824) (hn:n≤2000000000000000000):VC cd po (bI [(false,[.sl (bytes b)]),(false,[.int .i64 (a:Int)]),(false,[.int .i64 (n:Int)])]) (fun rs _=>rs=td (db b a n)):=by
 refine VC.gV ?_
 have f1:¬((a:Int) < 0):=by omega
 have f2:¬((n:Int) < 0):=by omega
 have f3:¬((b.length:Int) < (a:Int)):=by omega
 refine aa zj rfl ?_
 simp(disch:=omega) [pZ,f1,f2,f3,VY]
 by_cases h:a+n≤b.length
 ·have f4:¬((b.length:Int) - (a:Int) < (n:Int)):=by omega
  have e3:((bytes b).drop a).take n=bytes ((b.drop a).take n):=by simp[bytes]
  have e4:((a:Int)+(n:Int) - (a:Int)).toNat=n:=by omega
  have e5:(a:Int)+(n:Int)≤(b.length:Int):=by omega
  have e6:(a:Int)≤(a:Int)+(n:Int):=by omega
  simp(disch:=omega) [f4,e3,e4,e5,e6,VY]
  refine cI (iE ((b.drop a).take n) (by simp;omega)) ?_
  simp(disch:=omega) [aH,aI,aN,ab,td,db,h,VY]
 ·have f4:(b.length:Int) - (a:Int) < (n:Int):=by omega
  simp(disch:=omega) [f4,aH,aI,aN,ab,td,db,h,VY]
theorem Mz (c:UInt8):aG .and .u8 (c.toNat:Int) 127=((c.toNat % 128:Nat):Int):=by
 have h:=c.toNat_lt
 show IntKind.u8.wrap ((BitVec.ofInt 8 (c.toNat:Int) &&& BitVec.ofInt 8 127).toNat:Int)=_
 rw[BitVec.toNat_and,show BitVec.ofInt 8 (c.toNat:Int)=BitVec.ofNat 8 c.toNat from rfl,BitVec.toNat_ofNat,Nat.mod_eq_of_lt (by omega),show(BitVec.ofInt 8 127).toNat=2 ^ 7 - 1 from rfl,Nat.and_two_pow_sub_one_eq_mod]
 show(((c.toNat % 128:Nat):Int)) % 256=_
 omega
theorem D7 (k:Nat):(128:Nat) ^ k=2 ^ (7 * k):=by rw[Nat.pow_mul]
theorem PI {n c k:Nat} (hn:n < 128 ^ k) (hc:c < 128) (hk:k≤8):aG .or .i64 (n:Int) ((c * 128 ^ k:Nat):Int)=((n+c * 128 ^ k:Nat):Int)∧n+c * 128 ^ k < 128 ^ (k+1)∧c * 128 ^ k < 9223372036854775808∧n+c * 128 ^ k < 9223372036854775808:=by
 have h1:n+c * 128 ^ k < 128 ^ (k+1):=by
  have h2:c * 128 ^ k≤127 * 128 ^ k:=Nat.mul_le_mul_right _ (by omega)
  rw[Nat.pow_succ]
  omega
 have h3:128 ^ (k+1)≤128 ^ 9:=Nat.pow_le_pow_right (by omega) (by omega)
 have h4:(128:Nat) ^ 9=9223372036854775808:=by decide
 refine⟨?_,h1,by omega,by omega⟩
 show IntKind.i64.wrap ((BitVec.ofInt 64 (n:Int)|||BitVec.ofInt 64 ((c * 128 ^ k:Nat):Int)).toNat:Int)=_
 rw[BitVec.toNat_or,show BitVec.ofInt 64 (n:Int)=BitVec.ofNat 64 n from rfl,show BitVec.ofInt 64 ((c * 128 ^ k:Nat):Int)=BitVec.ofNat 64 (c * 128 ^ k)from rfl,BitVec.toNat_ofNat,BitVec.toNat_ofNat,Nat.mod_eq_of_lt (by omega),Nat.mod_eq_of_lt (by omega)]
 rw[D7]at hn h1⊢
 rw[Nat.mul_comm c,Nat.or_comm,←Nat.two_pow_add_eq_or_of_lt hn,Nat.add_comm]
 rw[D7,Nat.mul_comm c]at *
 exact aS (by omega) (by omega)
abbrev pK:Nat:=306
def qh:AF:=⟨2,6,[.tmp 4, .tmp 5, .tmp 6],(.seq (.ops [.i (.mov 4 (qi 0)), .i (.mov 5 (qi 0)), .i (.mov 6 (qi 0))]) (.seq (.seq (.ops [qm 10 1,qm 11 0,qn 12 11, .i (.call 14 103 false [(.s 10),(qi 0),(.s 12)]), .i (.not 14 (.s 13))]) (.cond (.s 14) (.seq (.ops [.i (.mov 4 (qi 0)), .i (.mov 5 (qi 0)), .i (.mov 6 (qi 1))]) .ret) .skip)) (.seq (.ops [.i (.mov 7 (qi 0))]) (.seq (.ops [.i (.mov 8 (qi 0))]) (.block 0 (.loop [60,59,58,57,56,55,54,53,52,51,50,49,48,47,46,45,44,43,42,41,40,39,38,37,36,35,34,33,32,31,30,29,28,27,26,25,24,23,22,21,20,19,18,17,16,15,9] (.seq (.block 1 (.seq (.seq (.ops [qm 17 1,qm 18 8,qd 19 .add 17 18,qm 20 0,qn 21 20,qd 22 .geq 19 21]) (.cond (.s 22) (.seq (.ops [.i (.mov 4 (qi 0)), .i (.mov 5 (qi 0)), .i (.mov 6 (qi 1))]) .ret) .skip)) (.seq (.ops [qm 23 0,qm 24 1,qm 25 8,qd 26 .add 24 25, .i (.iad 27 (.s 23) (.s 26) 1), .i (.ldh 28 (.s 27) 1 false),qm 9 28]) (.seq (.seq (.ops [qm 29 8, .i (.bin 30 .gtr (.s 29) (qi 0)),qm 31 30, .g 31 true 33 (.mov 32 (.s 9)), .g 31 true 34 (.bin 33 .eql (.s 32) (.c (.val false [.int .u8 0]))), .i (.pick 34 (.s 31) (.s 33) (qb false)),qm 35 34, .g 35 false 37 (.mov 36 (.s 8)), .g 35 false 38 (.bin 37 .eql (.s 36) (qi 8)), .g 35 false 39 (.mov 38 (.s 37)), .g 38 true 40 (.mov 39 (.s 9)), .g 38 true 41 (.bin 40 .geq (.s 39) (.c (.val false [.int .u8 128]))), .g 35 false 42 (.pick 41 (.s 38) (.s 40) (qb false)), .i (.pick 42 (.s 35) (qb true) (.s 41))]) (.cond (.s 42) (.seq (.ops [.i (.mov 4 (qi 0)), .i (.mov 5 (qi 0)), .i (.mov 6 (qi 2))]) .ret) .skip)) (.seq (.ops [qm 43 7,qm 44 9, .i (.bin 45 .and (.s 44) (.c (.val false [.int .u8 127]))), .i (.cvi 46 .i64 (.s 45)),qm 47 8, .i (.bin 48 .mul (qi 7) (.s 47)),qd 49 .shl 46 48,qd 50 .or 43 49,qm 7 50]) (.seq (.ops [qm 51 9, .i (.bin 52 .lss (.s 51) (.c (.val false [.int .u8 128])))]) (.cond (.s 52) (.seq (.seq (.ops [qm 53 7,qk 55 81 53, .i (.not 55 (.s 54))]) (.cond (.s 55) (.seq (.ops [.i (.mov 4 (qi 0)), .i (.mov 5 (qi 0)), .i (.mov 6 (qi 2))]) .ret) .skip)) (.seq (.ops [qm 56 7,qm 57 1,qm 58 8,qd 59 .add 57 58, .i (.bin 60 .add (.s 59) (qi 1)),qm 4 56,qm 5 60, .i (.mov 6 (qi 0))]) .ret)) .skip))))))) (.ops [qm 15 8, .i (.bin 16 .add (.s 15) (qi 1)),qm 8 16]))))))))⟩
theorem yN:cd pK=some qh:=by kernel_rfl
theorem lT (b:Bytes) (a:Nat) (ha:a≤b.length) (hb:b.length≤1073741824):VC cd pK (bI [(false,[.sl (bytes b)]),(false,[.int .i64 (a:Int)])]) (fun rs _=>rs=Ce (getVar b a)):=by
 have e1:dK (a:Int) 0 (b.length:Int)=true:=by simp[dK];omega
 refine aa yN rfl ?_
 simp(disch:=omega) [qh,VY]
 refine ak (bu _ _ _) rfl rfl ?_
 simp(disch:=omega) [e1,VY]
 refine eZ (σ:=Nat×Nat) (f1:=_) (es0:=_) (by simp(disch:=omega) [VY];rfl) (by simp(disch:=omega) [VY];rfl) (fun p=> [(8, .val false [.int .i64 (p.1:Int)]),(7, .val false [.int .i64 (p.2:Int)])]) (fun _=> []) (fun p g=>g+(a+p.1)=b.length∧p.1≤8∧p.2 < 128 ^ p.1∧gv (b.drop (a+p.1)) p.1 p.2=gv (b.drop a) 0 0) (0,0) (b.length - a) (by simp(disch:=omega) [VY]) (by simp(disch:=omega) [VY]) ⟨by omega,by omega,by simp,by simp⟩ ?_
 rintro⟨k,n⟩ nx g ⟨h1,h2,h3,h4⟩ P hP
 simp only at h1 h2 h3 h4
 simp(disch:=omega) [VY]
 refine aj (fun h5=> ?_) (fun h5=> ?_)
 ·have e:getVar b a=(0,⟨0,1⟩):=by simp only[getVar,←h4,IY (show b.length≤a+k by omega)];simp
  simp(disch:=omega) [Ce,e,VY]
 have hi:a+k < b.length:=by omega
 rw[Fq hi]at h4
 have hu:=b[a+k].toNat_lt
 have e6:(0:Int)≤(a:Int)+(k:Int):=by omega
 have e7:((a:Int)+(k:Int)).toNat=a+k:=by omega
 simp(disch:=omega) [e6,e7,bQ hi,VY]
 generalize b[a+k]=c at h4 hu⊢
 by_cases hA:(0 < k∧c.toNat=0)∨(k=8∧128≤c.toNat)
 ·have e:getVar b a=(0,⟨0,2⟩):=by
   rw[if_pos hA]at h4
   simp only[getVar,←h4]
   simp
  rcases hA with⟨g1,g2⟩|⟨g3,g4⟩
  ·simp(disch:=omega) [g1,g2,Ce,e,VY]
  ·have g1:0 < k:=by omega
   have g2:¬c.toNat=0:=by omega
   have g4':(128:Int)≤(c.toNat:Int):=by omega
   have g3':(k:Int)=8:=by omega
   simp(disch:=omega) [g1,g2,g3',g4',Ce,e,VY]
 rw[if_neg hA]at h4
 have hcs:(¬0 < k∧¬(k:Int)=8)∨(0 < k∧¬c.toNat=0∧(k:Int)=8∧¬(128:Int)≤(c.toNat:Int))∨(0 < k∧¬c.toNat=0∧¬(k:Int)=8):=by omega
 have f1:¬(7 * (k:Int) < 0):=by omega
 have f2:(7 * (k:Int)).toNat=7 * k:=by omega
 obtain⟨d,hd⟩:∃d:Nat,d=c.toNat % 128:=⟨_,rfl⟩
 have ha127:=Mz c
 rw[←hd]at ha127
 obtain⟨o1,o2,o3,o4⟩:=PI h3 (show d < 128 by omega) h2
 have hmn:min (7 * k) IntKind.i64.bits=7 * k:=Nat.min_eq_left (by show 7 * k≤64;omega)
 obtain⟨q,hq⟩:∃q,q=d * 128 ^ k:=⟨_,rfl⟩
 obtain⟨m,hm⟩:∃m,m=n+q:=⟨_,rfl⟩
 rw[←hq]at o1 o2 o3 o4
 rw[←hm]at o1 o2 o4
 have tP:(d:Int) * 2 ^ (7 * k)=(q:Int):=by rw[hq,D7];simp
 have tB:(k:Int)=8→(d:Int) * 2 ^ min 56 IntKind.i64.bits=(q:Int):=fun h=>by
  have h8:k=8:=by omega
  rw[←tP,h8]
  rfl
 have tC:(k:Int)=8→(d:Int) * 72057594037927936=(q:Int):=fun h=>by
  have h8:k=8:=by omega
  rw[←tP,h8]
  rfl
 rcases hcs with⟨g1,g3⟩|⟨g1,g2,g3,g4⟩|⟨g1,g2,g3⟩
 case' inl=>simp(disch:=omega) [g1,g3,ha127,f1,f2,hmn,tP,o1,VY]
 case' inr.inl=>simp(disch:=omega) [g1,g2,g3,g4,ha127,tB g3,tC g3,o1,VY]
 case' inr.inr=>simp(disch:=omega) [g1,g2,g3,ha127,f1,f2,hmn,tP,o1,VY]
 all_goals
  refine aj (fun g6=> ?_) (fun g6=> ?_)
  ·have hdc:d=c.toNat:=by omega
   rw[if_pos (by omega),←hdc,←hq,←hm]at h4
   simp(disch:=omega) [VY]
   refine ak (Cp _) rfl rfl ?_
   simp(disch:=omega) [VY]
   refine dO (fun g7=> ?_) (fun g7=> ?_)
   ·have g8:m≤1152921504606846975:=by have:=eM g7;omega
    have e:getVar b a=(m,⟨a+k+1,0⟩):=by
     rw[if_pos g8]at h4
     simp only[getVar,←h4]
     simp[Nat.add_assoc]
    first
     |(simp(disch:=omega) [g7,Ce,e,VY];done)
     |(have e9:k=8:=by omega
       subst e9
       simp(disch:=omega) [g7,Ce,e,VY])
   ·have g8:¬m≤1152921504606846975:=by have:=IP g7;omega
    have e:getVar b a=(0,⟨0,2⟩):=by
     rw[if_neg g8]at h4
     simp only[getVar,←h4]
     simp
    simp(disch:=omega) [g7,Ce,e,VY]
  ·first
    |(exfalso;omega)
    |(have hdc:d=c.toNat - 128:=by omega
      rw[if_neg (by omega),←hdc,←hq,←hm]at h4
      simp(disch:=omega) [VY]
      exact hP (k+1,m) (g - 1) _ _ (by omega) ⟨by simp only;omega,by simp only;omega,o2,h4⟩ (by simp(disch:=omega) [VY]) (by simp(disch:=omega) [VY]))
abbrev qA:Nat:=263
def pI:AF:=⟨2,7,[.tmp 4, .tmp 5, .tmp 6],(.seq (.ops [.i (.mov 4 (qi 0)), .i (.mov 5 (qi 0)), .i (.mov 6 (qi 0))]) (.seq (.seq (.ops [qm 11 1, .i (.bin 12 .lss (.s 11) (qi 0)),qm 13 12, .g 13 false 15 (.mov 14 (.s 1)), .g 13 false 16 (.mov 15 (.s 0)), .g 13 false 17 (.len 16 false (.s 15)), .g 13 false 18 (.bin 17 .gtr (.s 14) (.s 16)), .i (.pick 18 (.s 13) (qb true) (.s 17))]) (.cond (.s 18) (.seq (.ops [.i (.mov 4 (qi 0)), .i (.mov 5 (qi 0)), .i (.mov 6 (qi 1))]) .ret) .skip)) (.seq (.ops [.i (.mov 7 (qi 0))]) (.seq (.ops [.i (.mov 8 (qi 1))]) (.seq (.seq (.ops [.i (.mov 9 (qi 0))]) (.block 0 (.loop [66,65,64,63,62,61,60,59,58,57,56,55,54,53,52,51,50,49,48,47,46,45,44,43,42,41,40,39,38,37,36,35,34,33,32,31,30,29,28,27,26,25,24,23,22,21,20,19,10] (.seq (.seq (.ops [qm 19 9, .i (.bin 20 .lss (.s 19) (qi 9))]) (.cond (.s 20) .skip (.exit 0))) (.seq (.block 1 (.seq (.seq (.ops [qm 23 1,qm 24 9,qd 25 .add 23 24,qm 26 0,qn 27 26,qd 28 .geq 25 27]) (.cond (.s 28) (.seq (.ops [.i (.mov 4 (qi 0)), .i (.mov 5 (qi 0)), .i (.mov 6 (qi 1))]) .ret) .skip)) (.seq (.ops [qm 29 0,qm 30 1,qm 31 9,qd 32 .add 30 31, .i (.iad 33 (.s 29) (.s 32) 1), .i (.ldh 34 (.s 33) 1 false), .i (.cvi 35 .i64 (.s 34)),qm 10 35]) (.seq (.seq (.ops [qm 36 9, .i (.bin 37 .gtr (.s 36) (qi 0)),qm 38 37, .g 38 true 40 (.mov 39 (.s 10)), .g 38 true 41 (.bin 40 .eql (.s 39) (qi 0)), .i (.pick 41 (.s 38) (.s 40) (qb false)),qm 42 41, .g 42 false 44 (.mov 43 (.s 9)), .g 42 false 45 (.bin 44 .eql (.s 43) (qi 8)), .g 42 false 46 (.mov 45 (.s 44)), .g 45 true 47 (.mov 46 (.s 10)), .g 45 true 48 (.bin 47 .geq (.s 46) (qi 128)), .g 42 false 49 (.pick 48 (.s 45) (.s 47) (qb false)), .i (.pick 49 (.s 42) (qb true) (.s 48))]) (.cond (.s 49) (.seq (.ops [.i (.mov 4 (qi 0)), .i (.mov 5 (qi 0)), .i (.mov 6 (qi 2))]) .ret) .skip)) (.seq (.ops [qm 50 7,qm 51 10, .i (.bin 52 .rem (.s 51) (qi 128)),qm 53 8,qd 54 .mul 52 53,qd 55 .add 50 54,qm 7 55]) (.seq (.seq (.ops [qm 56 10, .i (.bin 57 .lss (.s 56) (qi 128))]) (.cond (.s 57) (.seq (.seq (.ops [qm 58 7, .i (.bin 59 .gtr (.s 58) (qi 1152921504606846975))]) (.cond (.s 59) (.seq (.ops [.i (.mov 4 (qi 0)), .i (.mov 5 (qi 0)), .i (.mov 6 (qi 2))]) .ret) .skip)) (.seq (.ops [qm 60 7,qm 61 1,qm 62 9,qd 63 .add 61 62, .i (.bin 64 .add (.s 63) (qi 1)),qm 4 60,qm 5 64, .i (.mov 6 (qi 0))]) .ret)) .skip)) (.ops [qm 65 8, .i (.bin 66 .mul (.s 65) (qi 128)),qm 8 66]))))))) (.ops [qm 21 9, .i (.bin 22 .add (.s 21) (qi 1)),qm 9 22])))))) (.seq (.ops [.i (.mov 4 (qi 0)), .i (.mov 5 (qi 0)), .i (.mov 6 (qi 2))]) .ret))))))⟩
theorem y6:cd qA=some pI:=by kernel_rfl
theorem mM (b:Bytes) (a:Nat) (ha:a≤b.length) (hb:b.length≤1073741824):VC cd qA (bI [(false,[.sl (bytes b)]),(false,[.int .i64 (a:Int)])]) (fun rs _=>rs=Ce (getVar b a)):=by
 have f1:¬((a:Int) < 0):=by omega
 have f2:¬((b.length:Int) < (a:Int)):=by omega
 refine aa y6 rfl ?_
 simp(disch:=omega) [pI,f1,f2,VY]
 refine eZ (σ:=Nat×Nat) (f1:=_) (es0:=_) (by simp(disch:=omega) [VY];rfl) (by simp(disch:=omega) [VY];rfl) (fun p=> [(9, .val false [.int .i64 (p.1:Int)]),(8, .val false [.int .i64 ((128 ^ p.1:Nat):Int)]),(7, .val false [.int .i64 (p.2:Int)])]) (fun _=> []) (fun p g=>g+(a+p.1)=b.length∧p.1≤8∧p.2 < 128 ^ p.1∧gv (b.drop (a+p.1)) p.1 p.2=gv (b.drop a) 0 0) (0,0) (b.length - a) (by simp(disch:=omega) [VY]) (by simp(disch:=omega) [VY]) ⟨by omega,by omega,by simp,by simp⟩ ?_
 rintro⟨k,n⟩ nx g ⟨h1,h2,h3,h4⟩ P hP
 simp only at h1 h2 h3 h4
 have f3:(k:Int) < 9:=by omega
 simp(disch:=omega) [f3,VY]
 refine aj (fun h5=> ?_) (fun h5=> ?_)
 ·have e:getVar b a=(0,⟨0,1⟩):=by simp only[getVar,←h4,IY (show b.length≤a+k by omega)];simp
  simp(disch:=omega) [Ce,e,VY]
 have hi:a+k < b.length:=by omega
 rw[Fq hi]at h4
 have hu:=b[a+k].toNat_lt
 have e6:(0:Int)≤(a:Int)+(k:Int):=by omega
 have e7:((a:Int)+(k:Int)).toNat=a+k:=by omega
 simp(disch:=omega) [e6,e7,bQ hi,VY]
 generalize b[a+k]=c at h4 hu⊢
 by_cases hA:(0 < k∧c.toNat=0)∨(k=8∧128≤c.toNat)
 ·have e:getVar b a=(0,⟨0,2⟩):=by
   rw[if_pos hA]at h4
   simp only[getVar,←h4]
   simp
  rcases hA with⟨g1,g2⟩|⟨g3,g4⟩
  ·simp(disch:=omega) [g1,g2,Ce,e,VY]
  ·have g1:0 < k:=by omega
   have g2:¬c.toNat=0:=by omega
   have g4':(128:Int)≤(c.toNat:Int):=by omega
   have g3':(k:Int)=8:=by omega
   simp(disch:=omega) [g1,g2,g3',g4',Ce,e,VY]
 rw[if_neg hA]at h4
 have hcs:(¬0 < k∧¬(k:Int)=8)∨(0 < k∧¬c.toNat=0∧(k:Int)=8∧¬(128:Int)≤(c.toNat:Int))∨(0 < k∧¬c.toNat=0∧¬(k:Int)=8):=by omega
 obtain⟨d,hd⟩:∃d:Nat,d=c.toNat % 128:=⟨_,rfl⟩
 obtain⟨o1,o2,o3,o4⟩:=PI h3 (show d < 128 by omega) h2
 obtain⟨q,hq⟩:∃q,q=d * 128 ^ k:=⟨_,rfl⟩
 obtain⟨m,hm⟩:∃m,m=n+q:=⟨_,rfl⟩
 rw[←hq]at o1 o2 o3 o4
 rw[←hm]at o1 o2 o4
 have t0:(c.toNat:Int).tmod 128=(d:Int):=by rw[hd];rfl
 have tP:(d:Int) * 128 ^ k=(q:Int):=by rw[hq];simp
 have tM:(n:Int)+(q:Int)=(m:Int):=by omega
 have tB:(k:Int)=8→(d:Int) * 72057594037927936=(q:Int):=fun h=>by
  have h8:k=8:=by omega
  rw[←tP,h8]
  rfl
 rcases hcs with⟨g1,g3⟩|⟨g1,g2,g3,g4⟩|⟨g1,g2,g3⟩
 case' inl=>simp(disch:=omega) [g1,g3,t0,tP,tM,VY]
 case' inr.inl=>simp(disch:=omega) [g1,g2,g3,g4,t0,tP,tM,tB g3,VY]
 case' inr.inr=>simp(disch:=omega) [g1,g2,g3,t0,tP,tM,VY]
 all_goals
  refine aj (fun g6=> ?_) (fun g6=> ?_)
  ·have hdc:d=c.toNat:=by omega
   rw[if_pos (by omega),←hdc,←hq,←hm]at h4
   simp(disch:=omega) [VY]
   refine aj (fun g7=> ?_) (fun g7=> ?_)
   ·have e:getVar b a=(0,⟨0,2⟩):=by
     rw[if_neg (by omega)]at h4
     simp only[getVar,←h4]
     simp
    simp(disch:=omega) [Ce,e,VY]
   ·have e:getVar b a=(m,⟨a+k+1,0⟩):=by
     rw[if_pos (by omega)]at h4
     simp only[getVar,←h4]
     simp[Nat.add_assoc]
    first
     |(simp(disch:=omega) [Ce,e,VY];done)
     |(have e9:k=8:=by omega
       subst e9
       simp(disch:=omega) [Ce,e,VY])
  ·first
    |(exfalso;omega)
    |(have hdc:d=c.toNat - 128:=by omega
      have hk1:128 ^ (k+1)≤128 ^ 8:=Nat.pow_le_pow_right (by omega) (by omega)
      obtain⟨w,hw⟩:∃w,w=128 ^ (k+1):=⟨_,rfl⟩
      have hw2:(128:Int) ^ k * 128=(w:Int):=by rw[hw,Nat.pow_succ];simp
      rw[←hw]at hk1
      rw[if_neg (by omega),←hdc,←hq,←hm]at h4
      simp(disch:=omega) [hw2,VY]
      exact hP (k+1,m) (g - 1) _ _ (by omega) ⟨by simp only;omega,by simp only;omega,o2,h4⟩ (by simp(disch:=omega) [hw,VY];done) (by simp(disch:=omega) [VY]))
abbrev mU:Nat:=310
def mL:AF:=⟨3,5,[.tmp 6, .tmp 7, .tmp 8],(.seq (.ops [.i (.mov 6 (.c (.val false [.nils]))), .i (.mov 7 (qi 0)), .i (.mov 8 (qi 0))]) (.seq (.ops [qm 12 0,qm 13 1, .i (.call 15 306 false [(.s 12),(.s 13)]),qm 11 14, .i (.ext 15 (.s 11) 0), .i (.ext 16 (.s 11) 1), .i (.ext 17 (.s 11) 2),qm 9 15,qm 1 16,qm 10 17]) (.seq (.seq (.ops [qm 18 10, .i (.bin 19 .neq (.s 18) (qi 0))]) (.cond (.s 19) (.seq (.ops [qm 20 10, .i (.mov 6 (.c (.val false [.nils]))), .i (.mov 7 (qi 0)),qm 8 20]) .ret) .skip)) (.seq (.seq (.ops [qm 21 9,qm 22 2,qd 23 .gtr 21 22]) (.cond (.s 23) (.seq (.ops [.i (.mov 6 (.c (.val false [.nils]))), .i (.mov 7 (qi 0)), .i (.mov 8 (qi 3))]) .ret) .skip)) (.seq (.ops [qm 24 0,qm 25 1,qm 26 9, .i (.call 28 194 false [(.s 24),(.s 25),(.s 26)]), .i (.ext 28 (.s 27) 0), .i (.ext 29 (.s 27) 1), .i (.ext 30 (.s 27) 2),qm 6 28,qm 7 29,qm 8 30]) .ret)))))⟩
theorem yh:cd mU=some mL:=by kernel_rfl
theorem vl (b:Bytes) (a m:Nat) (ha:a≤b.length) (hb:b.length≤1073741824) (hm:m≤1073741824):VC cd mU (bI [(false,[.sl (bytes b)]),(false,[.int .i64 (a:Int)]),(false,[.int .i64 (m:Int)])]) (fun rs _=>rs=td (ej b a m)):=by
 refine VC.gV ?_
 have hv:=oF ha
 refine aa yh rfl ?_
 simp(disch:=omega) [mL,VY]
 refine ak (lT b a ha hb) rfl rfl ?_
 generalize hx:getVar b a=x at hv
 obtain⟨⟨h1,h2⟩,h3⟩:=hv
 simp(disch:=omega) [Ce,VY]
 by_cases h4:x.2.er=0
 ·simp(disch:=omega) [h4,VY]
  by_cases h5:m < x.1
  ·simp(disch:=omega) [h5,aH,aI,aN,ab,td,ej,hx,h4,VY]
  ·simp(disch:=omega) [h5,VY]
   refine ak (gZ b x.2.at_ x.1 h1 hb (by omega)) rfl rfl ?_
   simp(disch:=omega) [aH,aI,aN,ab,td,ej,hx,h4,h5,VY]
 ·simp(disch:=omega) [h4,aH,aI,aN,ab,td,ej,hx,VY]
abbrev nZ:Nat:=277
def nr:AF:=⟨3,6,[.tmp 6, .tmp 7, .tmp 8],(.seq (.ops [.i (.mov 6 (.c (.val false [.nils]))), .i (.mov 7 (qi 0)), .i (.mov 8 (qi 0))]) (.seq (.seq (.ops [qm 12 2, .i (.call 14 103 false [(.s 12),(qi 1),(qi 10)]), .i (.not 14 (.s 13))]) (.cond (.s 14) (.seq (.ops [.i (.mov 6 (.c (.val false [.nils]))), .i (.mov 7 (qi 0)), .i (.mov 8 (qi 5))]) .ret) .skip)) (.seq (.ops [qm 16 0,qm 17 1,qm 18 2,qk 20 308 18, .i (.call 21 194 false [(.s 16),(.s 17),(.s 19)]),qm 15 20, .i (.ext 21 (.s 15) 0), .i (.ext 22 (.s 15) 1), .i (.ext 23 (.s 15) 2),qm 9 21,qm 10 22,qm 11 23]) (.seq (.seq (.ops [qm 24 11, .i (.bin 25 .neq (.s 24) (qi 0))]) (.cond (.s 25) (.seq (.ops [qm 26 11, .i (.mov 6 (.c (.val false [.nils]))), .i (.mov 7 (qi 0)),qm 8 26]) .ret) .skip)) (.seq (.seq (.ops [qm 27 9,qm 28 2, .i (.call 30 297 false [(.s 27),(.s 28)]), .i (.not 30 (.s 29))]) (.cond (.s 30) (.seq (.ops [.i (.mov 6 (.c (.val false [.nils]))), .i (.mov 7 (qi 0)), .i (.mov 8 (qi 4))]) .ret) .skip)) (.seq (.ops [qm 31 9,qm 32 10,qm 6 31,qm 7 32, .i (.mov 8 (qi 0))]) .ret))))))⟩
theorem xw:cd nZ=some nr:=by kernel_rfl
theorem vt (b:Bytes) (a:Nat) (n:Int) (hn:1≤n∧n≤10) (ha:a≤b.length) (hb:b.length≤1073741824):VC cd nZ (bI [(false,[.sl (bytes b)]),(false,[.int .i64 (a:Int)]),(false,[.int .i64 n])]) (fun rs _=>rs=td (bF b a n)):=by
 refine VC.gV ?_
 have e1:dK n 1 10=true:=by simp[dK];omega
 have e2:((uU n).toNat:Int)=uU n:=by have:=sc hn;unfold uU at *;split <;>omega
 have e3:(uU n).toNat≤2:=by have:=sc hn;omega
 have hv:=ji b a (uU n).toNat
 refine aa xw rfl ?_
 simp(disch:=omega) [nr,VY]
 refine ak (bu _ _ _) rfl rfl ?_
 simp(disch:=omega) [e1,VY]
 refine ak (jZ n (by omega) (by omega)) rfl rfl ?_
 simp(disch:=omega) [VY]
 refine cI (gZ b a (uU n).toNat ha hb (by omega)) ?_ (ha:=by first|rfl|(simp[e2,VY] <;>repeat' constructor))
 generalize hx:db b a (uU n).toNat=x at hv
 obtain⟨⟨h1,h2⟩,h3,h5⟩:=hv
 simp(disch:=omega) [td,VY]
 by_cases h4:x.2.er=0
 ·simp(disch:=omega) [h4,VY]
  refine cI (xX x.1 n (by omega) (by omega)) ?_
  simp(disch:=omega) [h4,VY]
  cases h6:ef x.1 n <;>simp(disch:=omega) [aH,aI,aN,ab,td,bF,hx,h4,h6,VY]
 ·simp(disch:=omega) [h4,aH,aI,aN,ab,td,bF,hx,VY]
abbrev nS:Nat:=268
def oc:AF:=⟨3,6,[.tmp 6, .tmp 7, .tmp 8],(.seq (.ops [.i (.mov 6 (.c (.val false [.nils]))), .i (.mov 7 (qi 0)), .i (.mov 8 (qi 0))]) (.seq (.ops [qm 13 0,qm 14 1, .i (.call 16 263 false [(.s 13),(.s 14)]),qm 12 15, .i (.ext 16 (.s 12) 0), .i (.ext 17 (.s 12) 1), .i (.ext 18 (.s 12) 2),qm 9 16,qm 10 17,qm 11 18]) (.seq (.seq (.ops [qm 19 11, .i (.bin 20 .neq (.s 19) (qi 0))]) (.cond (.s 20) (.seq (.ops [qm 21 11, .i (.mov 6 (.c (.val false [.nils]))), .i (.mov 7 (qi 0)),qm 8 21]) .ret) .skip)) (.seq (.seq (.ops [qm 22 9,qm 23 2,qd 24 .gtr 22 23]) (.cond (.s 24) (.seq (.ops [.i (.mov 6 (.c (.val false [.nils]))), .i (.mov 7 (qi 0)), .i (.mov 8 (qi 3))]) .ret) .skip)) (.seq (.ops [qm 25 0,qm 26 10,qm 27 9, .i (.call 29 264 false [(.s 25),(.s 26),(.s 27)]), .i (.ext 29 (.s 28) 0), .i (.ext 30 (.s 28) 1), .i (.ext 31 (.s 28) 2),qm 6 29,qm 7 30,qm 8 31]) .ret)))))⟩
theorem wR:cd nS=some oc:=by kernel_rfl
theorem vn (b:Bytes) (a m:Nat) (ha:a≤b.length) (hb:b.length≤1073741824) (hm:m≤1073741824):VC cd nS (bI [(false,[.sl (bytes b)]),(false,[.int .i64 (a:Int)]),(false,[.int .i64 (m:Int)])]) (fun rs _=>rs=td (ej b a m)):=by
 refine VC.gV ?_
 have hv:=oF ha
 refine aa wR rfl ?_
 simp(disch:=omega) [oc,VY]
 refine ak (mM b a ha hb) rfl rfl ?_
 generalize hx:getVar b a=x at hv
 obtain⟨⟨h1,h2⟩,h3⟩:=hv
 simp(disch:=omega) [Ce,VY]
 by_cases h4:x.2.er=0
 ·simp(disch:=omega) [h4,VY]
  by_cases h5:m < x.1
  ·simp(disch:=omega) [h5,aH,aI,aN,ab,td,ej,hx,h4,VY]
  ·simp(disch:=omega) [h5,VY]
   refine ak (gS b x.2.at_ x.1 h1 hb (by omega)) rfl rfl ?_
   simp(disch:=omega) [aH,aI,aN,ab,td,ej,hx,h4,h5,VY]
 ·simp(disch:=omega) [h4,aH,aI,aN,ab,td,ej,hx,VY]
abbrev nu:Nat:=186
def lU:AF:=⟨3,6,[.tmp 6, .tmp 7, .tmp 8],(.seq (.ops [.i (.mov 6 (.c (.val false [.nils]))), .i (.mov 7 (qi 0)), .i (.mov 8 (qi 0))]) (.seq (.seq (.ops [qm 12 2,qk 14 118 12, .i (.not 14 (.s 13))]) (.cond (.s 14) (.seq (.ops [.i (.mov 6 (.c (.val false [.nils]))), .i (.mov 7 (qi 0)), .i (.mov 8 (qi 5))]) .ret) .skip)) (.seq (.ops [qm 16 0,qm 17 1,qm 18 2,qk 20 265 18, .i (.call 21 264 false [(.s 16),(.s 17),(.s 19)]),qm 15 20, .i (.ext 21 (.s 15) 0), .i (.ext 22 (.s 15) 1), .i (.ext 23 (.s 15) 2),qm 9 21,qm 10 22,qm 11 23]) (.seq (.seq (.ops [qm 24 11, .i (.bin 25 .neq (.s 24) (qi 0))]) (.cond (.s 25) (.seq (.ops [qm 26 11, .i (.mov 6 (.c (.val false [.nils]))), .i (.mov 7 (qi 0)),qm 8 26]) .ret) .skip)) (.seq (.seq (.ops [qm 27 9,qm 28 2, .i (.call 30 266 false [(.s 27),(.s 28)]), .i (.not 30 (.s 29))]) (.cond (.s 30) (.seq (.ops [.i (.mov 6 (.c (.val false [.nils]))), .i (.mov 7 (qi 0)), .i (.mov 8 (qi 4))]) .ret) .skip)) (.seq (.ops [qm 31 9,qm 32 10,qm 6 31,qm 7 32, .i (.mov 8 (qi 0))]) .ret))))))⟩
theorem xV:cd nu=some lU:=by kernel_rfl
theorem vQ (b:Bytes) (a:Nat) (n:Int) (hn:1≤n∧n≤10) (ha:a≤b.length) (hb:b.length≤1073741824):VC cd nu (bI [(false,[.sl (bytes b)]),(false,[.int .i64 (a:Int)]),(false,[.int .i64 n])]) (fun rs _=>rs=td (bF b a n)):=by
 refine VC.gV ?_
 have e1:dK n 1 10=true:=by simp[dK];omega
 have e2:((uU n).toNat:Int)=uU n:=by have:=sc hn;unfold uU at *;split <;>omega
 have e3:(uU n).toNat≤2:=by have:=sc hn;omega
 have hv:=ji b a (uU n).toNat
 refine aa xV rfl ?_
 simp(disch:=omega) [lU,VY]
 refine ak (fj _) rfl rfl ?_
 simp(disch:=omega) [e1,VY]
 refine ak (jF n (by omega) (by omega)) rfl rfl ?_
 simp(disch:=omega) [VY]
 refine cI (gS b a (uU n).toNat ha hb (by omega)) ?_ (ha:=by first|rfl|(simp[e2,VY] <;>repeat' constructor))
 generalize hx:db b a (uU n).toNat=x at hv
 obtain⟨⟨h1,h2⟩,h3,h5⟩:=hv
 simp(disch:=omega) [td,VY]
 by_cases h4:x.2.er=0
 ·simp(disch:=omega) [h4,VY]
  refine cI (ya x.1 n (by omega) (by omega)) ?_
  simp(disch:=omega) [h4,VY]
  cases h6:ef x.1 n <;>simp(disch:=omega) [aH,aI,aN,ab,td,bF,hx,h4,h6,VY]
 ·simp(disch:=omega) [h4,aH,aI,aN,ab,td,bF,hx,VY]
abbrev iA:Nat:=279
def iD:AF:=⟨3,5,[],(.seq (.ops [qm 6 0, .i (.nch 7 (.s 6)),qf 8 7 2, .i (.ldh 9 (.s 8) 1 false), .i (.bin 10 .eql (.s 9) (qi 0)),qm 11 10, .g 11 true 13 (.mov 12 (.s 1)), .g 11 true 14 (.not 13 (.s 12)), .i (.pick 14 (.s 11) (.s 13) (qb false))]) (.cond (.s 14) (.ops [qm 15 0,qm 16 2, .i (.nch 17 (.s 15)),qf 18 17 2, .i (.sth (.s 18) (.s 16) 1)]) .skip))⟩
theorem qV:cd iA=some iD:=by kernel_rfl
theorem aW (b:Bytes) (r:Rd) (ok:Bool) (c:Nat):VC cd iA (oT [] 279 (au b r) [(false,[.bool ok]),(false,[.int .i64 (c:Int)])]) (fun rs p=>rs= []∧p= [.pt 279 (au b (aw r (!ok) c))]):=by
 refine bd qV rfl ?_
 simp(disch:=omega) [iD,au,VZ]
 by_cases h:r.er=0
 ·cases ok <;>simp(disch:=omega) [h,aw,au,VZ]
 ·simp(disch:=omega) [h,aw,au,VZ]
abbrev nc:Nat:=132
def mz:AF:=⟨3,5,[],(.seq (.ops [qm 6 0, .i (.nch 7 (.s 6)),qf 8 7 2, .i (.ldh 9 (.s 8) 1 false), .i (.bin 10 .eql (.s 9) (qi 0)),qm 11 10, .g 11 true 13 (.mov 12 (.s 1)), .i (.pick 13 (.s 11) (.s 12) (qb false))]) (.cond (.s 13) (.ops [qm 14 0,qm 15 2, .i (.nch 16 (.s 14)),qf 17 16 2, .i (.sth (.s 17) (.s 15) 1)]) .skip))⟩
theorem yc:cd nc=some mz:=by kernel_rfl
theorem az (b:Bytes) (r:Rd) (bad:Bool) (c:Nat):VC cd nc (oT [] 166 (au b r) [(false,[.bool bad]),(false,[.int .i64 (c:Int)])]) (fun rs p=>rs= []∧p= [.pt 166 (au b (aw r bad c))]):=by
 refine bd yc rfl ?_
 simp(disch:=omega) [mz,au,VZ]
 by_cases h:r.er=0
 ·cases bad <;>simp(disch:=omega) [h,aw,au,VZ]
 ·simp(disch:=omega) [h,aw,au,VZ]
abbrev iV:Nat:=274
def iU:AF:=⟨1,6,[.tmp 2],(.seq (.ops [.i (.mov 2 (qi 0))]) (.seq (.seq (.ops [qm 6 0, .i (.nch 7 (.s 6)),qf 8 7 2, .i (.ldh 9 (.s 8) 1 false), .i (.bin 10 .neq (.s 9) (qi 0))]) (.cond (.s 10) (.seq (.ops [.i (.mov 2 (qi 0))]) .ret) .skip)) (.seq (.ops [qm 12 0, .i (.nch 13 (.s 12)),qf 14 13 0, .i (.ldh 15 (.s 14) 1 false),qm 16 0, .i (.nch 17 (.s 16)),qf 18 17 1, .i (.ldh 19 (.s 18) 1 false), .i (.call 21 306 false [(.s 15),(.s 19)]),qm 11 20, .i (.ext 21 (.s 11) 0), .i (.ext 22 (.s 11) 1), .i (.ext 23 (.s 11) 2),qm 3 21,qm 4 22,qm 5 23]) (.seq (.ops [qm 24 0,qm 25 0,qm 26 4,qm 27 5, .i (.nch 28 (.s 24)),qf 29 28 1, .i (.sth (.s 29) (.s 26) 1), .i (.nch 30 (.s 25)),qf 31 30 2, .i (.sth (.s 31) (.s 27) 1)]) (.seq (.ops [qm 32 3,qm 2 32]) .ret)))))⟩
theorem sQ:cd iV=some iU:=by kernel_rfl
theorem bH (b:Bytes) (r:Rd) (hr:r.wf b) (hb:b.length≤1073741824):VC cd iV (oT [] 279 (au b r) []) (fun rs p=>rs=it (aM b r).1∧p= [.pt 279 (au b (aM b r).2)]):=by
 refine bd sQ rfl ?_
 simp(disch:=omega) [iU,au,VZ]
 by_cases h:r.er=0
 ·simp(disch:=omega) [h,VZ]
  refine ak (lT b r.at_ hr.1 hb) rfl rfl ?_
  simp(disch:=omega) [Ce,aM,h,au,VZ]
 ·simp(disch:=omega) [h,aM,au,VZ]
abbrev qB:Nat:=184
def qE:AF:=⟨1,6,[.tmp 2],(.seq (.ops [.i (.mov 2 (qi 0))]) (.seq (.seq (.ops [qm 6 0, .i (.nch 7 (.s 6)),qf 8 7 2, .i (.ldh 9 (.s 8) 1 false), .i (.bin 10 .neq (.s 9) (qi 0))]) (.cond (.s 10) (.seq (.ops [.i (.mov 2 (qi 0))]) .ret) .skip)) (.seq (.ops [qm 12 0, .i (.nch 13 (.s 12)),qf 14 13 0, .i (.ldh 15 (.s 14) 1 false),qm 16 0, .i (.nch 17 (.s 16)),qf 18 17 1, .i (.ldh 19 (.s 18) 1 false), .i (.call 21 263 false [(.s 15),(.s 19)]),qm 11 20, .i (.ext 21 (.s 11) 0), .i (.ext 22 (.s 11) 1), .i (.ext 23 (.s 11) 2),qm 3 21,qm 4 22,qm 5 23]) (.seq (.ops [qm 24 0,qm 25 5, .i (.nch 26 (.s 24)),qf 27 26 2, .i (.sth (.s 27) (.s 25) 1)]) (.seq (.ops [qm 28 0,qm 29 4, .i (.nch 30 (.s 28)),qf 31 30 1, .i (.sth (.s 31) (.s 29) 1)]) (.seq (.ops [qm 32 3,qm 2 32]) .ret))))))⟩
theorem yT:cd qB=some qE:=by kernel_rfl
theorem bO (b:Bytes) (r:Rd) (hr:r.wf b) (hb:b.length≤1073741824):VC cd qB (oT [] 166 (au b r) []) (fun rs p=>rs=it (aM b r).1∧p= [.pt 166 (au b (aM b r).2)]):=by
 refine bd yT rfl ?_
 simp(disch:=omega) [qE,au,VZ]
 by_cases h:r.er=0
 ·simp(disch:=omega) [h,VZ]
  refine ak (mM b r.at_ hr.1 hb) rfl rfl ?_
  simp(disch:=omega) [Ce,aM,h,au,VZ]
 ·simp(disch:=omega) [h,aM,au,VZ]
abbrev hH:Nat:=276
def hM:AF:=⟨3,5,[.tmp 6],(.seq (.ops [.i (.mov 6 (qi 0))]) (.seq (.ops [qm 8 0,qk 10 274 8,qm 7 9]) (.seq (.ops [qm 10 0,qm 11 7,qm 12 1,qd 13 .lss 11 12,qm 14 2, .i (.call 16 279 false [(.s 10),(.s 13),(.s 14)])]) (.seq (.ops [qm 16 7,qm 6 16]) .ret))))⟩
theorem oP:cd hH=some hM:=by kernel_rfl
theorem cQ (b:Bytes) (r:Rd) (n:Int) (c:Nat) (hr:r.wf b) (hb:b.length≤1073741824):VC cd hH (oT [] 279 (au b r) [(false,[.int .i64 n]),(false,[.int .i64 (c:Int)])]) (fun rs p=>rs=it (aL b r n c).1∧p= [.pt 279 (au b (aL b r n c).2)]):=by
 refine bd oP rfl ?_
 simp(disch:=omega) [hM,au,VZ]
 refine bG (bH b r hr hb) ?_
 generalize hx:aM b r=x
 simp(disch:=omega) [au,VZ]
 refine bG (aW b x.2 (decide ((x.1:Int) < n)) c) ?_
 have e:(!decide ((x.1:Int) < n))=decide (n≤(x.1:Int)):=by
  by_cases h:(x.1:Int) < n
  ·simp[h]
  ·simp[h];omega
 simp(disch:=omega) [au,aL,hx,e,VZ]
abbrev i6:Nat:=307
def iR:AF:=⟨2,6,[.tmp 4],(.seq (.ops [.i (.mov 4 (.c (.val false [.nils])))]) (.seq (.seq (.ops [qm 8 0, .i (.nch 9 (.s 8)),qf 10 9 2, .i (.ldh 11 (.s 10) 1 false), .i (.bin 12 .neq (.s 11) (qi 0))]) (.cond (.s 12) (.seq (.ops [.i (.mov 4 (.c (.val false [.nils])))]) .ret) .skip)) (.seq (.ops [qm 14 0, .i (.nch 15 (.s 14)),qf 16 15 0, .i (.ldh 17 (.s 16) 1 false),qm 18 0, .i (.nch 19 (.s 18)),qf 20 19 1, .i (.ldh 21 (.s 20) 1 false),qm 22 1, .i (.call 24 194 false [(.s 17),(.s 21),(.s 22)]),qm 13 23, .i (.ext 24 (.s 13) 0), .i (.ext 25 (.s 13) 1), .i (.ext 26 (.s 13) 2),qm 5 24,qm 6 25,qm 7 26]) (.seq (.ops [qm 27 0,qm 28 0,qm 29 6,qm 30 7, .i (.nch 31 (.s 27)),qf 32 31 1, .i (.sth (.s 32) (.s 29) 1), .i (.nch 33 (.s 28)),qf 34 33 2, .i (.sth (.s 34) (.s 30) 1)]) (.seq (.ops [qm 35 5,qm 4 35]) .ret)))))⟩
theorem rR:cd i6=some iR:=by kernel_rfl
theorem yW (b:Bytes) (r:Rd) (n:Nat) (hn:n≤1073741824) (hr:r.wf b) (hb:b.length≤1073741824):VC cd i6 (oT [] 279 (au b r) [(false,[.int .i64 (n:Int)])]) (fun rs p=>rs= [(false,[.o true (some (5,1)) (bytes (aY b r n).1)])]∧p= [.pt 279 (au b (aY b r n).2)]):=by
 refine VC.gV ?_
 refine bd rR rfl ?_
 simp(disch:=omega) [iR,au,VZ]
 by_cases h:r.er=0
 ·simp(disch:=omega) [h,VZ]
  refine ak (gZ b r.at_ n hr.1 hb (by omega)) rfl rfl ?_
  simp(disch:=omega) [td,aY,h,au,aH,aI,aN,ab,VZ]
 ·simp(disch:=omega) [h,aY,au,aH,aI,aN,ab,VZ]
abbrev iv:Nat:=275
def iz:AF:=⟨1,3,[.tmp 2],(.seq (.ops [.i (.mov 2 (.c (.val false [.nils])))]) (.seq (.ops [qm 3 0, .i (.call 5 307 false [(.s 3),(qi 32)]),qm 2 4]) .ret))⟩
theorem qW:cd iv=some iz:=by kernel_rfl
theorem cJ (b:Bytes) (r:Rd) (hr:r.wf b) (hb:b.length≤1073741824):VC cd iv (oT [] 279 (au b r) []) (fun rs p=>rs= [(false,[.o true (some (5,1)) (bytes (aY b r 32).1)])]∧p= [.pt 279 (au b (aY b r 32).2)]):=by
 refine bd qW rfl ?_
 simp(disch:=omega) [iz,au,VZ]
 refine bG (yW b r 32 (by omega) hr hb) ?_
 simp(disch:=omega) [au,VZ]
abbrev pP:Nat:=185
def pj:AF:=⟨1,6,[.tmp 2],(.seq (.ops [.i (.mov 2 (.c (.val false [.nils])))]) (.seq (.seq (.ops [qm 6 0, .i (.nch 7 (.s 6)),qf 8 7 2, .i (.ldh 9 (.s 8) 1 false), .i (.bin 10 .neq (.s 9) (qi 0))]) (.cond (.s 10) (.seq (.ops [.i (.mov 2 (.c (.val false [.nils])))]) .ret) .skip)) (.seq (.ops [qm 12 0, .i (.nch 13 (.s 12)),qf 14 13 0, .i (.ldh 15 (.s 14) 1 false),qm 16 0, .i (.nch 17 (.s 16)),qf 18 17 1, .i (.ldh 19 (.s 18) 1 false), .i (.call 21 264 false [(.s 15),(.s 19),(qi 32)]),qm 11 20, .i (.ext 21 (.s 11) 0), .i (.ext 22 (.s 11) 1), .i (.ext 23 (.s 11) 2),qm 3 21,qm 4 22,qm 5 23]) (.seq (.ops [qm 24 0,qm 25 5, .i (.nch 26 (.s 24)),qf 27 26 2, .i (.sth (.s 27) (.s 25) 1)]) (.seq (.ops [qm 28 0,qm 29 4, .i (.nch 30 (.s 28)),qf 31 30 1, .i (.sth (.s 31) (.s 29) 1)]) (.seq (.ops [qm 32 3,qm 2 32]) .ret))))))⟩
theorem yC:cd pP=some pj:=by kernel_rfl
theorem fx (b:Bytes) (r:Rd) (hr:r.wf b) (hb:b.length≤1073741824):VC cd pP (oT [] 166 (au b r) []) (fun rs p=>rs= [(false,[.o true (some (5,1)) (bytes (aY b r 32).1)])]∧p= [.pt 166 (au b (aY b r 32).2)]):=by
 refine VC.gV ?_
 refine bd yC rfl ?_
 simp(disch:=omega) [pj,au,VZ]
 by_cases h:r.er=0
 ·simp(disch:=omega) [h,VZ]
  refine cI (gS b r.at_ 32 hr.1 hb (by omega)) ?_
  simp(disch:=omega) [td,aY,h,au,aH,aI,aN,ab,VZ]
 ·simp(disch:=omega) [h,aY,au,aH,aI,aN,ab,VZ]
abbrev fh:Nat:=281
def iF:AF:=⟨2,6,[.tmp 4],(.seq (.ops [.i (.mov 4 (.c (.val false [.nils])))]) (.seq (.seq (.ops [qm 8 0, .i (.nch 9 (.s 8)),qf 10 9 2, .i (.ldh 11 (.s 10) 1 false), .i (.bin 12 .neq (.s 11) (qi 0))]) (.cond (.s 12) (.seq (.ops [.i (.mov 4 (.c (.val false [.nils])))]) .ret) .skip)) (.seq (.ops [qm 14 0, .i (.nch 15 (.s 14)),qf 16 15 0, .i (.ldh 17 (.s 16) 1 false),qm 18 0, .i (.nch 19 (.s 18)),qf 20 19 1, .i (.ldh 21 (.s 20) 1 false),qm 22 1, .i (.call 24 310 false [(.s 17),(.s 21),(.s 22)]),qm 13 23, .i (.ext 24 (.s 13) 0), .i (.ext 25 (.s 13) 1), .i (.ext 26 (.s 13) 2),qm 5 24,qm 6 25,qm 7 26]) (.seq (.ops [qm 27 0,qm 28 0,qm 29 6,qm 30 7, .i (.nch 31 (.s 27)),qf 32 31 1, .i (.sth (.s 32) (.s 29) 1), .i (.nch 33 (.s 28)),qf 34 33 2, .i (.sth (.s 34) (.s 30) 1)]) (.seq (.ops [qm 35 5,qm 4 35]) .ret)))))⟩
theorem qY:cd fh=some iF:=by kernel_rfl
theorem xa (b:Bytes) (r:Rd) (m:Nat) (hm:m≤1073741824) (hr:r.wf b) (hb:b.length≤1073741824):VC cd fh (oT [] 279 (au b r) [(false,[.int .i64 (m:Int)])]) (fun rs p=>rs= [(false,[.o true (some (5,1)) (bytes (bW b r m).1)])]∧p= [.pt 279 (au b (bW b r m).2)]):=by
 refine VC.gV ?_
 refine bd qY rfl ?_
 simp(disch:=omega) [iF,au,VZ]
 by_cases h:r.er=0
 ·simp(disch:=omega) [h,VZ]
  refine ak (vl b r.at_ m hr.1 hb hm) rfl rfl ?_
  simp(disch:=omega) [td,bW,h,au,aH,aI,aN,ab,VZ]
 ·simp(disch:=omega) [h,bW,au,aH,aI,aN,ab,VZ]
abbrev il:Nat:=189
def mW:AF:=⟨2,6,[.tmp 4],(.seq (.ops [.i (.mov 4 (.c (.val false [.nils])))]) (.seq (.seq (.ops [qm 8 0, .i (.nch 9 (.s 8)),qf 10 9 2, .i (.ldh 11 (.s 10) 1 false), .i (.bin 12 .neq (.s 11) (qi 0))]) (.cond (.s 12) (.seq (.ops [.i (.mov 4 (.c (.val false [.nils])))]) .ret) .skip)) (.seq (.ops [qm 14 0, .i (.nch 15 (.s 14)),qf 16 15 0, .i (.ldh 17 (.s 16) 1 false),qm 18 0, .i (.nch 19 (.s 18)),qf 20 19 1, .i (.ldh 21 (.s 20) 1 false),qm 22 1, .i (.call 24 268 false [(.s 17),(.s 21),(.s 22)]),qm 13 23, .i (.ext 24 (.s 13) 0), .i (.ext 25 (.s 13) 1), .i (.ext 26 (.s 13) 2),qm 5 24,qm 6 25,qm 7 26]) (.seq (.ops [qm 27 0,qm 28 7, .i (.nch 29 (.s 27)),qf 30 29 2, .i (.sth (.s 30) (.s 28) 1)]) (.seq (.ops [qm 31 0,qm 32 6, .i (.nch 33 (.s 31)),qf 34 33 1, .i (.sth (.s 34) (.s 32) 1)]) (.seq (.ops [qm 35 5,qm 4 35]) .ret))))))⟩
theorem yj:cd il=some mW:=by kernel_rfl
theorem EP (b:Bytes) (r:Rd) (m:Nat) (hm:m≤1073741824) (hr:r.wf b) (hb:b.length≤1073741824):VC cd il (oT [] 166 (au b r) [(false,[.int .i64 (m:Int)])]) (fun rs p=>rs= [(false,[.o true (some (5,1)) (bytes (bW b r m).1)])]∧p= [.pt 166 (au b (bW b r m).2)]):=by
 refine VC.gV ?_
 refine bd yj rfl ?_
 simp(disch:=omega) [mW,au,VZ]
 by_cases h:r.er=0
 ·simp(disch:=omega) [h,VZ]
  refine ak (vn b r.at_ m hr.1 hb hm) rfl rfl ?_
  simp(disch:=omega) [td,bW,h,au,aH,aI,aN,ab,VZ]
 ·simp(disch:=omega) [h,bW,au,aH,aI,aN,ab,VZ]
end Go.Eng.F
namespace Go.Eng.F
theorem oK (l:List Bytes) (x:Bytes):dN l++ [[.sl (bytes x)]]=dN (l++ [x]):=by simp[dN]
theorem mi (b:Bytes) (a:Nat) (n:Int):(bF b a n).2.wf b∧(bF b a n).1.length≤2:=by
 refine⟨(Ef b a n).1,?_⟩
 simp only[bF]
 split
 ·simp
 ·split
  ·exact HW ‹_›
  ·simp
def cX.o (v:cX):List E:= [.p (.int .i64 v.view), .p (.int .i64 v.height), .o true (some (5,1)) (bytes v.block), .p (.int .i64 v.who), .o true (some (5,1)) (bytes v.tag)]
abbrev gY:Nat:=197
def lg:AF:=⟨2,5,[.cell 4 5 true],(.seq (.ops [.i (.lbox 2 (.s 0)), .i (.lal 4 [.int .i64 0, .int .i64 0, .nils, .int .i64 0, .nils])]) (.seq (.ops [qm 5 1,qk 7 274 5,qm 7 1,qk 9 274 7,qm 9 1,qk 11 275 9,qm 11 1,qf 12 2 0,ql 13 2 12 1 false, .i (.call 15 276 false [(.s 11),(.s 13),(qi 5)]),qm 15 1,qk 17 275 15, .i (.bld 17 [.int .i64 0, .int .i64 0, .nils, .int .i64 0, .nils] [(0,1,(.s 6)),(1,1,(.s 8)),(2,1,(.s 10)),(3,1,(.s 14)),(4,1,(.s 16))]),qs 4 4 17 5]) .ret))⟩
theorem ve:cd gY=some lg:=by kernel_rfl
theorem uw (b:Bytes) (l:ao) (r:Rd) (hr:r.wf b) (hb:b.length≤1073741824):VC cd gY (oT [(true,l.c)] 279 (au b r) []) (fun rs p=>rs= [(true,(eB b l r).1.o)]∧p= [.pt 279 (au b (eB b l r).2)]):=by
 refine bd ve rfl ?_
 simp(disch:=omega) [lg,au,ao.c,VZ]
 refine bG (bH b r hr hb) ?_
 have w1:=aR hr
 generalize h1:aM b r=s1 at w1⊢
 simp(disch:=omega) [au,VZ]
 refine bG (bH b s1.2 w1.1 hb) ?_
 have w2:=aR w1.1
 generalize h2:aM b s1.2=s2 at w2⊢
 simp(disch:=omega) [au,VZ]
 refine bG (cJ b s2.2 w2.1 hb) ?_
 have w3:=bS w2.1 32
 generalize h3:aY b s2.2 32=s3 at w3⊢
 simp(disch:=omega) [au,VZ]
 refine bG (cQ b s3.2 l.n 5 w3.1 hb) ?_
 have w4:=cN (n:=l.n) (c:=5) w3.1 (by omega)
 generalize h4:aL b s3.2 l.n 5=s4 at w4⊢
 simp(disch:=omega) [au,VZ]
 refine bG (cJ b s4.2 w4.1 hb) ?_
 have w5:=bS w4.1 32
 generalize h5:aY b s4.2 32=s5 at w5⊢
 simp(disch:=omega) [au,VZ]
 simp(disch:=omega) [eB,h1,h2,h3,h4,h5,cX.o,au,VZ]
abbrev jc:Nat:=199
def qL:AF:=⟨2,6,[.cell 4 5 true],(.seq (.ops [.i (.lbox 2 (.s 0)), .i (.lal 4 [.int .i64 0, .int .i64 0, .nils, .nils, .nils])]) (.seq (.ops [qm 6 1,qk 8 274 6,qm 8 1,qk 10 274 8,qm 10 1,qk 12 275 10, .i (.bld 12 [.int .i64 0, .int .i64 0, .nils, .nils, .nils] [(0,1,(.s 7)),(1,1,(.s 9)),(2,1,(.s 11))]), .i (.lal 5 [.int .i64 0, .int .i64 0, .nils, .nils, .nils]),qs 5 5 12 5]) (.seq (.seq (.ops [qm 13 1, .i (.nch 14 (.s 13)),qf 15 14 2, .i (.ldh 16 (.s 15) 1 false), .i (.bin 17 .neq (.s 16) (qi 0))]) (.cond (.s 17) (.seq (.ops [ql 18 5 5 5 true,qs 4 4 18 5]) .ret) .skip)) (.seq (.ops [qm 20 1,qm 21 1,qm 22 1, .i (.nch 23 (.s 22)),qf 24 23 0, .i (.ldh 25 (.s 24) 1 false),qm 26 1, .i (.nch 27 (.s 26)),qf 28 27 1, .i (.ldh 29 (.s 28) 1 false),qf 30 2 0,ql 31 2 30 1 false, .i (.call 33 277 false [(.s 25),(.s 29),(.s 31)]),qm 19 32, .i (.ext 33 (.s 19) 0), .i (.ext 34 (.s 19) 1), .i (.ext 35 (.s 19) 2),qf 36 5 3,qs 5 36 33 1, .i (.nch 37 (.s 20)),qf 38 37 1, .i (.sth (.s 38) (.s 34) 1), .i (.nch 39 (.s 21)),qf 40 39 2, .i (.sth (.s 40) (.s 35) 1)]) (.seq (.seq (.ops [qf 41 5 3,ql 42 5 41 1 false,qk 44 278 42, .i (.mov 44 (qi 0))]) (.block 0 (.loop [53,52,51,50,49,48,47,46,45] (.seq (.ops [qd 45 .lss 44 43]) (.seq (.cond (.s 45) .skip (.exit 0)) (.seq (.block 1 (.ops [qf 46 5 4,ql 47 5 46 1 false,qm 48 1,qk 50 275 48, .i (.lsl 50 1 1 [.nils] [(0,1,(.s 49))]), .i (.app 51 24 1 24 (.s 47) (.s 50)),qf 52 5 4,qs 5 52 51 1])) (.ops [.i (.bin 53 .add (.s 44) (qi 1)),qm 44 53]))))))) (.seq (.ops [ql 54 5 5 5 true,qs 4 4 54 5]) .ret))))))⟩
theorem y4:cd jc=some qL:=by kernel_rfl
theorem ey (b:Bytes) (l:ao) (r:Rd) (hl:1≤l.n∧l.n≤10) (hr:r.wf b) (hb:b.length≤1073741824):VC cd jc (oT [(true,l.c)] 279 (au b r) []) (fun rs p=>rs= [(true,(jD b l r).1.o)]∧p= [.pt 279 (au b (jD b l r).2)]):=by
 refine VC.gV ?_
 refine bd y4 rfl ?_
 simp(disch:=omega) [qL,au,ao.c,VZ]
 refine bG (bH b r hr hb) ?_
 have w1:=aR hr
 generalize h1:aM b r=s1 at w1⊢
 simp(disch:=omega) [au,VZ]
 refine bG (bH b s1.2 w1.1 hb) ?_
 have w2:=aR w1.1
 generalize h2:aM b s1.2=s2 at w2⊢
 simp(disch:=omega) [au,VZ]
 refine bG (cJ b s2.2 w2.1 hb) ?_
 have w3:=bS w2.1 32
 generalize h3:aY b s2.2 32=s3 at w3⊢
 simp(disch:=omega) [au,VZ]
 by_cases g:s3.2.er=0
 case neg=>simp(disch:=omega) [g,jD,h1,h2,h3,Qc.o,au,aH,aI,aN,ab,dN,VZ]
 simp(disch:=omega) [g,VZ]
 refine ak (vt b s3.2.at_ l.n hl w3.1.1 hb) rfl rfl ?_
 have w4:=mi b s3.2.at_ l.n
 generalize h4:bF b s3.2.at_ l.n=s4 at w4⊢
 simp(disch:=omega) [td,VZ]
 refine ak (sV s4.1 (by omega)) rfl rfl ?_
 simp(disch:=omega) [VZ]
 refine eb (σ:=Nat×Nat×List Bytes×Rd) (f0:=_) (by simp(disch:=omega) [VZ];rfl) (dt.yO (s:=5) (k:=5) (i:=4) rfl rfl) (f1:=_) (es0:=_) (by simp(disch:=omega) [VZ];rfl) (by simp(disch:=omega) [VZ];rfl) (fun p=> [(44, .val false [.int .i64 (p.1:Int)]),(5, .box [.int .i64 s1.1, .int .i64 s2.1, .ow 106496 19, .ow 278528 24, .ow 5 p.2.1])]) (fun p=> [(4101, .pt 5 279 [.sl (bytes b), .int .i64 (p.2.2.2.at_:Int), .int .i64 (p.2.2.2.er:Int)]),(5, .sl p.2.1 true true (some (24,1)) (dN p.2.2.1))])
  (fun p g=>(g+p.1=(aX s4.1).length∧p.2.2.1.length=p.1)∧p.2.2.2.wf b∧el (fun r=>aY b r 32) (aX s4.1).length s4.2=(p.2.2.1++(el (fun r=>aY b r 32) g p.2.2.2).1,(el (fun r=>aY b r 32) g p.2.2.2).2)) (0,_,[],s4.2) (aX s4.1).length (by simp(disch:=omega) [VZ];rfl) (by simp(disch:=omega) [dN,au,VZ]) ⟨⟨by simp,rfl⟩,w4.1,by simp⟩ ?_
 rintro⟨i,v,x,q⟩ nx g0 ⟨⟨hg,h5⟩,h6,h7⟩ P hP
 simp only at hg h5 h6 h7
 have hl:(dN x).length=i:=by rw[cM];exact h5
 simp(disch:=omega) [VZ]
 have hb4:=eL s4.1
 refine aj (fun h8=> ?_) (fun h8=> ?_)
 ·simp(disch:=omega) [au,VZ]
  refine bG (cJ b q h6 hb) ?_
  have w5:=bS h6 32
  obtain⟨g1,rfl⟩:∃g1,g0=g1+1:=⟨g0 - 1,by omega⟩
  simp only[el]at h7
  generalize h9:aY b q 32=s5 at w5 h7⊢
  simp(disch:=omega) [au,hl,oK,VZ]
  refine hP (i+1,_,x++ [s5.1],s5.2) g1 _ _ (by omega) ⟨⟨by simp only;omega,by simp[h5]⟩,w5.1,by rw[h7];simp⟩ (by simp(disch:=omega) [VZ];rfl) (by simp(disch:=omega) [au,VZ])
 ·obtain rfl:g0=0:=by omega
  simp only[el,List.append_nil]at h7
  simp(disch:=omega) [jD,h1,h2,h3,h4,g,h7,Qc.o,au,aH,aI,aN,VZ]
abbrev pr:Nat:=126
def pR:AF:=⟨2,7,[.cell 4 5 true],(.seq (.ops [.i (.lbox 3 (.s 1)), .i (.lal 4 [.int .i64 0, .int .i64 0, .nils, .nils, .nils])]) (.seq (.ops [qm 10 0,qk 12 184 10, .i (.bld 12 [.int .i64 0, .int .i64 0, .nils, .nils, .nils] [(0,1,(.s 11))]), .i (.lal 5 [.int .i64 0, .int .i64 0, .nils, .nils, .nils]),qs 5 5 12 5]) (.seq (.ops [qm 13 0,qk 15 184 13,qf 15 5 1,qs 5 15 14 1]) (.seq (.ops [qm 16 0,qk 18 185 16,qf 18 5 2,qs 5 18 17 1]) (.seq (.seq (.ops [qm 19 0, .i (.nch 20 (.s 19)),qf 21 20 2, .i (.ldh 22 (.s 21) 1 false), .i (.bin 23 .eql (.s 22) (qi 0))]) (.cond (.s 23) (.seq (.ops [qm 25 0, .i (.nch 26 (.s 25)),qf 27 26 0, .i (.ldh 28 (.s 27) 1 false),qm 29 0, .i (.nch 30 (.s 29)),qf 31 30 1, .i (.ldh 32 (.s 31) 1 false),qf 33 3 0,ql 34 3 33 1 false, .i (.call 36 186 false [(.s 28),(.s 32),(.s 34)]),qm 24 35, .i (.ext 36 (.s 24) 0), .i (.ext 37 (.s 24) 1), .i (.ext 38 (.s 24) 2),qm 6 36,qm 7 37,qm 8 38]) (.seq (.ops [qm 39 0,qm 40 8, .i (.nch 41 (.s 39)),qf 42 41 2, .i (.sth (.s 42) (.s 40) 1)]) (.seq (.ops [qm 43 0,qm 44 7, .i (.nch 45 (.s 43)),qf 46 45 1, .i (.sth (.s 46) (.s 44) 1)]) (.ops [qm 47 6,qf 48 5 3,qs 5 48 47 1])))) .skip)) (.seq (.seq (.ops [qf 49 5 3,ql 50 5 49 1 false,qk 52 187 50,qm 9 51]) (.block 0 (.loop [62,61,60,59,58,57,56,55,54,53,52] (.seq (.seq (.ops [qm 52 9, .i (.bin 53 .gtr (.s 52) (qi 0))]) (.cond (.s 53) .skip (.exit 0))) (.seq (.block 1 (.ops [qf 56 5 4,ql 57 5 56 1 false,qm 58 0,qk 60 185 58, .i (.lsl 60 1 1 [.nils] [(0,1,(.s 59))]), .i (.app 61 24 1 24 (.s 57) (.s 60)),qf 62 5 4,qs 5 62 61 1])) (.ops [qm 54 9, .i (.bin 55 .sub (.s 54) (qi 1)),qm 9 55])))))) (.seq (.ops [ql 63 5 5 5 true,qs 4 4 63 5]) .ret)))))))⟩
theorem y3:cd pr=some pR:=by kernel_rfl
theorem jB (b:Bytes) (l:ao) (r:Rd) (hl:1≤l.n∧l.n≤10) (hr:r.wf b) (hb:b.length≤1073741824):VC cd pr (oT [] 166 (au b r) [(true,l.c)]) (fun rs p=>rs= [(true,(jD b l r).1.o)]∧p= [.pt 166 (au b (jD b l r).2)]):=by
 refine VC.gV ?_
 refine bd y3 rfl ?_
 simp(disch:=omega) [pR,au,ao.c,VZ]
 refine bG (bO b r hr hb) ?_
 have w1:=aR hr
 generalize h1:aM b r=s1 at w1⊢
 simp(disch:=omega) [au,VZ]
 refine bG (bO b s1.2 w1.1 hb) ?_
 have w2:=aR w1.1
 generalize h2:aM b s1.2=s2 at w2⊢
 simp(disch:=omega) [au,VZ]
 refine bG (fx b s2.2 w2.1 hb) ?_
 have w3:=bS w2.1 32
 generalize h3:aY b s2.2 32=s3 at w3⊢
 simp(disch:=omega) [au,VZ]
 by_cases g:s3.2.er=0
 ·simp(disch:=omega) [g,VZ]
  refine ak (vQ b s3.2.at_ l.n hl w3.1.1 hb) rfl rfl ?_
  have w4:=mi b s3.2.at_ l.n
  generalize h4:bF b s3.2.at_ l.n=s4 at w4⊢
  simp(disch:=omega) [td,VZ]
  refine ak (iN s4.1 (by omega)) rfl rfl ?_
  simp(disch:=omega) [VZ]
  refine eb (σ:=Nat×Nat×List Bytes×Rd) (f0:=_) (by simp(disch:=omega) [VZ];rfl) (dt.yO (s:=5) (k:=5) (i:=4) rfl rfl) (f1:=_) (es0:=_) (by simp(disch:=omega) [VZ];rfl) (by simp(disch:=omega) [VZ];rfl) (fun p=> [(9, .val false [.int .i64 (p.1:Int)]),(5, .box [.int .i64 s1.1, .int .i64 s2.1, .ow 155648 19, .ow 303104 24, .ow 5 p.2.1])]) (fun p=> [(4096, .pt 0 166 [.sl (bytes b), .int .i64 (p.2.2.2.at_:Int), .int .i64 (p.2.2.2.er:Int)]),(5, .sl p.2.1 true true (some (24,1)) (dN p.2.2.1))])
   (fun p g=>(p.1=g∧p.2.2.1.length+g=(aX s4.1).length)∧p.2.2.2.wf b∧el (fun r=>aY b r 32) (aX s4.1).length s4.2=(p.2.2.1++(el (fun r=>aY b r 32) g p.2.2.2).1,(el (fun r=>aY b r 32) g p.2.2.2).2)) ((aX s4.1).length,_,[],s4.2) (aX s4.1).length (by simp(disch:=omega) [VZ];rfl) (by simp(disch:=omega) [dN,au,VZ]) ⟨⟨by simp,by simp⟩,w4.1,by simp⟩ ?_
  rintro⟨i,v,x,q⟩ nx g0 ⟨⟨hg,h5⟩,h6,h7⟩ P hP
  simp only at hg h5 h6 h7
  have hl:(dN x).length=(aX s4.1).length - i:=by rw[cM];omega
  have hb4:=eL s4.1
  simp(disch:=omega) [VZ]
  refine aj (fun h8=> ?_) (fun h8=> ?_)
  ·simp(disch:=omega) [au,VZ]
   refine bG (fx b q h6 hb) ?_
   have w5:=bS h6 32
   obtain⟨g1,rfl⟩:∃g1,g0=g1+1:=⟨g0 - 1,by omega⟩
   simp only[el]at h7
   generalize h9:aY b q 32=s5 at w5 h7⊢
   have hc:(i:Int) - 1=((i - 1:Nat):Int):=by omega
   simp(disch:=omega) [au,hl,oK,VZ]
   refine hP (i - 1,_,x++ [s5.1],s5.2) g1 _ _ (by omega) ⟨⟨by simp only;omega,by simp only[List.length_append,List.length_cons,List.length_nil];omega⟩,w5.1,by rw[h7];simp⟩ (by simp(disch:=omega) [hc,VZ];rfl) (by simp(disch:=omega) [au,VZ])
  ·obtain rfl:g0=0:=by omega
   simp only[el,List.append_nil]at h7
   simp(disch:=omega) [jD,h1,h2,h3,h4,g,h7,Qc.o,au,aH,aI,aN,VZ]
 ·simp(disch:=omega) [g,VZ]
  refine cI (iN [] (by simp)) ?_ (ha:=by first|rfl|(simp[bytes,VY] <;>repeat' constructor))
  have hz:aX []= []:=rfl
  simp(disch:=omega) [hz,VZ]
  refine bM (σ:=Unit) (f1:=_) (es0:=_) (by simp(disch:=omega) [VZ];rfl) (by simp(disch:=omega) [VZ];rfl) (fun _=> [(9, .val false [.int .i64 0])]) (fun _=> []) (fun _ _=>True) () 0 (by simp(disch:=omega) [VZ]) (by simp(disch:=omega) [VZ]) trivial ?_
  rintro _ n _ _
  simp(disch:=omega) [VZ]
  simp(disch:=omega) [jD,h1,h2,h3,g,Qc.o,au,aH,aI,aN,ab,dN,VZ]
end Go.Eng.F
namespace Go.Eng.F
theorem fw {n:Int} (h:isNum n=true):ru n:=by
 have:=eM h
 exact⟨by omega,by omega⟩
end Go.Eng.F
namespace Go.Eng.F
def JL (n:Int):Prop:=0≤n∧n≤1152921504606846975
def Qc.rd (q:Qc):Prop:=(JL q.view∧JL q.height)∧q.block.length≤32∧q.bits.length≤2∧q.tags.length≤16∧∀t∈q.tags,t.length≤32
theorem ka {n:Nat} (h:n≤1152921504606846975):JL (n:Int):=⟨by omega,by omega⟩
theorem ij {b:Bytes} {l:ao} {r:Rd} (h:r.wf b):(jD b l r).2.wf b∧(jD b l r).1.rd:=by
 have w1:=aR h
 have w2:=aR w1.1
 have w3:=bS w2.1 32
 simp only[jD]
 split
 ·have w4:=mi b (aY b (aM b (aM b r).2).2 32).2.at_ l.n
  have w5:=fun(r:Rd) (hr:r.wf b)=>bS hr 32
  have w6:=CY (p:=fun t:Bytes=>t.length≤32) (b:=b) (f:=fun r=>aY b r 32) (fun(r:Rd) hr=>⟨(w5 r hr).1,(w5 r hr).2.1⟩)
  refine⟨A6 (fun r hr=>(w5 r hr).1) _ _ w4.1,⟨ka w1.2,ka w2.2⟩,w3.2.1,w4.2,?_,w6 _ _ w4.1⟩
  simp only[sP]
  have:=eL (bF b (aY b (aM b (aM b r).2).2 32).2.at_ l.n).1
  omega
 ·exact⟨w3.1,⟨ka w1.2,ka w2.2⟩,w3.2.1,by simp,by simp,by simp⟩
def Head.rd (h:Head):Prop:=(JL h.view∧JL h.height∧JL h.proposer)∧h.parent.length≤32∧h.root.length≤32∧h.qc.rd
theorem fO {b:Bytes} {l:ao} {r:Rd} (h:r.wf b):(bJ b l r).2.wf b∧(bJ b l r).1.rd:=by
 simp only[bJ]
 have w1:=aR h
 generalize aM b r=s1 at w1⊢
 have w2:=aR w1.1
 generalize aM b s1.2=s2 at w2⊢
 have w3:=aV (bad:=decide (s2.1=0)) (c:=5) w2.1 (by omega)
 generalize aw s2.2 (decide (s2.1=0)) 5=s3 at w3⊢
 have w4:=cN (n:=l.n) (c:=5) w3 (by omega)
 generalize aL b s3 l.n 5=s4 at w4⊢
 have w5:=bS w4.1 32
 generalize aY b s4.2 32=s5 at w5⊢
 have w6:=bS w5.1 32
 generalize aY b s5.2 32=s6 at w6⊢
 have w7:=ij (l:=l) w6.1
 generalize jD b l s6.2=s7 at w7⊢
 exact⟨aV w7.1 (by omega),⟨ka w1.2,ka w2.2,ka w4.2⟩,w5.2.1,w6.2.1,w7.2⟩
theorem Cq (h:Head) (h1:0≤h.height) (h2:ru h.height):VC cd hU (bI [(true,h.c)]) (fun rs _=>rs=bl (fits h)):=by
 simp only[ru]at h2
 refine aa oN rfl ?_
 simp(disch:=omega) [hX,Head.c,VY]
 refine aj (fun g1=> ?_) (fun g1=> ?_) <;>simp(disch:=omega) [g1,fits,VY]
 refine aj (fun g2=> ?_) (fun g2=> ?_) <;>simp(disch:=omega) [g1,g2,VY]
 refine ak (i4 _ _) rfl rfl ?_
 simp(disch:=omega) [g1,g2,VY]
theorem CK (h:Head) (h1:0≤h.height) (h2:ru h.height):VC cd oa (bI [(true,h.c)]) (fun rs _=>rs=bl (fits h)):=by
 simp only[ru]at h2
 refine aa xG rfl ?_
 simp(disch:=omega) [nG,Head.c,VY]
 refine aj (fun g1=> ?_) (fun g1=> ?_) <;>simp(disch:=omega) [g1,fits,VY]
 refine aj (fun g2=> ?_) (fun g2=> ?_) <;>simp(disch:=omega) [g1,g2,VY]
 refine ak (i0 _ _) rfl rfl ?_
 simp(disch:=omega) [g1,g2,VY]
abbrev gT:Nat:=201
def ll:AF:=⟨2,6,[.cell 4 10 true],(.seq (.ops [.i (.lbox 2 (.s 0)), .i (.lal 4 qz)]) (.seq (.ops [qm 6 1,qk 8 274 6,qm 8 1,qk 10 274 8, .i (.bld 10 qz [(0,1,(.s 7)),(1,1,(.s 9))]), .i (.lal 5 qz),qs 5 5 10 10]) (.seq (.ops [qm 11 1,qf 12 5 1,ql 13 5 12 1 false, .i (.bin 14 .neq (.s 13) (qi 0)), .i (.call 16 279 false [(.s 11),(.s 14),(qi 5)])]) (.seq (.ops [qm 16 1,qf 17 2 0,ql 18 2 17 1 false, .i (.call 20 276 false [(.s 16),(.s 18),(qi 5)]),qf 20 5 2,qs 5 20 19 1]) (.seq (.ops [qm 21 1,qk 23 275 21,qm 23 1,qk 25 275 23,qf 25 5 3,qs 5 25 22 1,qf 26 5 4,qs 5 26 24 1]) (.seq (.ops [ql 27 2 2 5 true,qm 28 1, .i (.call 30 199 false [(.s 27),(.s 28)]),qf 30 5 5,qs 5 30 29 5]) (.seq (.ops [qm 31 1,ql 32 5 5 10 true,qk 34 280 32, .i (.call 35 279 false [(.s 31),(.s 33),(qi 6)])]) (.seq (.ops [ql 35 5 5 10 true,qs 4 4 35 10]) .ret))))))))⟩
theorem vh:cd gT=some ll:=by kernel_rfl
theorem gr (b:Bytes) (l:ao) (r:Rd) (hl:1≤l.n∧l.n≤10) (hr:r.wf b) (hb:b.length≤1073741824):VC cd gT (oT [(true,l.c)] 279 (au b r) []) (fun rs p=>rs= [(true,(bJ b l r).1.o)]∧p= [.pt 279 (au b (bJ b l r).2)]):=by
 refine bd vh rfl ?_
 simp(disch:=omega) [ll,au,ao.c,VZ]
 refine bG (bH b r hr hb) ?_
 have w1:=aR hr
 generalize h1:aM b r=s1 at w1⊢
 simp(disch:=omega) [au,VZ]
 refine bG (bH b s1.2 w1.1 hb) ?_
 have w2:=aR w1.1
 generalize h2:aM b s1.2=s2 at w2⊢
 simp(disch:=omega) [au,VZ]
 refine bG (aW b s2.2 (!decide (s2.1=0)) 5) ?_
 simp only[Bool.not_not]
 have w3:=aV (bad:=decide (s2.1=0)) (c:=5) w2.1 (by omega)
 generalize h3:aw s2.2 (decide (s2.1=0)) 5=s3 at w3⊢
 simp(disch:=omega) [au,VZ]
 refine bG (cQ b s3 l.n 5 w3 hb) ?_
 have w4:=cN (n:=l.n) (c:=5) w3 (by omega)
 generalize h4:aL b s3 l.n 5=s4 at w4⊢
 simp(disch:=omega) [au,VZ]
 refine bG (cJ b s4.2 w4.1 hb) ?_
 have w5:=bS w4.1 32
 generalize h5:aY b s4.2 32=s5 at w5⊢
 simp(disch:=omega) [au,VZ]
 refine bG (cJ b s5.2 w5.1 hb) ?_
 have w6:=bS w5.1 32
 generalize h6:aY b s5.2 32=s6 at w6⊢
 simp(disch:=omega) [au,VZ]
 refine bG (ey b l s6.2 hl w6.1 hb) ?_ (n1:=by simp(disch:=omega) [Qc.o,VZ]) (n3:=by simp(disch:=omega) [Qc.o,VZ])
 have w7:=ij (l:=l) w6.1
 generalize h7:jD b l s6.2=s7 at w7⊢
 simp(disch:=omega) [au,ao.c,Qc.o,VZ]
 have w2':=ka w2.2
 simp only[JL]at w2'
 refine cI (Cq ⟨s1.1,s2.1,s4.1,s5.1,s6.1,s7.1⟩ w2'.1 ⟨by simp only;omega,by simp only;omega⟩) ?_ (ha:=by first|rfl|(simp[Head.c,VY] <;>repeat' constructor))
 simp(disch:=omega) [au,VZ]
 refine bG (aW b s7.2 (fits ⟨s1.1,s2.1,s4.1,s5.1,s6.1,s7.1⟩) 6) ?_
 have w8:=aV (bad:=(!fits ⟨s1.1,s2.1,s4.1,s5.1,s6.1,s7.1⟩)) (c:=6) w7.1 (by omega)
 generalize h8:aw s7.2 ((!fits ⟨s1.1,s2.1,s4.1,s5.1,s6.1,s7.1⟩)) 6=s8 at w8⊢
 simp(disch:=omega) [au,VZ]
 simp(disch:=omega) [bJ,h1,h2,h3,h4,h5,h6,h7,h8,Head.o,au,VZ]
abbrev pM:Nat:=127
def qD:AF:=⟨2,6,[.cell 4 10 true],(.seq (.ops [.i (.lbox 3 (.s 1)), .i (.lal 4 qz)]) (.seq (.ops [qm 6 0,qk 8 184 6, .i (.bld 8 qz [(0,1,(.s 7))]), .i (.lal 5 qz),qs 5 5 8 10]) (.seq (.ops [qm 9 0,qk 11 184 9,qf 11 5 1,qs 5 11 10 1]) (.seq (.ops [qm 12 0,qf 13 5 1,ql 14 5 13 1 false, .i (.bin 15 .eql (.s 14) (qi 0)), .i (.call 17 132 false [(.s 12),(.s 15),(qi 5)])]) (.seq (.ops [qm 17 0,qk 19 184 17,qf 19 5 2,qs 5 19 18 1]) (.seq (.ops [qm 20 0,qf 21 5 2,ql 22 5 21 1 false,qf 23 3 0,ql 24 3 23 1 false,qd 25 .geq 22 24, .i (.call 27 132 false [(.s 20),(.s 25),(qi 5)])]) (.seq (.ops [qm 27 0,qk 29 185 27,qf 29 5 3,qs 5 29 28 1]) (.seq (.ops [qm 30 0,qk 32 185 30,qf 32 5 4,qs 5 32 31 1]) (.seq (.ops [qm 33 0,ql 34 3 3 5 true, .i (.call 36 126 false [(.s 33),(.s 34)]),qf 36 5 5,qs 5 36 35 5]) (.seq (.ops [qm 37 0,ql 38 5 5 10 true,qk 40 188 38, .i (.not 40 (.s 39)), .i (.call 42 132 false [(.s 37),(.s 40),(qi 6)])]) (.seq (.ops [ql 42 5 5 10 true,qs 4 4 42 10]) .ret)))))))))))⟩
theorem yM:cd pM=some qD:=by kernel_rfl
theorem tU (b:Bytes) (l:ao) (r:Rd) (hl:1≤l.n∧l.n≤10) (hr:r.wf b) (hb:b.length≤1073741824):VC cd pM (oT [] 166 (au b r) [(true,l.c)]) (fun rs p=>rs= [(true,(bJ b l r).1.o)]∧p= [.pt 166 (au b (bJ b l r).2)]):=by
 refine bd yM rfl ?_
 simp(disch:=omega) [qD,au,ao.c,VZ]
 refine bG (bO b r hr hb) ?_
 have w1:=aR hr
 generalize h1:aM b r=s1 at w1⊢
 simp(disch:=omega) [au,VZ]
 refine bG (bO b s1.2 w1.1 hb) ?_
 have w2:=aR w1.1
 generalize h2:aM b s1.2=s2 at w2⊢
 simp(disch:=omega) [au,VZ]
 refine bG (az b s2.2 (decide (s2.1=0)) 5) ?_
 have w3:=aV (bad:=decide (s2.1=0)) (c:=5) w2.1 (by omega)
 generalize h3:aw s2.2 (decide (s2.1=0)) 5=s3 at w3⊢
 simp(disch:=omega) [au,VZ]
 refine bG (bO b s3 w3 hb) ?_
 have w4:=aR w3
 generalize h4:aM b s3=s4 at w4⊢
 simp(disch:=omega) [au,VZ]
 refine bG (az b s4.2 (decide (l.n≤(s4.1:Int))) 5) ?_
 have w5:=aV (bad:=decide (l.n≤(s4.1:Int))) (c:=5) w4.1 (by omega)
 generalize h5:aw s4.2 (decide (l.n≤(s4.1:Int))) 5=s5 at w5⊢
 simp(disch:=omega) [au,VZ]
 refine bG (fx b s5 w5 hb) ?_
 have w6:=bS w5 32
 generalize h6:aY b s5 32=s6 at w6⊢
 simp(disch:=omega) [au,VZ]
 refine bG (fx b s6.2 w6.1 hb) ?_
 have w7:=bS w6.1 32
 generalize h7:aY b s6.2 32=s7 at w7⊢
 simp(disch:=omega) [au,VZ]
 refine bG (jB b l s7.2 hl w7.1 hb) ?_ (n1:=by simp(disch:=omega) [Qc.o,VZ]) (n3:=by simp(disch:=omega) [Qc.o,VZ])
 have w8:=ij (l:=l) w7.1
 generalize h8:jD b l s7.2=s8 at w8⊢
 simp(disch:=omega) [au,ao.c,Qc.o,VZ]
 have w2':=ka w2.2
 simp only[JL]at w2'
 refine cI (CK ⟨s1.1,s2.1,s4.1,s6.1,s7.1,s8.1⟩ w2'.1 ⟨by simp only;omega,by simp only;omega⟩) ?_ (ha:=by first|rfl|(simp[Head.c,VY] <;>repeat' constructor))
 simp(disch:=omega) [au,VZ]
 refine bG (az b s8.2 ((!fits ⟨s1.1,s2.1,s4.1,s6.1,s7.1,s8.1⟩)) 6) ?_
 have w9:=aV (bad:=(!fits ⟨s1.1,s2.1,s4.1,s6.1,s7.1,s8.1⟩)) (c:=6) w8.1 (by omega)
 generalize h9:aw s8.2 ((!fits ⟨s1.1,s2.1,s4.1,s6.1,s7.1,s8.1⟩)) 6=s9 at w9⊢
 simp(disch:=omega) [au,VZ]
 simp(disch:=omega) [bJ,aL,h1,h2,h3,h4,h5,h6,h7,h8,h9,Head.o,au,VZ]
end Go.Eng.F
namespace Go.Eng.F
def ao.rd (l:ao):Prop:=(1≤l.n∧l.n≤10)∧(0≤l.tx∧l.tx≤40)∧(0≤l.txs∧l.txs≤8)∧3≤l.heads∧l.heads≤5
theorem dw {l:ao} (h:l.ok=true):l.rd:=by
 simp only[ao.ok,dK,Bool.and_eq_true,decide_eq_true_eq]at h
 exact⟨h.1.1.1.1,h.1.1.1.2,h.1.1.2,h.2⟩
theorem re {α:Type} {f:Rd→α×Rd}:∀(k:Nat) (r:Rd),(bj f k r).2.er=0→(bj f k r).1.length=k
 |0,r,_=>rfl
 |k+1,r,h=>by
  rw[bj]at h⊢
  split
  ·rename_i g
   rw[if_pos g]at h
   simp only[List.length_cons,re k _ h]
  ·rename_i g
   rw[if_neg g]at h
   exact absurd h g
theorem eD {r:Rd} {bad:Bool} {c:Nat} (h:(aw r bad c).er=0) (hc:c≠0):bad=false:=by
 unfold aw at h
 split at h
 ·exact absurd h hc
 ·rename_i g
  cases bad
  ·rfl
  ·exact absurd ⟨h,rfl⟩ g
theorem dF {r:Rd} {bad:Bool} {c:Nat} (h:r.er≠0):aw r bad c=r:=by
 unfold aw
 rw[if_neg (fun g=>h g.1)]
theorem fv {α:Type} {f:Rd→α×Rd} {k:Nat} {r:Rd} (h:r.er≠0):bj f k r=([],r):=by
 cases k
 ·rfl
 ·rw[bj,if_neg h]
theorem fe {α:Type} {f:Rd→α×Rd} {k:Nat} {r:Rd} (h:r.er=0):bj f (k+1) r=((f r).1::(bj f k (f r).2).1,(bj f k (f r).2).2):=by
 rw[bj,if_pos h]
theorem kH (b:Bytes) (r:Rd) (m:Int) (h0:0≤m∧m≤1073741824) (hr:r.wf b) (hb:b.length≤1073741824):VC cd fh (oT [] 279 (au b r) [(false,[.int .i64 m])]) (fun rs p=>rs= [(false,[.o true (some (5,1)) (bytes (bW b r m.toNat).1)])]∧p= [.pt 279 (au b (bW b r m.toNat).2)]):=by
 obtain⟨k,rfl⟩:=Int.eq_ofNat_of_zero_le h0.1
 exact xa b r k (by omega) hr hb
theorem uZ (b:Bytes) (r:Rd) (m:Int) (h0:0≤m∧m≤1073741824) (hr:r.wf b) (hb:b.length≤1073741824):VC cd il (oT [] 166 (au b r) [(false,[.int .i64 m])]) (fun rs p=>rs= [(false,[.o true (some (5,1)) (bytes (bW b r m.toNat).1)])]∧p= [.pt 166 (au b (bW b r m.toNat).2)]):=by
 obtain⟨k,rfl⟩:=Int.eq_ofNat_of_zero_le h0.1
 exact EP b r k (by omega) hr hb
abbrev gp:Nat:=203
def jI:AF:=⟨2,6,[.cell 4 11 true],(.seq (.ops [.i (.lbox 2 (.s 0)), .i (.lal 4 [.int .i64 0, .int .i64 0, .int .i64 0, .nils, .nils, .int .i64 0, .int .i64 0, .nils, .nils, .nils, .nils])]) (.seq (.ops [ql 8 2 2 5 true,qm 9 1, .i (.call 11 201 false [(.s 8),(.s 9)]), .i (.bld 11 [.int .i64 0, .int .i64 0, .int .i64 0, .nils, .nils, .int .i64 0, .int .i64 0, .nils, .nils, .nils, .nils] [(0,10,(.s 10))]), .i (.lal 5 [.int .i64 0, .int .i64 0, .int .i64 0, .nils, .nils, .int .i64 0, .int .i64 0, .nils, .nils, .nils, .nils]),qs 5 5 11 11]) (.seq (.ops [qm 12 1,qf 13 2 2,ql 14 2 13 1 false, .i (.bin 15 .add (.s 14) (qi 1)), .i (.call 17 276 false [(.s 12),(.s 15),(qi 3)]),qm 6 16]) (.seq (.seq (.ops [.i (.mov 7 (qi 0))]) (.block 0 (.loop [37,36,35,34,33,32,31,30,29,28,27,26,25,24,23,22,21,20,19,18,17] (.seq (.seq (.ops [qm 17 7,qm 18 6,qd 19 .lss 17 18,qm 20 19, .g 20 true 22 (.mov 21 (.s 1)), .g 20 true 23 (.nch 22 (.s 21)), .g 20 true 24 (.fad 23 (.s 22) 2), .g 20 true 25 (.ldh 24 (.s 23) 1 false), .g 20 true 26 (.bin 25 .eql (.s 24) (qi 0)), .i (.pick 26 (.s 20) (.s 25) (qb false))]) (.cond (.s 26) .skip (.exit 0))) (.seq (.block 1 (.ops [qf 29 5 10,ql 30 5 29 1 false,qm 31 1,qf 32 2 1,ql 33 2 32 1 false, .i (.call 35 281 false [(.s 31),(.s 33)]), .i (.lsl 35 1 1 [.nils] [(0,1,(.s 34))]), .i (.app 36 24 1 24 (.s 30) (.s 35)),qf 37 5 10,qs 5 37 36 1])) (.ops [qm 27 7, .i (.bin 28 .add (.s 27) (qi 1)),qm 7 28])))))) (.seq (.ops [qm 38 1,qm 39 1, .i (.nch 40 (.s 39)),qf 41 40 2, .i (.ldh 42 (.s 41) 1 false), .i (.bin 43 .neq (.s 42) (qi 0)),qm 44 43, .g 44 false 46 (.fad 45 (.s 5) 0), .g 44 false 47 (.fad 46 (.s 45) 4), .g 44 false 48 (.ldl 47 5 (.s 46) 1 false), .g 44 false 49 (.fad 48 (.s 5) 10), .g 44 false 50 (.ldl 49 5 (.s 48) 1 false), .g 44 false 51 (.call 51 282 false [(.s 49)]), .g 44 false 52 (.call 52 120 false [(.s 47),(.s 50)]), .i (.pick 52 (.s 44) (qb true) (.s 51)), .i (.call 54 279 false [(.s 38),(.s 52),(qi 7)])]) (.seq (.ops [ql 54 5 5 11 true,qs 4 4 54 11]) .ret))))))⟩
theorem uz:cd gp=some jI:=by kernel_rfl
theorem sy (b:Bytes) (l:ao) (r:Rd) (hL:l.rd) (hr:r.wf b) (hb:b.length≤1073741824):VC cd gp (oT [(true,l.c)] 279 (au b r) []) (fun rs p=>rs= [(true,(cm b l r).1.o)]∧p= [.pt 279 (au b (cm b l r).2)]):=by
 refine VC.gV ?_
 obtain⟨hl,hx,ht,hh⟩:=hL
 refine bd uz rfl ?_
 simp(disch:=omega) [jI,au,ao.c,VZ]
 refine bG (gr b l r hl hr hb) ?_ (n1:=by simp(disch:=omega) [Head.o,VZ]) (n3:=by simp(disch:=omega) [Head.o,VZ])
 have w1:=fO (l:=l) hr
 generalize h1:bJ b l r=s1 at w1⊢
 simp(disch:=omega) [au,ao.c,Head.o,VZ]
 refine bG (cQ b s1.2 (l.txs+1) 3 w1.1 hb) ?_
 have w2:=cN (n:=(l.txs+1)) (c:=3) w1.1 (by omega)
 generalize h2:aL b s1.2 (l.txs+1) 3=s2 at w2⊢
 simp(disch:=omega) [au,VZ]
 have hn:s2.2.er=0→(s2.1:Int)≤l.txs:=by
  intro g
  have e:(aL b s1.2 (l.txs+1) 3).2.er=0:=by rw[h2];exact g
  have:=eD e (by omega)
  simp only[aL]at h2
  rw[show(aM b s1.2).1=s2.1 by rw[←h2]]at this
  simp only[decide_eq_false_iff_not]at this
  omega
 refine eb (σ:=Nat×Nat×List Bytes×Rd) (f0:=_) (by simp(disch:=omega) [VZ];rfl) (dt.yO (s:=5) (k:=5) (i:=10) rfl rfl) (f1:=_) (es0:=_) (by simp(disch:=omega) [VZ];rfl) (by simp(disch:=omega) [VZ];rfl) (fun p=> [(7, .val false [.int .i64 (p.1:Int)]),(5, .box [.int .i64 s1.1.view, .int .i64 s1.1.height, .int .i64 s1.1.proposer, .ow 98307 12, .ow 98308 13, .int .i64 s1.1.qc.view, .int .i64 s1.1.qc.height, .ow 98311 16, .ow 98312 17, .ow 98313 18, .ow 5 p.2.1])]) (fun p=> [(4101, .pt 5 279 [.sl (bytes b), .int .i64 (p.2.2.2.at_:Int), .int .i64 (p.2.2.2.er:Int)]),(5, .sl p.2.1 true true (some (24,1)) (dN p.2.2.1))])
  (fun p g=>(g+p.1=s2.1∧p.2.2.1.length=p.1)∧(p.2.2.2.er=0→(s2.1:Int)≤l.txs)∧p.2.2.2.wf b∧bj (fun r=>bW b r l.tx.toNat) s2.1 s2.2=(p.2.2.1++(bj (fun r=>bW b r l.tx.toNat) g p.2.2.2).1,(bj (fun r=>bW b r l.tx.toNat) g p.2.2.2).2)) (0,_,[],s2.2) s2.1 (by simp(disch:=omega) [VZ];rfl) (by simp(disch:=omega) [dN,au,VZ]) ⟨⟨by simp,rfl⟩,hn,w2.1,by simp⟩ ?_
 have hall:∀t∈(bj (fun r=>bW b r l.tx.toNat) s2.1 s2.2).1,t.length≤40:=jv (p:=fun t:Bytes=>t.length≤40) (b:=b) (fun r hr=>⟨(eX hr _).1,Nat.le_trans (eX hr _).2.1 (by omega)⟩) _ _ w2.1
 rintro⟨i,v,x,⟨qa,qe⟩⟩ nx g0 ⟨⟨hg,h5⟩,h10,h6,h7⟩ P hP
 simp only at hg h5 h6 h7 h10
 have hl2:(dN x).length=i:=by rw[cM];exact h5
 by_cases h9:qe=0
 ·subst h9
  by_cases h8:i < s2.1
  ·have h11:=h10 rfl
   simp(disch:=omega) [h8,au,VZ]
   refine bG (kH b ⟨qa,0⟩ l.tx (by omega) h6 hb) ?_
   have w5:=eX h6 l.tx.toNat
   obtain⟨g1,rfl⟩:∃g1,g0=g1+1:=⟨g0 - 1,by omega⟩
   rw[fe rfl]at h7
   simp only at h7
   generalize h12:bW b ⟨qa,0⟩ l.tx.toNat=s5 at w5 h7⊢
   simp(disch:=omega) [au,hl2,oK,VZ]
   refine hP (i+1,_,x++ [s5.1],s5.2) g1 _ _ (by omega) ⟨⟨by simp only;omega,by simp[h5]⟩,fun _=>h11,w5.1,by rw[h7];simp⟩ (by simp(disch:=omega) [VZ];rfl) (by simp(disch:=omega) [au,VZ])
  ·obtain rfl:g0=0:=by omega
   simp only[bj,List.append_nil]at h7
   have hx2:∀t∈x,t.length≤1073741823:=fun t ht=>Nat.le_trans (hall t (by rw[h7];exact ht)) (by omega)
   have h11:=h10 rfl
   simp(disch:=omega) [h8,au,VZ]
   refine cI (tI _ x rfl (by omega) hx2) ?_
   simp(disch:=omega) [VZ]
   refine cI (i4 _ _) ?_
   simp(disch:=omega) [au,VZ]
   refine bG (aW b ⟨qa,0⟩ (decide (s1.1.root=br x)) 7) ?_
   simp(disch:=omega) [cm,h1,h2,h7,Block.o,au,aH,aI,aN,VZ]
 ·rw[fv (k:=g0) (r:=⟨qa,qe⟩) h9]at h7
  simp only[List.append_nil]at h7
  by_cases h8:i < s2.1
  ·skip
   have hx2:∀t∈x,t.length≤1073741823:=fun t ht=>Nat.le_trans (hall t (by rw[h7];exact ht)) (by omega)
   simp(disch:=omega) [h8,h9,au,VZ]
   refine bG (aW b ⟨qa,qe⟩ true 7) ?_
   have h12:∀bad c,aw ⟨qa,qe⟩ bad c=⟨qa,qe⟩:=fun bad c=>dF h9
   simp(disch:=omega) [cm,h1,h2,h7,Block.o,au,aH,aI,aN,h12,VZ]
  ·skip
   have hx2:∀t∈x,t.length≤1073741823:=fun t ht=>Nat.le_trans (hall t (by rw[h7];exact ht)) (by omega)
   simp(disch:=omega) [h8,h9,au,VZ]
   refine bG (aW b ⟨qa,qe⟩ true 7) ?_
   have h12:∀bad c,aw ⟨qa,qe⟩ bad c=⟨qa,qe⟩:=fun bad c=>dF h9
   simp(disch:=omega) [cm,h1,h2,h7,Block.o,au,aH,aI,aN,h12,VZ]
abbrev pL:Nat:=128
def qx:AF:=⟨2,6,[.cell 4 11 true],(.seq (.ops [.i (.lbox 3 (.s 1)), .i (.lal 4 [.int .i64 0, .int .i64 0, .int .i64 0, .nils, .nils, .int .i64 0, .int .i64 0, .nils, .nils, .nils, .nils])]) (.seq (.ops [qm 8 0,ql 9 3 3 5 true, .i (.call 11 127 false [(.s 8),(.s 9)]), .i (.bld 11 [.int .i64 0, .int .i64 0, .int .i64 0, .nils, .nils, .int .i64 0, .int .i64 0, .nils, .nils, .nils, .nils] [(0,10,(.s 10))]), .i (.lal 5 [.int .i64 0, .int .i64 0, .int .i64 0, .nils, .nils, .int .i64 0, .int .i64 0, .nils, .nils, .nils, .nils]),qs 5 5 11 11]) (.seq (.ops [qm 12 0,qk 14 184 12,qm 6 13]) (.seq (.ops [qm 14 0,qm 15 6,qf 16 3 2,ql 17 3 16 1 false,qd 18 .gtr 15 17, .i (.call 20 132 false [(.s 14),(.s 18),(qi 3)])]) (.seq (.seq (.ops [.i (.mov 7 (qi 0))]) (.block 0 (.loop [40,39,38,37,36,35,34,33,32,31,30,29,28,27,26,25,24,23,22,21,20] (.seq (.seq (.ops [qm 20 7,qm 21 6,qd 22 .lss 20 21,qm 23 22, .g 23 true 25 (.mov 24 (.s 0)), .g 23 true 26 (.nch 25 (.s 24)), .g 23 true 27 (.fad 26 (.s 25) 2), .g 23 true 28 (.ldh 27 (.s 26) 1 false), .g 23 true 29 (.bin 28 .eql (.s 27) (qi 0)), .i (.pick 29 (.s 23) (.s 28) (qb false))]) (.cond (.s 29) .skip (.exit 0))) (.seq (.block 1 (.ops [qf 32 5 10,ql 33 5 32 1 false,qm 34 0,qf 35 3 1,ql 36 3 35 1 false, .i (.call 38 189 false [(.s 34),(.s 36)]), .i (.lsl 38 1 1 [.nils] [(0,1,(.s 37))]), .i (.app 39 24 1 24 (.s 33) (.s 38)),qf 40 5 10,qs 5 40 39 1])) (.ops [qm 30 7, .i (.bin 31 .add (.s 30) (qi 1)),qm 7 31])))))) (.seq (.seq (.ops [qm 41 0, .i (.nch 42 (.s 41)),qf 43 42 2, .i (.ldh 44 (.s 43) 1 false), .i (.bin 45 .eql (.s 44) (qi 0))]) (.cond (.s 45) (.ops [qm 46 0,qf 47 5 0,qf 48 47 4,ql 49 5 48 1 false,qf 50 5 10,ql 51 5 50 1 false,qk 53 191 51, .i (.call 54 190 false [(.s 49),(.s 52)]), .i (.not 54 (.s 53)), .i (.call 56 132 false [(.s 46),(.s 54),(qi 7)])]) .skip)) (.seq (.ops [ql 56 5 5 11 true,qs 4 4 56 11]) .ret)))))))⟩
theorem yP:cd pL=some qx:=by kernel_rfl
theorem GA (b:Bytes) (l:ao) (r:Rd) (hL:l.rd) (hr:r.wf b) (hb:b.length≤1073741824):VC cd pL (oT [] 166 (au b r) [(true,l.c)]) (fun rs p=>rs= [(true,(cm b l r).1.o)]∧p= [.pt 166 (au b (cm b l r).2)]):=by
 refine VC.gV ?_
 obtain⟨hl,hx,ht,hh⟩:=hL
 refine bd yP rfl ?_
 simp(disch:=omega) [qx,au,ao.c,VZ]
 refine bG (tU b l r hl hr hb) ?_ (n1:=by simp(disch:=omega) [Head.o,VZ]) (n3:=by simp(disch:=omega) [Head.o,VZ])
 have w1:=fO (l:=l) hr
 generalize h1:bJ b l r=s1 at w1⊢
 simp(disch:=omega) [au,ao.c,Head.o,VZ]
 refine bG (bO b s1.2 w1.1 hb) ?_
 have w2:=aR w1.1
 generalize h2:aM b s1.2=s2 at w2⊢
 simp(disch:=omega) [au,VZ]
 refine bG (az b s2.2 (decide (l.txs < (s2.1:Int))) 3) ?_
 have w3:=aV (bad:=decide (l.txs < (s2.1:Int))) (c:=3) w2.1 (by omega)
 generalize h3':aw s2.2 (decide (l.txs < (s2.1:Int))) 3=s3 at w3⊢
 have h3:aw s2.2 (decide (l.txs+1≤(s2.1:Int))) 3=s3:=h3'
 simp(disch:=omega) [au,VZ]
 have hn:s3.er=0→(s2.1:Int)≤l.txs:=by
  intro g
  have e:=eD (by rw[h3];exact g) (by omega)
  simp only[decide_eq_false_iff_not]at e
  omega
 refine eb (σ:=Nat×Nat×List Bytes×Rd) (f0:=_) (by simp(disch:=omega) [VZ];rfl) (dt.yO (s:=5) (k:=5) (i:=10) rfl rfl) (f1:=_) (es0:=_) (by simp(disch:=omega) [VZ];rfl) (by simp(disch:=omega) [VZ];rfl) (fun p=> [(7, .val false [.int .i64 (p.1:Int)]),(5, .box [.int .i64 s1.1.view, .int .i64 s1.1.height, .int .i64 s1.1.proposer, .ow 98307 12, .ow 98308 13, .int .i64 s1.1.qc.view, .int .i64 s1.1.qc.height, .ow 98311 16, .ow 98312 17, .ow 98313 18, .ow 5 p.2.1])]) (fun p=> [(4096, .pt 0 166 [.sl (bytes b), .int .i64 (p.2.2.2.at_:Int), .int .i64 (p.2.2.2.er:Int)]),(5, .sl p.2.1 true true (some (24,1)) (dN p.2.2.1))])
  (fun p g=>(g+p.1=s2.1∧p.2.2.1.length=p.1)∧(p.2.2.2.er=0→(s2.1:Int)≤l.txs)∧p.2.2.2.wf b∧bj (fun r=>bW b r l.tx.toNat) s2.1 s3=(p.2.2.1++(bj (fun r=>bW b r l.tx.toNat) g p.2.2.2).1,(bj (fun r=>bW b r l.tx.toNat) g p.2.2.2).2)) (0,_,[],s3) s2.1 (by simp(disch:=omega) [VZ];rfl) (by simp(disch:=omega) [dN,au,VZ]) ⟨⟨by simp,rfl⟩,hn,w3,by simp⟩ ?_
 have hall:∀t∈(bj (fun r=>bW b r l.tx.toNat) s2.1 s3).1,t.length≤40:=jv (p:=fun t:Bytes=>t.length≤40) (b:=b) (fun r hr=>⟨(eX hr _).1,Nat.le_trans (eX hr _).2.1 (by omega)⟩) _ _ w3
 rintro⟨i,v,x,⟨qa,qe⟩⟩ nx g0 ⟨⟨hg,h5⟩,h10,h6,h7⟩ P hP
 simp only at hg h5 h6 h7 h10
 have hl2:(dN x).length=i:=by rw[cM];exact h5
 by_cases h9:qe=0
 ·subst h9
  by_cases h8:i < s2.1
  ·have h11:=h10 rfl
   simp(disch:=omega) [h8,au,VZ]
   refine bG (uZ b ⟨qa,0⟩ l.tx (by omega) h6 hb) ?_
   have w5:=eX h6 l.tx.toNat
   obtain⟨g1,rfl⟩:∃g1,g0=g1+1:=⟨g0 - 1,by omega⟩
   rw[fe rfl]at h7
   simp only at h7
   generalize h12:bW b ⟨qa,0⟩ l.tx.toNat=s5 at w5 h7⊢
   simp(disch:=omega) [au,hl2,oK,VZ]
   refine hP (i+1,_,x++ [s5.1],s5.2) g1 _ _ (by omega) ⟨⟨by simp only;omega,by simp[h5]⟩,fun _=>h11,w5.1,by rw[h7];simp⟩ (by simp(disch:=omega) [VZ];rfl) (by simp(disch:=omega) [au,VZ])
  ·obtain rfl:g0=0:=by omega
   simp only[bj,List.append_nil]at h7
   have hx2:∀t∈x,t.length≤1073741823:=fun t ht=>Nat.le_trans (hall t (by rw[h7];exact ht)) (by omega)
   have h11:=h10 rfl
   simp(disch:=omega) [h8,au,VZ]
   refine cI (uq _ x rfl (by omega) hx2) ?_
   simp(disch:=omega) [VZ]
   refine cI (i0 _ _) ?_
   simp(disch:=omega) [au,VZ]
   refine bG (az b ⟨qa,0⟩ (!decide (s1.1.root=br x)) 7) ?_
   simp(disch:=omega) [cm,aL,h1,h2,h3,h7,Block.o,au,aH,aI,aN,VZ]
 ·rw[fv (k:=g0) (r:=⟨qa,qe⟩) h9]at h7
  simp only[List.append_nil]at h7
  by_cases h8:i < s2.1
  ·skip
   have hx2:∀t∈x,t.length≤1073741823:=fun t ht=>Nat.le_trans (hall t (by rw[h7];exact ht)) (by omega)
   simp(disch:=omega) [h8,h9,au,VZ]
   have h12:∀bad c,aw ⟨qa,qe⟩ bad c=⟨qa,qe⟩:=fun bad c=>dF h9
   simp(disch:=omega) [cm,aL,h1,h2,h3,h7,Block.o,au,aH,aI,aN,h12,VZ]
  ·skip
   have hx2:∀t∈x,t.length≤1073741823:=fun t ht=>Nat.le_trans (hall t (by rw[h7];exact ht)) (by omega)
   simp(disch:=omega) [h8,h9,au,VZ]
   have h12:∀bad c,aw ⟨qa,qe⟩ bad c=⟨qa,qe⟩:=fun bad c=>dF h9
   simp(disch:=omega) [cm,aL,h1,h2,h3,h7,Block.o,au,aH,aI,aN,h12,VZ]
end Go.Eng.F
namespace Go.Eng.F
theorem FQ (l:List Head) (h:Head):ud l++ [[.int .i64 h.view, .int .i64 h.height, .int .i64 h.proposer, .sl (bytes h.parent), .sl (bytes h.root), .int .i64 h.qc.view, .int .i64 h.qc.height, .sl (bytes h.qc.block), .sl (bytes h.qc.bits), .sl (dN h.qc.tags)]]=ud (l++ [h]):=by simp[ud,Head.c]
theorem wy {b:Bytes} {l:ao} {r:Rd} (h:r.er≠0):(jD b l r).2=r:=by simp[jD,aM,aY,h]
theorem JL.i64 {n:Int} (h:JL n):ru n:=⟨by have:=h.1;omega,by have:=h.2;omega⟩
theorem Qc.rd.wf {q:Qc} (h:q.rd):q.wf:=by
 obtain⟨⟨h1,h2⟩,h3,h4,h5,h6⟩:=h
 refine⟨h1.i64,h2.i64,?_,?_,?_⟩ <;>simp only[Sz] <;>omega
theorem Head.rd.wf {h:Head} (w:h.rd):h.wf:=by
 obtain⟨⟨h1,h2,h3⟩,h4,h5,h6⟩:=w
 refine⟨h1.i64,h2.i64,h3.i64,?_,?_,h6.wf⟩ <;>simp only[Sz] <;>omega
abbrev gf:Nat:=207
def jA:AF:=⟨2,6,[.cell 4 6 true],(.seq (.ops [.i (.lbox 2 (.s 0)), .i (.lal 4 [.nils, .int .i64 0, .int .i64 0, .nils, .nils, .nils])]) (.seq (.ops [.i (.bld 8 [.nils, .int .i64 0, .int .i64 0, .nils, .nils, .nils] []),qm 9 1,qk 11 274 9, .i (.lal 5 [.nils, .int .i64 0, .int .i64 0, .nils, .nils, .nils]),qs 5 5 8 6,qm 6 10]) (.seq (.ops [qm 11 1,qm 12 6, .i (.bin 13 .geq (.s 12) (qi 3)), .i (.call 15 279 false [(.s 11),(.s 13),(qi 5)])]) (.seq (.ops [qm 15 1,qm 16 6,qf 17 2 4,ql 18 2 17 1 false,qd 19 .leq 16 18, .i (.call 21 279 false [(.s 15),(.s 19),(qi 3)])]) (.seq (.seq (.ops [.i (.mov 7 (qi 0))]) (.block 0 (.loop [40,39,38,37,36,35,34,33,32,31,30,29,28,27,26,25,24,23,22,21] (.seq (.seq (.ops [qm 21 7,qm 22 6,qd 23 .lss 21 22,qm 24 23, .g 24 true 26 (.mov 25 (.s 1)), .g 24 true 27 (.nch 26 (.s 25)), .g 24 true 28 (.fad 27 (.s 26) 2), .g 24 true 29 (.ldh 28 (.s 27) 1 false), .g 24 true 30 (.bin 29 .eql (.s 28) (qi 0)), .i (.pick 30 (.s 24) (.s 29) (qb false))]) (.cond (.s 30) .skip (.exit 0))) (.seq (.block 1 (.ops [qf 33 5 0,ql 34 5 33 1 false,ql 35 2 2 5 true,qm 36 1, .i (.call 38 201 false [(.s 35),(.s 36)]), .i (.lsl 38 10 1 qz [(0,10,(.s 37))]), .i (.app 39 64 10 160 (.s 34) (.s 38)),qf 40 5 0,qs 5 40 39 1])) (.ops [qm 31 7, .i (.bin 32 .add (.s 31) (qi 1)),qm 7 32])))))) (.seq (.ops [ql 41 2 2 5 true,qm 42 1, .i (.call 44 199 false [(.s 41),(.s 42)]),qf 44 5 1,qs 5 44 43 5]) (.seq (.ops [qm 45 1,qm 46 1, .i (.nch 47 (.s 46)),qf 48 47 2, .i (.ldh 49 (.s 48) 1 false), .i (.bin 50 .neq (.s 49) (qi 0)),qm 51 50, .g 51 false 53 (.ldl 52 5 (.s 5) 6 true), .g 51 false 54 (.call 54 283 false [(.s 52)]), .i (.pick 54 (.s 51) (qb true) (.s 53)), .i (.call 56 279 false [(.s 45),(.s 54),(qi 6)])]) (.seq (.ops [ql 56 5 5 6 true,qs 4 4 56 6]) .ret))))))))⟩
theorem uD:cd gf=some jA:=by kernel_rfl
theorem sR (b:Bytes) (l:ao) (r:Rd) (hL:l.rd) (hr:r.wf b) (hb:b.length≤1073741824):VC cd gf (oT [(true,l.c)] 279 (au b r) []) (fun rs p=>rs= [(true,(b7 b l r).1.o)]∧p= [.pt 279 (au b (b7 b l r).2)]):=by
 refine VC.gV ?_
 obtain⟨hl,hx,ht,hh⟩:=hL
 refine bd uD rfl ?_
 simp(disch:=omega) [jA,au,ao.c,VZ]
 refine bG (bH b r hr hb) ?_
 have w1:=aR hr
 generalize h1:aM b r=s1 at w1⊢
 simp(disch:=omega) [au,VZ]
 refine bG (aW b s1.2 (decide (3≤(s1.1:Int))) 5) ?_
 have e2:(!decide (3≤(s1.1:Int)))=decide (s1.1 < 3):=by rw[←decide_not,decide_eq_decide];omega
 rw[e2]
 have w2:=aV (bad:=decide (s1.1 < 3)) (c:=5) w1.1 (by omega)
 generalize h2:aw s1.2 (decide (s1.1 < 3)) 5=s2 at w2⊢
 simp(disch:=omega) [au,VZ]
 refine bG (aW b s2 (decide ((s1.1:Int)≤l.heads)) 3) ?_
 have e3:(!decide ((s1.1:Int)≤l.heads))=decide (l.heads < (s1.1:Int)):=by rw[←decide_not,decide_eq_decide];omega
 rw[e3]
 have w3:=aV (bad:=decide (l.heads < (s1.1:Int))) (c:=3) w2 (by omega)
 generalize h3:aw s2 (decide (l.heads < (s1.1:Int))) 3=s3 at w3⊢
 simp(disch:=omega) [au,VZ]
 have hn:s3.er=0→3≤s1.1∧(s1.1:Int)≤l.heads:=by
  intro g
  have e:=eD (by rw[h3];exact g) (by omega)
  have g2:s2.er=0:=by
   have:=dF (r:=s2) (bad:=decide (l.heads < (s1.1:Int))) (c:=3)
   rw[h3]at this
   by_cases g3:s2.er=0
   ·exact g3
   ·rw[←this g3];exact g
  have e2:=eD (by rw[h2];exact g2) (by omega)
  simp only[decide_eq_false_iff_not]at e e2
  omega
 refine eb (σ:=Nat×Nat×List Head×Rd) (f0:=_) (by simp(disch:=omega) [VZ];rfl) (dt.yO (s:=5) (k:=5) (i:=0) rfl rfl) (f1:=_) (es0:=_) (by simp(disch:=omega) [VZ];rfl) (by simp(disch:=omega) [VZ];rfl) (fun p=> [(7, .val false [.int .i64 (p.1:Int)]),(5, .box [.ow 5 p.2.1, .int .i64 0, .int .i64 0, .nils, .nils, .nils])]) (fun p=> [(4101, .pt 5 279 [.sl (bytes b), .int .i64 (p.2.2.2.at_:Int), .int .i64 (p.2.2.2.er:Int)]),(5, .sl p.2.1 true true (some (64,10)) (ud p.2.2.1))])
  (fun p g=>(g+p.1=s1.1∧p.2.2.1.length=p.1)∧(p.2.2.2.er=0→3≤s1.1∧(s1.1:Int)≤l.heads)∧p.2.2.2.wf b∧bj (bJ b l) s1.1 s3=(p.2.2.1++(bj (bJ b l) g p.2.2.2).1,(bj (bJ b l) g p.2.2.2).2)) (0,_,[],s3) s1.1 (by simp(disch:=omega) [VZ];rfl) (by simp(disch:=omega) [ud,au,VZ]) ⟨⟨by simp,rfl⟩,hn,w3,by simp⟩ ?_
 have hall:∀t∈(bj (bJ b l) s1.1 s3).1,t.rd:=jv (p:=fun t:Head=>t.rd) (b:=b) (fun r hr=>fO hr) _ _ w3
 rintro⟨i,v,x,⟨qa,qe⟩⟩ nx g0 ⟨⟨hg,h5⟩,h10,h6,h7⟩ P hP
 simp only at hg h5 h6 h7 h10
 have hl2:(ud x).length=i:=by rw[wz];exact h5
 by_cases h9:qe=0
 ·subst h9
  by_cases h8:i < s1.1
  ·have h11:=h10 rfl
   simp(disch:=omega) [h8,au,VZ]
   refine bG (gr b l ⟨qa,0⟩ hl h6 hb) ?_ (n1:=by simp(disch:=omega) [Head.o,VZ]) (n3:=by simp(disch:=omega) [Head.o,VZ])
   have w5:=fO (l:=l) h6
   obtain⟨g1,rfl⟩:∃g1,g0=g1+1:=⟨g0 - 1,by omega⟩
   rw[fe rfl]at h7
   simp only at h7
   generalize h12:bJ b l ⟨qa,0⟩=s5 at w5 h7⊢
   simp(disch:=omega) [au,hl2,Head.o,FQ,VZ]
   refine hP (i+1,_,x++ [s5.1],s5.2) g1 _ _ (by omega) ⟨⟨by simp only;omega,by simp[h5]⟩,fun _=>h11,w5.1,by rw[h7];simp⟩ (by simp(disch:=omega) [VZ];rfl) (by simp(disch:=omega) [au,VZ])
  ·obtain rfl:g0=0:=by omega
   simp only[bj,List.append_nil]at h7
   have hx2:∀t∈x,t.wf:=fun t ht=>(hall t (by rw[h7];exact ht)).wf
   simp(disch:=omega) [h8,au,VZ]
   refine bG (ey b l ⟨qa,0⟩ hl h6 hb) ?_ (n1:=by simp(disch:=omega) [Qc.o,VZ]) (n3:=by simp(disch:=omega) [Qc.o,VZ])
   have w13:=ij (l:=l) h6
   generalize h13:jD b l ⟨qa,0⟩=s13 at w13⊢
   obtain⟨q2,⟨qa,qe⟩⟩:=s13
   simp only at w13
   simp(disch:=omega) [au,Qc.o,VZ]
   by_cases h14:qe=0
   ·subst h14
    have h15:3≤x.length:=by have:=h10 rfl;omega
    simp(disch:=omega) [VZ]
    refine cI (Gg ⟨x,q2⟩ (by simp only;omega) ⟨⟨by have:=h10 rfl;simp only[Sz];omega,hx2⟩,w13.2.wf⟩) ?_ (ha:=by first|rfl|(simp[Proof.c,VY] <;>repeat' constructor))
    simp(disch:=omega) [au,VZ]
    refine bG (aW b ⟨qa,0⟩ (kh ⟨x,q2⟩) 6) ?_
    simp(disch:=omega) [b7,h1,h2,h3,h7,h13,Proof.o,au,aH,aI,aN,VZ]
   ·simp(disch:=omega) [h14,au,VZ]
    refine bG (aW b ⟨qa,qe⟩ true 6) ?_
    have h12:∀bad c,aw ⟨qa,qe⟩ bad c=⟨qa,qe⟩:=fun bad c=>dF h14
    simp(disch:=omega) [b7,h1,h2,h3,h7,h13,Proof.o,au,aH,aI,aN,h12,VZ]
 ·rw[fv (k:=g0) (r:=⟨qa,qe⟩) h9]at h7
  simp only[List.append_nil]at h7
  by_cases h8:i < s1.1
  ·skip
   have hx2:∀t∈x,t.wf:=fun t ht=>(hall t (by rw[h7];exact ht)).wf
   simp(disch:=omega) [h8,h9,au,VZ]
   refine bG (ey b l ⟨qa,qe⟩ hl h6 hb) ?_ (n1:=by simp(disch:=omega) [Qc.o,VZ]) (n3:=by simp(disch:=omega) [Qc.o,VZ])
   have w13:=ij (l:=l) h6
   have h16:=wy (b:=b) (l:=l) (r:=⟨qa,qe⟩) h9
   generalize h13:jD b l ⟨qa,qe⟩=s13 at w13 h16⊢
   obtain⟨q2,q3⟩:=s13
   simp only at w13 h16
   subst h16
   simp(disch:=omega) [au,Qc.o,h9,VZ]
   refine bG (aW b ⟨qa,qe⟩ true 6) ?_
   have h12:∀bad c,aw ⟨qa,qe⟩ bad c=⟨qa,qe⟩:=fun bad c=>dF h9
   simp(disch:=omega) [b7,h1,h2,h3,h7,h13,Proof.o,au,aH,aI,aN,h12,VZ]
  ·skip
   have hx2:∀t∈x,t.wf:=fun t ht=>(hall t (by rw[h7];exact ht)).wf
   simp(disch:=omega) [h8,h9,au,VZ]
   refine bG (ey b l ⟨qa,qe⟩ hl h6 hb) ?_ (n1:=by simp(disch:=omega) [Qc.o,VZ]) (n3:=by simp(disch:=omega) [Qc.o,VZ])
   have w13:=ij (l:=l) h6
   have h16:=wy (b:=b) (l:=l) (r:=⟨qa,qe⟩) h9
   generalize h13:jD b l ⟨qa,qe⟩=s13 at w13 h16⊢
   obtain⟨q2,q3⟩:=s13
   simp only at w13 h16
   subst h16
   simp(disch:=omega) [au,Qc.o,h9,VZ]
   refine bG (aW b ⟨qa,qe⟩ true 6) ?_
   have h12:∀bad c,aw ⟨qa,qe⟩ bad c=⟨qa,qe⟩:=fun bad c=>dF h9
   simp(disch:=omega) [b7,h1,h2,h3,h7,h13,Proof.o,au,aH,aI,aN,h12,VZ]
abbrev pS:Nat:=130
def pQ:AF:=⟨2,6,[.cell 4 6 true],(.seq (.ops [.i (.lbox 3 (.s 1)), .i (.lal 4 [.nils, .int .i64 0, .int .i64 0, .nils, .nils, .nils])]) (.seq (.ops [.i (.bld 8 [.nils, .int .i64 0, .int .i64 0, .nils, .nils, .nils] []), .i (.lal 5 [.nils, .int .i64 0, .int .i64 0, .nils, .nils, .nils]),qs 5 5 8 6]) (.seq (.ops [qm 9 0,qk 11 184 9,qm 6 10]) (.seq (.ops [qm 11 0,qm 12 6, .i (.bin 13 .lss (.s 12) (qi 3)), .i (.call 15 132 false [(.s 11),(.s 13),(qi 5)])]) (.seq (.ops [qm 15 0,qm 16 6,qf 17 3 4,ql 18 3 17 1 false,qd 19 .gtr 16 18, .i (.call 21 132 false [(.s 15),(.s 19),(qi 3)])]) (.seq (.seq (.ops [.i (.mov 7 (qi 0))]) (.block 0 (.loop [40,39,38,37,36,35,34,33,32,31,30,29,28,27,26,25,24,23,22,21] (.seq (.seq (.ops [qm 21 7,qm 22 6,qd 23 .lss 21 22,qm 24 23, .g 24 true 26 (.mov 25 (.s 0)), .g 24 true 27 (.nch 26 (.s 25)), .g 24 true 28 (.fad 27 (.s 26) 2), .g 24 true 29 (.ldh 28 (.s 27) 1 false), .g 24 true 30 (.bin 29 .eql (.s 28) (qi 0)), .i (.pick 30 (.s 24) (.s 29) (qb false))]) (.cond (.s 30) .skip (.exit 0))) (.seq (.block 1 (.ops [qf 33 5 0,ql 34 5 33 1 false,qm 35 0,ql 36 3 3 5 true, .i (.call 38 127 false [(.s 35),(.s 36)]), .i (.lsl 38 10 1 qz [(0,10,(.s 37))]), .i (.app 39 64 10 160 (.s 34) (.s 38)),qf 40 5 0,qs 5 40 39 1])) (.ops [qm 31 7, .i (.bin 32 .add (.s 31) (qi 1)),qm 7 32])))))) (.seq (.ops [qm 41 0,ql 42 3 3 5 true, .i (.call 44 126 false [(.s 41),(.s 42)]),qf 44 5 1,qs 5 44 43 5]) (.seq (.seq (.ops [qm 45 0, .i (.nch 46 (.s 45)),qf 47 46 2, .i (.ldh 48 (.s 47) 1 false), .i (.bin 49 .eql (.s 48) (qi 0))]) (.cond (.s 49) (.ops [qm 50 0,ql 51 5 5 6 true,qk 53 192 51, .i (.not 53 (.s 52)), .i (.call 55 132 false [(.s 50),(.s 53),(qi 6)])]) .skip)) (.seq (.ops [ql 55 5 5 6 true,qs 4 4 55 6]) .ret)))))))))⟩
theorem yX:cd pS=some pQ:=by kernel_rfl
theorem GN (b:Bytes) (l:ao) (r:Rd) (hL:l.rd) (hr:r.wf b) (hb:b.length≤1073741824):VC cd pS (oT [] 166 (au b r) [(true,l.c)]) (fun rs p=>rs= [(true,(b7 b l r).1.o)]∧p= [.pt 166 (au b (b7 b l r).2)]):=by
 refine VC.gV ?_
 obtain⟨hl,hx,ht,hh⟩:=hL
 refine bd yX rfl ?_
 simp(disch:=omega) [pQ,au,ao.c,VZ]
 refine bG (bO b r hr hb) ?_
 have w1:=aR hr
 generalize h1:aM b r=s1 at w1⊢
 simp(disch:=omega) [au,VZ]
 refine bG (az b s1.2 (decide ((s1.1:Int) < 3)) 5) ?_
 have e2:decide ((s1.1:Int) < 3)=decide (s1.1 < 3):=by first|rfl|(rw[decide_eq_decide];omega)
 rw[e2]
 have w2:=aV (bad:=decide (s1.1 < 3)) (c:=5) w1.1 (by omega)
 generalize h2:aw s1.2 (decide (s1.1 < 3)) 5=s2 at w2⊢
 simp(disch:=omega) [au,VZ]
 refine bG (az b s2 (decide (l.heads < (s1.1:Int))) 3) ?_
 have e3:decide (l.heads < (s1.1:Int))=decide (l.heads < (s1.1:Int)):=by first|rfl|(rw[decide_eq_decide];omega)
 rw[e3]
 have w3:=aV (bad:=decide (l.heads < (s1.1:Int))) (c:=3) w2 (by omega)
 generalize h3:aw s2 (decide (l.heads < (s1.1:Int))) 3=s3 at w3⊢
 simp(disch:=omega) [au,VZ]
 have hn:s3.er=0→3≤s1.1∧(s1.1:Int)≤l.heads:=by
  intro g
  have e:=eD (by rw[h3];exact g) (by omega)
  have g2:s2.er=0:=by
   have:=dF (r:=s2) (bad:=decide (l.heads < (s1.1:Int))) (c:=3)
   rw[h3]at this
   by_cases g3:s2.er=0
   ·exact g3
   ·rw[←this g3];exact g
  have e2:=eD (by rw[h2];exact g2) (by omega)
  simp only[decide_eq_false_iff_not]at e e2
  omega
 refine eb (σ:=Nat×Nat×List Head×Rd) (f0:=_) (by simp(disch:=omega) [VZ];rfl) (dt.yO (s:=5) (k:=5) (i:=0) rfl rfl) (f1:=_) (es0:=_) (by simp(disch:=omega) [VZ];rfl) (by simp(disch:=omega) [VZ];rfl) (fun p=> [(7, .val false [.int .i64 (p.1:Int)]),(5, .box [.ow 5 p.2.1, .int .i64 0, .int .i64 0, .nils, .nils, .nils])]) (fun p=> [(4096, .pt 0 166 [.sl (bytes b), .int .i64 (p.2.2.2.at_:Int), .int .i64 (p.2.2.2.er:Int)]),(5, .sl p.2.1 true true (some (64,10)) (ud p.2.2.1))])
  (fun p g=>(g+p.1=s1.1∧p.2.2.1.length=p.1)∧(p.2.2.2.er=0→3≤s1.1∧(s1.1:Int)≤l.heads)∧p.2.2.2.wf b∧bj (bJ b l) s1.1 s3=(p.2.2.1++(bj (bJ b l) g p.2.2.2).1,(bj (bJ b l) g p.2.2.2).2)) (0,_,[],s3) s1.1 (by simp(disch:=omega) [VZ];rfl) (by simp(disch:=omega) [ud,au,VZ]) ⟨⟨by simp,rfl⟩,hn,w3,by simp⟩ ?_
 have hall:∀t∈(bj (bJ b l) s1.1 s3).1,t.rd:=jv (p:=fun t:Head=>t.rd) (b:=b) (fun r hr=>fO hr) _ _ w3
 rintro⟨i,v,x,⟨qa,qe⟩⟩ nx g0 ⟨⟨hg,h5⟩,h10,h6,h7⟩ P hP
 simp only at hg h5 h6 h7 h10
 have hl2:(ud x).length=i:=by rw[wz];exact h5
 by_cases h9:qe=0
 ·subst h9
  by_cases h8:i < s1.1
  ·have h11:=h10 rfl
   simp(disch:=omega) [h8,au,VZ]
   refine bG (tU b l ⟨qa,0⟩ hl h6 hb) ?_ (n1:=by simp(disch:=omega) [Head.o,VZ]) (n3:=by simp(disch:=omega) [Head.o,VZ])
   have w5:=fO (l:=l) h6
   obtain⟨g1,rfl⟩:∃g1,g0=g1+1:=⟨g0 - 1,by omega⟩
   rw[fe rfl]at h7
   simp only at h7
   generalize h12:bJ b l ⟨qa,0⟩=s5 at w5 h7⊢
   simp(disch:=omega) [au,hl2,Head.o,FQ,VZ]
   refine hP (i+1,_,x++ [s5.1],s5.2) g1 _ _ (by omega) ⟨⟨by simp only;omega,by simp[h5]⟩,fun _=>h11,w5.1,by rw[h7];simp⟩ (by simp(disch:=omega) [VZ];rfl) (by simp(disch:=omega) [au,VZ])
  ·obtain rfl:g0=0:=by omega
   simp only[bj,List.append_nil]at h7
   have hx2:∀t∈x,t.wf:=fun t ht=>(hall t (by rw[h7];exact ht)).wf
   simp(disch:=omega) [h8,au,VZ]
   refine bG (jB b l ⟨qa,0⟩ hl h6 hb) ?_ (n1:=by simp(disch:=omega) [Qc.o,VZ]) (n3:=by simp(disch:=omega) [Qc.o,VZ])
   have w13:=ij (l:=l) h6
   generalize h13:jD b l ⟨qa,0⟩=s13 at w13⊢
   obtain⟨q2,⟨qa,qe⟩⟩:=s13
   simp only at w13
   simp(disch:=omega) [au,Qc.o,VZ]
   by_cases h14:qe=0
   ·subst h14
    have h15:3≤x.length:=by have:=h10 rfl;omega
    simp(disch:=omega) [VZ]
    refine cI (ED ⟨x,q2⟩ (by simp only;omega) ⟨⟨by have:=h10 rfl;simp only[Sz];omega,hx2⟩,w13.2.wf⟩) ?_ (ha:=by first|rfl|(simp[Proof.c,VY] <;>repeat' constructor))
    simp(disch:=omega) [au,VZ]
    refine bG (az b ⟨qa,0⟩ (!kh ⟨x,q2⟩) 6) ?_
    simp(disch:=omega) [b7,h1,h2,h3,h7,h13,Proof.o,au,aH,aI,aN,VZ]
   ·simp(disch:=omega) [h14,au,VZ]
    have h12:∀bad c,aw ⟨qa,qe⟩ bad c=⟨qa,qe⟩:=fun bad c=>dF h14
    simp(disch:=omega) [b7,h1,h2,h3,h7,h13,Proof.o,au,aH,aI,aN,h12,VZ]
 ·rw[fv (k:=g0) (r:=⟨qa,qe⟩) h9]at h7
  simp only[List.append_nil]at h7
  by_cases h8:i < s1.1
  ·skip
   have hx2:∀t∈x,t.wf:=fun t ht=>(hall t (by rw[h7];exact ht)).wf
   simp(disch:=omega) [h8,h9,au,VZ]
   refine bG (jB b l ⟨qa,qe⟩ hl h6 hb) ?_ (n1:=by simp(disch:=omega) [Qc.o,VZ]) (n3:=by simp(disch:=omega) [Qc.o,VZ])
   have w13:=ij (l:=l) h6
   have h16:=wy (b:=b) (l:=l) (r:=⟨qa,qe⟩) h9
   generalize h13:jD b l ⟨qa,qe⟩=s13 at w13 h16⊢
   obtain⟨q2,q3⟩:=s13
   simp only at w13 h16
   subst h16
   simp(disch:=omega) [au,Qc.o,h9,VZ]
   have h12:∀bad c,aw ⟨qa,qe⟩ bad c=⟨qa,qe⟩:=fun bad c=>dF h9
   simp(disch:=omega) [b7,h1,h2,h3,h7,h13,Proof.o,au,aH,aI,aN,h12,VZ]
  ·skip
   have hx2:∀t∈x,t.wf:=fun t ht=>(hall t (by rw[h7];exact ht)).wf
   simp(disch:=omega) [h8,h9,au,VZ]
   refine bG (jB b l ⟨qa,qe⟩ hl h6 hb) ?_ (n1:=by simp(disch:=omega) [Qc.o,VZ]) (n3:=by simp(disch:=omega) [Qc.o,VZ])
   have w13:=ij (l:=l) h6
   have h16:=wy (b:=b) (l:=l) (r:=⟨qa,qe⟩) h9
   generalize h13:jD b l ⟨qa,qe⟩=s13 at w13 h16⊢
   obtain⟨q2,q3⟩:=s13
   simp only at w13 h16
   subst h16
   simp(disch:=omega) [au,Qc.o,h9,VZ]
   have h12:∀bad c,aw ⟨qa,qe⟩ bad c=⟨qa,qe⟩:=fun bad c=>dF h9
   simp(disch:=omega) [b7,h1,h2,h3,h7,h13,Proof.o,au,aH,aI,aN,h12,VZ]
end Go.Eng.F
namespace Go.Eng.F
def Tc.o (t:Tc):List E:= [.p (.int .i64 t.view), .o true (some (135,3)) (zY t.entries)]
theorem Fz (l:List Entry) (w h:Int) (t:Bytes):zY l++ [[.int .i64 w, .int .i64 h, .sl (bytes t)]]=zY (l++ [⟨w,h,t⟩]):=by simp[zY,Entry.c]
theorem oJ {b:Bytes} {l:ao} {v:Int} {k:Nat} {bf:Int} {r:Rd} (h:r.er≠0):eA b l v k bf r=([],r):=by
 cases k
 ·rfl
 ·rw[eA,if_neg h]
theorem kb {b:Bytes} {l:ao} {v:Int} {k:Nat} {bf:Int} {r:Rd} (h:r.er=0):eA b l v (k+1) bf r=
 (let w:=aL b r l.n 5
  let h:=aL b (aw w.2 (decide ((w.1:Int)≤bf)) 6) v 6
  let t:=aY b h.2 32
  (⟨w.1,h.1,t.1⟩::(eA b l v k w.1 t.2).1,(eA b l v k w.1 t.2).2)):=by
 rw[eA,if_pos h]
abbrev jd:Nat:=205
def ph:AF:=⟨2,6,[.cell 4 2 true],(.seq (.ops [.i (.lbox 2 (.s 0)), .i (.lal 4 [.int .i64 0, .nils])]) (.seq (.ops [qm 10 1,qk 12 274 10, .i (.bld 12 [.int .i64 0, .nils] [(0,1,(.s 11))]), .i (.lal 5 [.int .i64 0, .nils]),qs 5 5 12 2]) (.seq (.ops [qm 13 1,qf 14 2 0,ql 15 2 14 1 false, .i (.bin 16 .add (.s 15) (qi 1)), .i (.call 18 276 false [(.s 13),(.s 16),(qi 3)]),qm 6 17, .i (.mov 7 (qi (-1)))]) (.seq (.seq (.ops [.i (.mov 8 (qi 0))]) (.block 0 (.loop [56,55,54,53,52,51,50,49,48,47,46,45,44,43,42,41,40,39,38,37,36,35,34,33,32,31,30,29,28,27,26,25,24,23,22,21,20,19,18,9] (.seq (.seq (.ops [qm 18 8,qm 19 6,qd 20 .lss 18 19,qm 21 20, .g 21 true 23 (.mov 22 (.s 1)), .g 21 true 24 (.nch 23 (.s 22)), .g 21 true 25 (.fad 24 (.s 23) 2), .g 21 true 26 (.ldh 25 (.s 24) 1 false), .g 21 true 27 (.bin 26 .eql (.s 25) (qi 0)), .i (.pick 27 (.s 21) (.s 26) (qb false))]) (.cond (.s 27) .skip (.exit 0))) (.seq (.block 1 (.seq (.ops [qm 30 1,qf 31 2 0,ql 32 2 31 1 false, .i (.call 34 276 false [(.s 30),(.s 32),(qi 5)]), .i (.bld 34 [.int .i64 0, .int .i64 0, .nils] [(0,1,(.s 33))]), .i (.lal 9 [.int .i64 0, .int .i64 0, .nils]),qs 9 9 34 3]) (.seq (.ops [qm 35 1,qf 36 9 0,ql 37 9 36 1 false,qm 38 7,qd 39 .gtr 37 38, .i (.call 41 279 false [(.s 35),(.s 39),(qi 6)])]) (.seq (.ops [qf 41 9 0,ql 42 9 41 1 false,qm 7 42]) (.seq (.ops [qm 43 1,qf 44 5 0,ql 45 5 44 1 false, .i (.call 47 276 false [(.s 43),(.s 45),(qi 6)]),qf 47 9 1,qs 9 47 46 1]) (.seq (.ops [qm 48 1,qk 50 275 48,qf 50 9 2,qs 9 50 49 1]) (.ops [qf 51 5 1,ql 52 5 51 1 false,ql 53 9 9 3 true, .i (.lsl 54 3 1 [.int .i64 0, .int .i64 0, .nils] [(0,3,(.s 53))]), .i (.app 55 135 3 40 (.s 52) (.s 54)),qf 56 5 1,qs 5 56 55 1]))))))) (.ops [qm 28 8, .i (.bin 29 .add (.s 28) (qi 1)),qm 8 29])))))) (.seq (.ops [ql 57 5 5 2 true,qs 4 4 57 2]) .ret)))))⟩
theorem zg:cd jd=some ph:=by kernel_rfl
theorem wS (b:Bytes) (l:ao) (r:Rd) (hL:l.rd) (hr:r.wf b) (hb:b.length≤1073741824):VC cd jd (oT [(true,l.c)] 279 (au b r) []) (fun rs p=>rs= [(true,(uo b l r).1.o)]∧p= [.pt 279 (au b (uo b l r).2)]):=by
 refine VC.gV ?_
 obtain⟨hl,hx,ht,hh⟩:=hL
 refine bd zg rfl ?_
 simp(disch:=omega) [ph,au,ao.c,VZ]
 refine bG (bH b r hr hb) ?_
 have w1:=aR hr
 generalize h1:aM b r=s1 at w1⊢
 simp(disch:=omega) [au,VZ]
 refine bG (cQ b s1.2 (l.n+1) 3 w1.1 hb) ?_
 have w2:=cN (n:=(l.n+1)) (c:=3) w1.1 (by omega)
 generalize h2:aL b s1.2 (l.n+1) 3=s2 at w2⊢
 simp(disch:=omega) [au,VZ]
 have hn:s2.2.er=0→(s2.1:Int)≤l.n:=by
  intro g
  have e:(aL b s1.2 (l.n+1) 3).2.er=0:=by rw[h2];exact g
  have:=eD e (by omega)
  simp only[aL]at h2
  rw[show(aM b s1.2).1=s2.1 by rw[←h2]]at this
  simp only[decide_eq_false_iff_not]at this
  omega
 refine eb (σ:=Nat×Nat×Int×List Entry×Rd) (f0:=_) (by simp(disch:=omega) [VZ];rfl) (dt.yO (s:=5) (k:=5) (i:=1) rfl rfl) (f1:=_) (es0:=_) (by simp(disch:=omega) [VZ];rfl) (by simp(disch:=omega) [VZ];rfl) (fun p=> [(8, .val false [.int .i64 (p.1:Int)]),(7, .val false [.int .i64 p.2.2.1]),(5, .box [.int .i64 s1.1, .ow 5 p.2.1])]) (fun p=> [(4101, .pt 5 279 [.sl (bytes b), .int .i64 (p.2.2.2.2.at_:Int), .int .i64 (p.2.2.2.2.er:Int)]),(5, .sl p.2.1 true true (some (135,3)) (zY p.2.2.2.1))])
  (fun p g=>(g+p.1=s2.1∧p.2.2.2.1.length=p.1)∧(p.2.2.2.2.er=0→(s2.1:Int)≤l.n)∧p.2.2.2.2.wf b∧(-1≤p.2.2.1∧p.2.2.1≤1152921504606846975)∧eA b l s1.1 s2.1 (-1) s2.2=(p.2.2.2.1++(eA b l s1.1 g p.2.2.1 p.2.2.2.2).1,(eA b l s1.1 g p.2.2.1 p.2.2.2.2).2)) (0,_, -1,[],s2.2) s2.1 (by simp(disch:=omega) [VZ];rfl) (by simp(disch:=omega) [zY,au,VZ]) ⟨⟨by simp,rfl⟩,hn,w2.1,⟨by simp,by simp⟩,by simp⟩ ?_
 rintro⟨i,v,bf,x,⟨qa,qe⟩⟩ nx g0 ⟨⟨hg,h5⟩,h10,h6,hbf,h7⟩ P hP
 simp only at hg h5 h6 h7 h10 hbf
 have hl2:(zY x).length=i:=by rw[F8];exact h5
 by_cases h9:qe=0
 ·subst h9
  by_cases h8:i < s2.1
  ·have h11:=h10 rfl
   simp(disch:=omega) [h8,au,VZ]
   refine bG (cQ b ⟨qa,0⟩ l.n 5 h6 hb) ?_
   have w21:=cN (n:=l.n) (c:=5) h6 (by omega)
   generalize h21:aL b ⟨qa,0⟩ l.n 5=s21 at w21⊢
   simp(disch:=omega) [au,VZ]
   refine bG (aW b s21.2 (decide (bf < (s21.1:Int))) 6) ?_
   have e22:(!decide (bf < (s21.1:Int)))=decide ((s21.1:Int)≤bf):=by rw[←decide_not,decide_eq_decide];omega
   rw[e22]
   have w22:=aV (bad:=decide ((s21.1:Int)≤bf)) (c:=6) w21.1 (by omega)
   generalize h22:aw s21.2 (decide ((s21.1:Int)≤bf)) 6=s22 at w22⊢
   simp(disch:=omega) [au,VZ]
   refine bG (cQ b s22 (s1.1:Int) 6 w22 hb) ?_
   have w23:=cN (n:=(s1.1:Int)) (c:=6) w22 (by omega)
   generalize h23:aL b s22 (s1.1:Int) 6=s23 at w23⊢
   simp(disch:=omega) [au,VZ]
   refine bG (cJ b s23.2 w23.1 hb) ?_
   have w24:=bS w23.1 32
   generalize h24:aY b s23.2 32=s24 at w24⊢
   simp(disch:=omega) [au,VZ]
   obtain⟨g1,rfl⟩:∃g1,g0=g1+1:=⟨g0 - 1,by omega⟩
   rw[kb rfl]at h7
   simp only[h21,h22,h23,h24]at h7
   simp(disch:=omega) [au,hl2,Fz,VZ]
   refine hP (i+1,_,(s21.1:Int),x++ [⟨(s21.1:Int),(s23.1:Int),s24.1⟩],s24.2) g1 _ _ (by omega) ⟨⟨by simp only;omega,by simp[h5]⟩,fun _=>h11,w24.1,⟨by simp only;omega,by have:=w21.2;simp only;omega⟩,by rw[h7];simp⟩ (by simp(disch:=omega) [VZ];rfl) (by simp(disch:=omega) [au,VZ])
  ·obtain rfl:g0=0:=by omega
   simp only[eA,List.append_nil]at h7
   simp(disch:=omega) [h8,uo,h1,h2,h7,Tc.o,au,aH,aI,aN,VZ]
 ·rw[oJ (k:=g0) (r:=⟨qa,qe⟩) h9]at h7
  simp only[List.append_nil]at h7
  by_cases h8:i < s2.1
  ·simp(disch:=omega) [h8,h9,uo,h1,h2,h7,Tc.o,au,aH,aI,aN,VZ]
  ·simp(disch:=omega) [h8,h9,uo,h1,h2,h7,Tc.o,au,aH,aI,aN,VZ]
abbrev pX:Nat:=129
def pk:AF:=⟨2,7,[.cell 4 2 true],(.seq (.ops [.i (.lbox 3 (.s 1)), .i (.lal 4 [.int .i64 0, .nils])]) (.seq (.ops [qm 10 0,qk 12 184 10, .i (.bld 12 [.int .i64 0, .nils] [(0,1,(.s 11))]), .i (.lal 5 [.int .i64 0, .nils]),qs 5 5 12 2]) (.seq (.ops [qm 13 0,qk 15 184 13,qm 6 14]) (.seq (.ops [qm 15 0,qm 16 6,qf 17 3 0,ql 18 3 17 1 false,qd 19 .gtr 16 18, .i (.call 21 132 false [(.s 15),(.s 19),(qi 3)])]) (.seq (.ops [.i (.mov 7 (qi (-1)))]) (.seq (.seq (.ops [.i (.mov 8 (qi 0))]) (.block 0 (.loop [69,68,67,66,65,64,63,62,61,60,59,58,57,56,55,54,53,52,51,50,49,48,47,46,45,44,43,42,41,40,39,38,37,36,35,34,33,32,31,30,29,28,27,26,25,24,23,22,21,9] (.seq (.seq (.ops [qm 21 8,qm 22 6,qd 23 .lss 21 22,qm 24 23, .g 24 true 26 (.mov 25 (.s 0)), .g 24 true 27 (.nch 26 (.s 25)), .g 24 true 28 (.fad 27 (.s 26) 2), .g 24 true 29 (.ldh 28 (.s 27) 1 false), .g 24 true 30 (.bin 29 .eql (.s 28) (qi 0)), .i (.pick 30 (.s 24) (.s 29) (qb false))]) (.cond (.s 30) .skip (.exit 0))) (.seq (.block 1 (.seq (.ops [qm 33 0,qk 35 184 33, .i (.bld 35 [.int .i64 0, .int .i64 0, .nils] [(0,1,(.s 34))]), .i (.lal 9 [.int .i64 0, .int .i64 0, .nils]),qs 9 9 35 3]) (.seq (.ops [qm 36 0,qf 37 9 0,ql 38 9 37 1 false,qf 39 3 0,ql 40 3 39 1 false,qd 41 .geq 38 40, .i (.call 43 132 false [(.s 36),(.s 41),(qi 5)])]) (.seq (.ops [qm 43 0,qf 44 9 0,ql 45 9 44 1 false,qm 46 7,qd 47 .leq 45 46, .i (.call 49 132 false [(.s 43),(.s 47),(qi 6)])]) (.seq (.ops [qf 49 9 0,ql 50 9 49 1 false,qm 7 50]) (.seq (.ops [qm 51 0,qk 53 184 51,qf 53 9 1,qs 9 53 52 1]) (.seq (.ops [qm 54 0,qf 55 9 1,ql 56 9 55 1 false,qf 57 5 0,ql 58 5 57 1 false,qd 59 .geq 56 58, .i (.call 61 132 false [(.s 54),(.s 59),(qi 6)])]) (.seq (.ops [qm 61 0,qk 63 185 61,qf 63 9 2,qs 9 63 62 1]) (.ops [qf 64 5 1,ql 65 5 64 1 false,ql 66 9 9 3 true, .i (.lsl 67 3 1 [.int .i64 0, .int .i64 0, .nils] [(0,3,(.s 66))]), .i (.app 68 135 3 40 (.s 65) (.s 67)),qf 69 5 1,qs 5 69 68 1]))))))))) (.ops [qm 31 8, .i (.bin 32 .add (.s 31) (qi 1)),qm 8 32])))))) (.seq (.ops [ql 70 5 5 2 true,qs 4 4 70 2]) .ret)))))))⟩
theorem yL:cd pX=some pk:=by kernel_rfl
theorem GD (b:Bytes) (l:ao) (r:Rd) (hL:l.rd) (hr:r.wf b) (hb:b.length≤1073741824):VC cd pX (oT [] 166 (au b r) [(true,l.c)]) (fun rs p=>rs= [(true,(uo b l r).1.o)]∧p= [.pt 166 (au b (uo b l r).2)]):=by
 refine VC.gV ?_
 obtain⟨hl,hx,ht,hh⟩:=hL
 refine bd yL rfl ?_
 simp(disch:=omega) [pk,au,ao.c,VZ]
 refine bG (bO b r hr hb) ?_
 have w1:=aR hr
 generalize h1:aM b r=s1 at w1⊢
 simp(disch:=omega) [au,VZ]
 refine bG (bO b s1.2 w1.1 hb) ?_
 have w2:=aR w1.1
 generalize h2:aM b s1.2=s2 at w2⊢
 simp(disch:=omega) [au,VZ]
 refine bG (az b s2.2 (decide (l.n < (s2.1:Int))) 3) ?_
 have w3:=aV (bad:=decide (l.n < (s2.1:Int))) (c:=3) w2.1 (by omega)
 generalize h3':aw s2.2 (decide (l.n < (s2.1:Int))) 3=s3 at w3⊢
 have h3:aw s2.2 (decide (l.n+1≤(s2.1:Int))) 3=s3:=h3'
 simp(disch:=omega) [au,VZ]
 have hn:s3.er=0→(s2.1:Int)≤l.n:=by
  intro g
  have e:=eD (by rw[h3];exact g) (by omega)
  simp only[decide_eq_false_iff_not]at e
  omega
 refine eb (σ:=Nat×Nat×Int×List Entry×Rd) (f0:=_) (by simp(disch:=omega) [VZ];rfl) (dt.yO (s:=5) (k:=5) (i:=1) rfl rfl) (f1:=_) (es0:=_) (by simp(disch:=omega) [VZ];rfl) (by simp(disch:=omega) [VZ];rfl) (fun p=> [(8, .val false [.int .i64 (p.1:Int)]),(7, .val false [.int .i64 p.2.2.1]),(5, .box [.int .i64 s1.1, .ow 5 p.2.1])]) (fun p=> [(4096, .pt 0 166 [.sl (bytes b), .int .i64 (p.2.2.2.2.at_:Int), .int .i64 (p.2.2.2.2.er:Int)]),(5, .sl p.2.1 true true (some (135,3)) (zY p.2.2.2.1))])
  (fun p g=>(g+p.1=s2.1∧p.2.2.2.1.length=p.1)∧(p.2.2.2.2.er=0→(s2.1:Int)≤l.n)∧p.2.2.2.2.wf b∧(-1≤p.2.2.1∧p.2.2.1≤1152921504606846975)∧eA b l s1.1 s2.1 (-1) s3=(p.2.2.2.1++(eA b l s1.1 g p.2.2.1 p.2.2.2.2).1,(eA b l s1.1 g p.2.2.1 p.2.2.2.2).2)) (0,_, -1,[],s3) s2.1 (by simp(disch:=omega) [VZ];rfl) (by simp(disch:=omega) [zY,au,VZ]) ⟨⟨by simp,rfl⟩,hn,w3,⟨by simp,by simp⟩,by simp⟩ ?_
 rintro⟨i,v,bf,x,⟨qa,qe⟩⟩ nx g0 ⟨⟨hg,h5⟩,h10,h6,hbf,h7⟩ P hP
 simp only at hg h5 h6 h7 h10 hbf
 have hl2:(zY x).length=i:=by rw[F8];exact h5
 by_cases h9:qe=0
 ·subst h9
  by_cases h8:i < s2.1
  ·have h11:=h10 rfl
   simp(disch:=omega) [h8,au,VZ]
   refine bG (bO b ⟨qa,0⟩ h6 hb) ?_
   have w21:=aR h6
   generalize h21:aM b ⟨qa,0⟩=s21 at w21⊢
   simp(disch:=omega) [au,VZ]
   refine bG (az b s21.2 (decide (l.n≤(s21.1:Int))) 5) ?_
   have w22:=aV (bad:=decide (l.n≤(s21.1:Int))) (c:=5) w21.1 (by omega)
   generalize h22:aw s21.2 (decide (l.n≤(s21.1:Int))) 5=s22 at w22⊢
   simp(disch:=omega) [au,VZ]
   refine bG (az b s22 (decide ((s21.1:Int)≤bf)) 6) ?_
   have e23:decide ((s21.1:Int)≤bf)=decide ((s21.1:Int)≤bf):=by first|rfl|(rw[decide_eq_decide];omega)
   rw[e23]
   have w23:=aV (bad:=decide ((s21.1:Int)≤bf)) (c:=6) w22 (by omega)
   generalize h23:aw s22 (decide ((s21.1:Int)≤bf)) 6=s23 at w23⊢
   simp(disch:=omega) [au,VZ]
   refine bG (bO b s23 w23 hb) ?_
   have w24:=aR w23
   generalize h24:aM b s23=s24 at w24⊢
   simp(disch:=omega) [au,VZ]
   refine bG (az b s24.2 (decide (s1.1≤s24.1)) 6) ?_
   have e25:decide (s1.1≤s24.1)=decide ((s1.1:Int)≤(s24.1:Int)):=by first|rfl|(rw[decide_eq_decide];omega)
   rw[e25]
   have w25:=aV (bad:=decide ((s1.1:Int)≤(s24.1:Int))) (c:=6) w24.1 (by omega)
   generalize h25:aw s24.2 (decide ((s1.1:Int)≤(s24.1:Int))) 6=s25 at w25⊢
   simp(disch:=omega) [au,VZ]
   refine bG (fx b s25 w25 hb) ?_
   have w26:=bS w25 32
   generalize h26:aY b s25 32=s26 at w26⊢
   simp(disch:=omega) [au,VZ]
   obtain⟨g1,rfl⟩:∃g1,g0=g1+1:=⟨g0 - 1,by omega⟩
   rw[kb rfl]at h7
   simp only[aL,h21,h22,h23,h24,h25,h26]at h7
   simp(disch:=omega) [au,hl2,Fz,VZ]
   refine hP (i+1,_,(s21.1:Int),x++ [⟨(s21.1:Int),(s24.1:Int),s26.1⟩],s26.2) g1 _ _ (by omega) ⟨⟨by simp only;omega,by simp[h5]⟩,fun _=>h11,w26.1,⟨by simp only;omega,by have:=w21.2;simp only;omega⟩,by rw[h7];simp⟩ (by simp(disch:=omega) [VZ];rfl) (by simp(disch:=omega) [au,VZ])
  ·obtain rfl:g0=0:=by omega
   simp only[eA,List.append_nil]at h7
   simp(disch:=omega) [h8,uo,aL,h1,h2,h3,h7,Tc.o,au,aH,aI,aN,VZ]
 ·rw[oJ (k:=g0) (r:=⟨qa,qe⟩) h9]at h7
  simp only[List.append_nil]at h7
  by_cases h8:i < s2.1
  ·simp(disch:=omega) [h8,h9,uo,aL,h1,h2,h3,h7,Tc.o,au,aH,aI,aN,VZ]
  ·simp(disch:=omega) [h8,h9,uo,aL,h1,h2,h3,h7,Tc.o,au,aH,aI,aN,VZ]
end Go.Eng.F
