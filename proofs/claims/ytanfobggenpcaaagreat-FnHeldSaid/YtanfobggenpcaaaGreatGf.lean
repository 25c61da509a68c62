import Derived.Test.YtanfobggenpcaaaGreatProg
import Derived.KernelRfl
import Derived.Test.YtanfobggenpcaaaGreatGd
import Derived.Test.YtanfobggenpcaaaGreatGe
set_option maxRecDepth 100000
set_option linter.unusedSimpArgs false
set_option linter.unusedVariables false
namespace Go.Eng.F
def qi (n:Int):X:= .c (.val false [.int .i64 n])
def qb (b:Bool):X:= .c (.val false [.bool b])
def qm (a b:Nat):IT:= .i (.mov a (.s b))
def qf (a b n:Nat):IT:= .i (.fad a (.s b) n)
def ql (a b c n:Nat) (g:Bool):IT:= .i (.ldl a b (.s c) n g)
def qs (a b c n:Nat):IT:= .i (.stl a (.s b) (.s c) n)
def qn (a b:Nat):IT:= .i (.len a false (.s b))
def qd (a:Nat) (o:B2) (b c:Nat):IT:= .i (.bin a o (.s b) (.s c))
def qk (a b c:Nat):IT:= .i (.call a b false [(.s c)])
def qz:List C:= [.int .i64 0, .int .i64 0, .int .i64 0, .nils, .nils, .int .i64 0, .int .i64 0, .nils, .nils, .nils]
theorem VY:type_of% (And.intro @VW (And.intro @qi.eq_1 (And.intro @qb.eq_1 (And.intro @qm.eq_1 (And.intro @qf.eq_1 (And.intro @ql.eq_1 (And.intro @qs.eq_1 (And.intro @qn.eq_1 (And.intro @qd.eq_1 (And.intro @qk.eq_1 @qz.eq_1)))))))))):=And.intro @VW (And.intro @qi.eq_1 (And.intro @qb.eq_1 (And.intro @qm.eq_1 (And.intro @qf.eq_1 (And.intro @ql.eq_1 (And.intro @qs.eq_1 (And.intro @qn.eq_1 (And.intro @qd.eq_1 (And.intro @qk.eq_1 @qz.eq_1)))))))))
theorem VZ:type_of% (And.intro @VY @VQ):=And.intro @VY @VQ
noncomputable abbrev cd:=code Proofs.Tryz.prog
def bz (l:List Bytes):List (List D):=l.map fun x=> [.sl (bytes x)]
theorem aB (l:List Bytes):(bz l).length=l.length:=by simp[bz]
theorem fN {l:List Bytes} {i:Nat} (h:i < l.length):(bz l)[i]? =some [.sl (bytes l[i])]:=by simp[bz,h]
theorem bj {x:Bytes} {i:Nat} (h:i < x.length):(bytes x)[i]? =some [.int .u8 (x[i].toNat:Int)]:=by simp[bytes,h]
theorem tW {α:Type} {p:α→Prop} {l:List α} {i:Nat} (h:∀x∈l.take i,p x) (hi:i < l.length) (hx:p l[i]):∀x∈l.take (i+1),p x:=by
 intro x hm
 rw[List.take_add_one,List.getElem?_eq_getElem hi]at hm
 rcases List.mem_append.1 hm with hm|hm
 ·exact h x hm
 ·simp at hm;subst hm;exact hx
def cw (n lo hi:Int):Bool:=decide (lo≤n∧n≤hi)
abbrev ss:Nat:=158
def rn:AF:=⟨3,4,[.tmp 6],(.seq (.ops [.i (.mov 6 (qb false))]) (.seq (.ops [qm 7 1,qm 8 0,qd 9 .leq 7 8,qm 10 9, .g 10 true 12 (.mov 11 (.s 0)), .g 10 true 13 (.mov 12 (.s 2)), .g 10 true 14 (.bin 13 .leq (.s 11) (.s 12)), .i (.pick 14 (.s 10) (.s 13) (qb false)),qm 6 14]) .ret))⟩
theorem Bq:cd ss=some rn:=by kernel_rfl
theorem bg (n lo hi:Int):VC cd ss (aH [(false,[.int .i64 n]),(false,[.int .i64 lo]),(false,[.int .i64 hi])]) (fun rs _=>rs=bl (cw n lo hi)):=by
 refine aa Bq rfl ?_
 simp(disch:=omega) [rn,VY]
 refine ab (fun h1=> ?_) (fun h1=> ?_) <;>simp(disch:=omega) [h1,cw,VY]
abbrev tH:Nat:=221
def tT:AF:=⟨3,4,[.tmp 6],(.seq (.ops [.i (.mov 6 (qb false))]) (.seq (.ops [qm 7 0,qm 8 1,qd 9 .geq 7 8,qm 10 9, .g 10 true 12 (.mov 11 (.s 0)), .g 10 true 13 (.mov 12 (.s 2)), .g 10 true 14 (.bin 13 .leq (.s 11) (.s 12)), .i (.pick 14 (.s 10) (.s 13) (qb false)),qm 6 14]) .ret))⟩
theorem DQ:cd tH=some tT:=by kernel_rfl
theorem bK (n lo hi:Int):VC cd tH (aH [(false,[.int .i64 n]),(false,[.int .i64 lo]),(false,[.int .i64 hi])]) (fun rs _=>rs=bl (cw n lo hi)):=by
 refine aa DQ rfl ?_
 simp(disch:=omega) [tT,VY]
 refine ab (fun h1=> ?_) (fun h1=> ?_) <;>simp(disch:=omega) [h1,cw,VY]
structure aj where
 n:Int
 tx:Int
 txs:Int
 frame:Int
 heads:Int
def aj.c (l:aj):List D:= [.int .i64 l.n, .int .i64 l.tx, .int .i64 l.txs, .int .i64 l.frame, .int .i64 l.heads]
def aj.ok (l:aj):Bool:=cw l.n 1 10 && cw l.tx 0 40 && cw l.txs 0 8 && cw l.frame 1 4000 && cw l.heads 3 5
abbrev kW:Nat:=95
def lE:AF:=⟨1,5,[.tmp 2],(.seq (.ops [.i (.lbox 1 (.s 0)), .i (.mov 2 (qb false))]) (.seq (.ops [qf 3 1 0,ql 4 1 3 1 false, .i (.call 6 158 false [(.s 4),(qi 1),(qi 10)]),qm 6 5, .g 6 true 8 (.fad 7 (.s 1) 1), .g 6 true 9 (.ldl 8 1 (.s 7) 1 false), .g 6 true 10 (.call 10 158 false [(.s 8),(qi 0),(qi 40)]), .i (.pick 10 (.s 6) (.s 9) (qb false)),qm 11 10, .g 11 true 13 (.fad 12 (.s 1) 2), .g 11 true 14 (.ldl 13 1 (.s 12) 1 false), .g 11 true 15 (.call 15 158 false [(.s 13),(qi 0),(qi 8)]), .i (.pick 15 (.s 11) (.s 14) (qb false)),qm 16 15, .g 16 true 18 (.fad 17 (.s 1) 3), .g 16 true 19 (.ldl 18 1 (.s 17) 1 false), .g 16 true 20 (.call 20 158 false [(.s 18),(qi 1),(qi 4000)]), .i (.pick 20 (.s 16) (.s 19) (qb false)),qm 21 20, .g 21 true 23 (.fad 22 (.s 1) 4), .g 21 true 24 (.ldl 23 1 (.s 22) 1 false), .g 21 true 25 (.call 25 158 false [(.s 23),(qi 3),(qi 5)]), .i (.pick 25 (.s 21) (.s 24) (qb false)),qm 2 25]) .ret))⟩
theorem xl:cd kW=some lE:=by kernel_rfl
theorem aL (l:aj):VC cd kW (aH [(true,l.c)]) (fun rs _=>rs=bl l.ok):=by
 refine aa xl rfl ?_
 simp(disch:=omega) [lE,aj.c,VY]
 refine ah (bg _ _ _) rfl rfl ?_
 simp(disch:=omega) [VY]
 refine aA (fun h1=> ?_) (fun h1=> ?_) <;>simp(disch:=omega) [h1,aj.ok,VY]
 refine ah (bg _ _ _) rfl rfl ?_
 simp(disch:=omega) [h1,VY]
 refine aA (fun h2=> ?_) (fun h2=> ?_) <;>simp(disch:=omega) [h1,h2,VY]
 refine ah (bg _ _ _) rfl rfl ?_
 simp(disch:=omega) [h1,h2,VY]
 refine aA (fun h3=> ?_) (fun h3=> ?_) <;>simp(disch:=omega) [h1,h2,h3,VY]
 refine ah (bg _ _ _) rfl rfl ?_
 simp(disch:=omega) [h1,h2,h3,VY]
 refine aA (fun h4=> ?_) (fun h4=> ?_) <;>simp(disch:=omega) [h1,h2,h3,h4,VY]
 refine ah (bg _ _ _) rfl rfl ?_
 simp(disch:=omega) [h1,h2,h3,h4,VY]
abbrev iw:Nat:=279
def iA:AF:=⟨1,3,[.tmp 2],(.seq (.ops [.i (.mov 2 (qb false))]) (.seq (.ops [qm 3 0, .i (.call 5 221 false [(.s 3),(qi 1),(qi 10)]),qm 2 4]) .ret))⟩
theorem uj:cd iw=some iA:=by kernel_rfl
theorem eg (n:Int):VC cd iw (aH [(false,[.int .i64 n])]) (fun rs _=>rs=bl (cw n 1 10)):=by
 refine aa uj rfl ?_
 simp(disch:=omega) [iA,VY]
 refine ah (bK _ _ _) rfl rfl ?_
 simp(disch:=omega) [VY]
abbrev l3:Nat:=210
def lv:AF:=⟨1,5,[.tmp 2],(.seq (.ops [.i (.lbox 1 (.s 0)), .i (.mov 2 (qb false))]) (.seq (.ops [qf 3 1 0,ql 4 1 3 1 false,qk 6 279 4,qm 6 5, .g 6 true 8 (.fad 7 (.s 1) 1), .g 6 true 9 (.ldl 8 1 (.s 7) 1 false), .g 6 true 10 (.call 10 221 false [(.s 8),(qi 0),(qi 40)]), .i (.pick 10 (.s 6) (.s 9) (qb false)),qm 11 10, .g 11 true 13 (.fad 12 (.s 1) 2), .g 11 true 14 (.ldl 13 1 (.s 12) 1 false), .g 11 true 15 (.call 15 221 false [(.s 13),(qi 0),(qi 8)]), .i (.pick 15 (.s 11) (.s 14) (qb false)),qm 16 15, .g 16 true 18 (.fad 17 (.s 1) 3), .g 16 true 19 (.ldl 18 1 (.s 17) 1 false), .g 16 true 20 (.call 20 221 false [(.s 18),(qi 1),(qi 4000)]), .i (.pick 20 (.s 16) (.s 19) (qb false)),qm 21 20, .g 21 true 23 (.fad 22 (.s 1) 4), .g 21 true 24 (.ldl 23 1 (.s 22) 1 false), .g 21 true 25 (.call 25 221 false [(.s 23),(qi 3),(qi 5)]), .i (.pick 25 (.s 21) (.s 24) (qb false)),qm 2 25]) .ret))⟩
theorem xx:cd l3=some lv:=by kernel_rfl
theorem bV (l:aj):VC cd l3 (aH [(true,l.c)]) (fun rs _=>rs=bl l.ok):=by
 refine aa xx rfl ?_
 simp(disch:=omega) [lv,aj.c,VY]
 refine ah (eg _) rfl rfl ?_
 simp(disch:=omega) [VY]
 refine aA (fun h1=> ?_) (fun h1=> ?_) <;>simp(disch:=omega) [h1,aj.ok,VY]
 refine ah (bK _ _ _) rfl rfl ?_
 simp(disch:=omega) [h1,VY]
 refine aA (fun h2=> ?_) (fun h2=> ?_) <;>simp(disch:=omega) [h1,h2,VY]
 refine ah (bK _ _ _) rfl rfl ?_
 simp(disch:=omega) [h1,h2,VY]
 refine aA (fun h3=> ?_) (fun h3=> ?_) <;>simp(disch:=omega) [h1,h2,h3,VY]
 refine ah (bK _ _ _) rfl rfl ?_
 simp(disch:=omega) [h1,h2,h3,VY]
 refine aA (fun h4=> ?_) (fun h4=> ?_) <;>simp(disch:=omega) [h1,h2,h3,h4,VY]
 refine ah (bK _ _ _) rfl rfl ?_
 simp(disch:=omega) [h1,h2,h3,h4,VY]
def isNum (n:Int):Bool:=cw n 0 1152921504606846975
abbrev tD:Nat:=129
def tS:AF:=⟨1,3,[.tmp 2],(.seq (.ops [.i (.mov 2 (qb false))]) (.seq (.ops [qm 3 0, .i (.call 5 158 false [(.s 3),(qi 0),(qi 1152921504606846975)]),qm 2 4]) .ret))⟩
theorem CY:cd tD=some tS:=by kernel_rfl
theorem FB (n:Int):VC cd tD (aH [(false,[.int .i64 n])]) (fun rs _=>rs=bl (isNum n)):=by
 refine aa CY rfl ?_
 simp(disch:=omega) [tS,VY]
 refine ah (bg _ _ _) rfl rfl ?_
 simp(disch:=omega) [isNum,VY]
abbrev sk:Nat:=211
def rD:AF:=⟨1,3,[.tmp 2],(.seq (.ops [.i (.mov 2 (qb false))]) (.seq (.ops [qm 3 0, .i (.call 5 221 false [(.s 3),(qi 0),(qi 1152921504606846975)]),qm 2 4]) .ret))⟩
theorem Bj:cd sk=some rD:=by kernel_rfl
theorem ep (n:Int):VC cd sk (aH [(false,[.int .i64 n])]) (fun rs _=>rs=bl (isNum n)):=by
 refine aa Bj rfl ?_
 simp(disch:=omega) [rD,VY]
 refine ah (bK _ _ _) rfl rfl ?_
 simp(disch:=omega) [isNum,VY]
def hash (x:Bytes):Bool:=x.length==32
def hashes (l:List Bytes):Bool:=l.all hash
theorem IJ {l:List Bytes} (h:∀x∈l.take l.length,hash x=true):hashes l=true:=by
 rw[List.take_length]at h
 simpa[hashes]using h
theorem Ii {l:List Bytes} {i:Nat} (hi:i < l.length) (h:hash l[i]=false):hashes l=false:=by
 simp only[hashes,List.all_eq_false]
 exact⟨l[i],List.getElem_mem hi,by simp[h]⟩
abbrev nq:Nat:=337
def pE:AF:=⟨1,3,[.tmp 2],(.seq (.ops [.i (.mov 2 (qb false))]) (.seq (.ops [qm 3 0,qn 4 3, .i (.bin 5 .eql (.s 4) (qi 32)),qm 2 5]) .ret))⟩
theorem AZ:cd nq=some pE:=by kernel_rfl
theorem eo (x:Bytes):VC cd nq (aH [(false,[.sl (bytes x)])]) (fun rs _=>rs=bl (hash x)):=by
 refine aa AZ rfl ?_
 simp(disch:=omega) [pE,hash,VY]
 rw[Bool.eq_iff_iff]
 simp only[decide_eq_true_eq,beq_iff_eq]
 omega
abbrev jo:Nat:=340
def jW:AF:=⟨1,4,[.tmp 2],(.seq (.ops [.i (.mov 2 (qb false))]) (.seq (.seq (.ops [qm 5 0,qn 6 5, .i (.mov 7 (qi 0))]) (.block 0 (.loop [14,13,12,11,10,9,8,4] (.seq (.ops [qd 8 .lss 7 6]) (.seq (.cond (.s 8) .skip (.exit 0)) (.seq (.block 1 (.seq (.ops [.i (.iad 9 (.s 5) (.s 7) 1), .i (.ldh 10 (.s 9) 1 false),qm 4 10]) (.seq (.ops [qm 11 4,qk 13 337 11, .i (.not 13 (.s 12))]) (.cond (.s 13) (.seq (.ops [.i (.mov 2 (qb false))]) .ret) .skip)))) (.ops [.i (.bin 14 .add (.s 7) (qi 1)),qm 7 14]))))))) (.seq (.ops [.i (.mov 2 (qb true))]) .ret)))⟩
theorem ve:cd jo=some jW:=by kernel_rfl
theorem uS (l:List Bytes) (hl:l.length≤1099511627776):VC cd jo (aH [(false,[.sl (bz l)])]) (fun rs _=>rs=bl (hashes l)):=by
 refine aa ve rfl ?_
 simp(disch:=omega) [jW,aB,VY]
 refine pA (σ:=Nat) (f1:=_) (by simp(disch:=omega) [VY];rfl) (fun i=> [(7, .val false [.int .i64 i])]) (fun _=> []) (fun i g=>g+i=l.length∧∀x∈l.take i,hash x=true) 0 l.length (by simp(disch:=omega) [VY]) trivial ⟨by omega,by simp⟩ ?_
 rintro i n g ⟨hg,hi⟩
 simp(disch:=omega) [aB,VY]
 refine ab (fun h1=> ?_) (fun h1=> ?_)
 ·simp(disch:=omega) [fN h1,VY]
  refine ah (eo _) rfl rfl ?_
  simp(disch:=omega) [VY]
  refine aA (fun h2=> ?_) (fun h2=> ?_)
  ·simp(disch:=omega) [VY]
   exact⟨i+1,g - 1,by omega,⟨by omega,tW hi h1 h2⟩,by simp⟩
  ·simp(disch:=omega) [VY]
   exact Ii h1 h2
 ·simp(disch:=omega) [VY]
  have:i=l.length:=by omega
  subst this
  exact IJ hi
def tY (n:Int):Int:=if n < 1 then 0 else(n - 1) / 8+1
abbrev k9:Nat:=245
def lj:AF:=⟨1,4,[.tmp 2],(.seq (.ops [.i (.mov 2 (qi 0))]) (.seq (.seq (.ops [qm 3 0, .i (.bin 4 .lss (.s 3) (qi 1))]) (.cond (.s 4) (.seq (.ops [.i (.mov 2 (qi 0))]) .ret) .skip)) (.seq (.ops [qm 5 0, .i (.bin 6 .sub (.s 5) (qi 1)), .i (.bin 7 .quo (.s 6) (qi 8)), .i (.bin 8 .add (.s 7) (qi 1)),qm 2 8]) .ret)))⟩
theorem xB:cd k9=some lj:=by kernel_rfl
theorem jf (n:Int) (h1: -9223372036854775808≤n) (h2:n < 9223372036854775808):VC cd k9 (aH [(false,[.int .i64 n])]) (fun rs _=>rs=it (tY n)):=by
 refine aa xB rfl ?_
 simp(disch:=omega) [lj,VY]
 refine ab (fun h3=> ?_) (fun h3=> ?_)
 ·simp(disch:=omega) [tY,h3,VY]
 ·have e:(n - 1).tdiv 8=(n - 1) / 8:=Int.tdiv_eq_ediv_of_nonneg (by omega)
  simp(disch:=omega) [tY,e,VY]
  omega
abbrev lP:Nat:=341
def lG:AF:=⟨1,4,[.tmp 2],(.seq (.ops [.i (.mov 2 (qi 0))]) (.seq (.seq (.ops [qm 3 0, .i (.bin 4 .lss (.s 3) (qi 1))]) (.cond (.s 4) (.seq (.ops [.i (.mov 2 (qi 0))]) .ret) .skip)) (.seq (.ops [qm 5 0, .i (.bin 6 .sub (.s 5) (qi 1)), .i (.bin 7 .quo (.s 6) (qi 8)), .i (.bin 8 .add (.s 7) (qi 1)),qm 2 8]) .ret)))⟩
theorem yb:cd lP=some lG:=by kernel_rfl
theorem jd (n:Int) (h1: -9223372036854775808≤n) (h2:n < 9223372036854775808):VC cd lP (aH [(false,[.int .i64 n])]) (fun rs _=>rs=it (tY n)):=by
 refine aa yb rfl ?_
 simp(disch:=omega) [lG,VY]
 refine ab (fun h3=> ?_) (fun h3=> ?_)
 ·simp(disch:=omega) [tY,h3,VY]
 ·have e:(n - 1).tdiv 8=(n - 1) / 8:=Int.tdiv_eq_ediv_of_nonneg (by omega)
  simp(disch:=omega) [tY,e,VY]
  omega
def dP (b:Bytes) (i:Nat):Bool:=match b[i / 8]? with|some x=>x.toNat.testBit (i % 8)|none=>false
theorem Kd:∀x < 256,∀s < 8,decide (ay .and .u8 (Int.fdiv (x:Nat) (2 ^ (min s 8))) 1=1)=Nat.testBit x s:=by decide+kernel
theorem JU:∀x < 256,∀s < 8,decide (Int.tmod (Int.fdiv (x:Nat) (2 ^ (min s 64))) 2=1)=Nat.testBit x s:=by decide+kernel
theorem HD (i:Nat):Int.tdiv (i:Int) 8=((i / 8:Nat):Int):=by rw[Int.tdiv_eq_ediv_of_nonneg (by omega)];omega
theorem Jw (i:Nat):Int.tmod (i:Int) 8=((i % 8:Nat):Int):=by rw[Int.tmod_eq_emod_of_nonneg (by omega)];omega
theorem Bp (x:UInt8):x.toNat < 256:=x.toNat_lt
theorem vW {b:Bytes} {i:Nat} (h:i / 8 < b.length):dP b i=b[i / 8].toNat.testBit (i % 8):=by simp[dP,h]
theorem z9 {b:Bytes} {i:Nat} (h:¬i / 8 < b.length):dP b i=false:=by
 unfold dP
 rw[List.getElem?_eq_none (by omega)]
theorem NZ (i:Nat):(0:Int)≤(i:Int) / 8∧((i:Int) / 8).toNat=i / 8∧¬(i:Int) % 8 < 0∧((i:Int) % 8).toNat=i % 8:=by omega
abbrev pw:Nat:=305
def mP:AF:=⟨2,5,[.tmp 4],(.seq (.ops [.i (.mov 4 (qb false))]) (.seq (.ops [qm 5 1,qm 6 0,qn 7 6, .i (.bin 8 .mul (qi 8) (.s 7)), .i (.bin 9 .sub (.s 8) (qi 1)), .i (.call 11 158 false [(.s 5),(qi 0),(.s 9)]),qm 11 10, .g 11 true 13 (.mov 12 (.s 0)), .g 11 true 14 (.mov 13 (.s 1)), .g 11 true 15 (.bin 14 .quo (.s 13) (qi 8)), .g 11 true 16 (.iad 15 (.s 12) (.s 14) 1), .g 11 true 17 (.ldh 16 (.s 15) 1 false), .g 11 true 18 (.mov 17 (.s 1)), .g 11 true 19 (.bin 18 .rem (.s 17) (qi 8)), .g 11 true 20 (.bin 19 .shr (.s 16) (.s 18)), .g 11 true 21 (.bin 20 .and (.s 19) (.c (.val false [.int .u8 1]))), .g 11 true 22 (.bin 21 .eql (.s 20) (.c (.val false [.int .u8 1]))), .i (.pick 22 (.s 11) (.s 21) (qb false)),qm 4 22]) .ret))⟩
theorem zK:cd pw=some mP:=by kernel_rfl
theorem xv (b:Bytes) (i:Nat) (hb:b.length≤1099511627776) (hi:i≤1099511627776):VC cd pw (aH [(false,[.sl (bytes b)]),(false,[.int .i64 i])]) (fun rs _=>rs=bl (dP b i)):=by
 refine aa zK rfl ?_
 simp(disch:=omega) [mP,VY]
 refine ah (bg _ _ _) rfl rfl ?_
 simp(disch:=omega) [VY]
 refine aA (fun h1=> ?_) (fun h1=> ?_)
 ·have hx:i / 8 < b.length:=by simp[cw]at h1;omega
  have e:=Kd b[i / 8].toNat (Bp _) (i % 8) (Nat.mod_lt _ (by omega))
  rw[vW hx,←e]
  simp(disch:=omega) [h1,HD,Jw,bj hx,NZ i,IntKind.bits,VY]
 ·simp(disch:=omega) [h1,VY]
  refine z9 ?_
  simp[cw]at h1
  omega
abbrev nb:Nat:=342
def oz:AF:=⟨2,5,[.tmp 4],(.seq (.ops [.i (.mov 4 (qb false))]) (.seq (.ops [qm 5 1, .i (.bin 6 .geq (.s 5) (qi 0)),qm 7 6, .g 7 true 9 (.mov 8 (.s 1)), .g 7 true 10 (.bin 9 .quo (.s 8) (qi 8)), .g 7 true 11 (.mov 10 (.s 0)), .g 7 true 12 (.len 11 false (.s 10)), .g 7 true 13 (.bin 12 .lss (.s 9) (.s 11)), .i (.pick 13 (.s 7) (.s 12) (qb false)),qm 14 13, .g 14 true 16 (.mov 15 (.s 0)), .g 14 true 17 (.mov 16 (.s 1)), .g 14 true 18 (.bin 17 .quo (.s 16) (qi 8)), .g 14 true 19 (.iad 18 (.s 15) (.s 17) 1), .g 14 true 20 (.ldh 19 (.s 18) 1 false), .g 14 true 21 (.cvi 20 .i64 (.s 19)), .g 14 true 22 (.mov 21 (.s 1)), .g 14 true 23 (.bin 22 .rem (.s 21) (qi 8)), .g 14 true 24 (.bin 23 .shr (.s 20) (.s 22)), .g 14 true 25 (.bin 24 .rem (.s 23) (qi 2)), .g 14 true 26 (.bin 25 .eql (.s 24) (qi 1)), .i (.pick 26 (.s 14) (.s 25) (qb false)),qm 4 26]) .ret))⟩
theorem AG:cd nb=some oz:=by kernel_rfl
theorem xK (b:Bytes) (i:Nat) (hb:b.length≤1099511627776) (hi:i≤1099511627776):VC cd nb (aH [(false,[.sl (bytes b)]),(false,[.int .i64 i])]) (fun rs _=>rs=bl (dP b i)):=by
 refine aa AG rfl ?_
 simp(disch:=omega) [oz,HD,VY]
 refine ab (fun h1=> ?_) (fun h1=> ?_)
 ·have hx:i / 8 < b.length:=by omega
  have e:=JU b[i / 8].toNat (Bp _) (i % 8) (Nat.mod_lt _ (by omega))
  have hw:IntKind.i64.wrap (b[i / 8].toNat:Int)=b[i / 8].toNat:=sO (by omega) (by have:=Bp b[i / 8];omega)
  rw[vW hx,←e]
  simp(disch:=omega) [h1,HD,Jw,bj hx,NZ i,hw,IntKind.bits,VY]
 ·simp(disch:=omega) [h1,VY]
  exact z9 (by omega)
def aR (b:Bytes):List Nat:=(List.range (8 * b.length)).filter (dP b)
def nZ (l:List Nat):List (List D):=l.map fun(n:Nat)=> [.int .i64 (n:Int)]
theorem jg (l:List Nat):(nZ l).length=l.length:=by simp[nZ]
theorem CG (l:List Nat):flat (nZ l)=true:=by
 induction l with
 |nil=>rfl
 |cons n l ih=>simp only[nZ,List.map_cons,flat,bY,D.leaf]at ih⊢;simpa using ih
theorem Fz (l:List Nat):wid 1 (nZ l)=true:=by
 induction l with
 |nil=>rfl
 |cons n l ih=>simp only[nZ,List.map_cons,wid]at ih⊢;simpa using ih
theorem B9 (l:List Nat) (n:Nat):nZ l++ [[.int .i64 (n:Int)]]=nZ (l++ [n]):=by simp[nZ]
theorem Fp {l:List Nat} {i:Nat} (h:i < l.length):(nZ l)[i]? =some [.int .i64 (l[i]:Int)]:=by simp[nZ,h]
theorem iH (p:Nat→Bool) (i:Nat):(List.range (i+1)).filter p=(List.range i).filter p++(if p i=true then [i]else []):=by
 rw[List.range_succ,List.filter_append]
 congr 1
 cases h:p i <;>simp[h]
theorem filter_le (p:Nat→Bool) (i:Nat):((List.range i).filter p).length≤i:=by
 have:=List.length_filter_le p (List.range i)
 simpa using this
abbrev kZ:Nat:=246
def kT:AF:=⟨1,5,[.tmp 2],(.seq (.ops [.i (.mov 2 (.c (.val false [.nils])))]) (.seq (.ops [.i (.bse 5),qm 3 5]) (.seq (.seq (.ops [qm 6 0,qn 7 6, .i (.bin 8 .mul (qi 8) (.s 7)), .i (.mov 9 (qi 0))]) (.block 0 (.loop [19,18,17,16,15,14,13,12,11,10,4] (.seq (.ops [qd 10 .lss 9 8]) (.seq (.cond (.s 10) .skip (.exit 0)) (.seq (.block 1 (.seq (.ops [qm 11 9,qm 4 11]) (.seq (.ops [qm 12 0,qm 13 4, .i (.call 15 305 false [(.s 12),(.s 13)])]) (.cond (.s 14) (.ops [qm 15 3,qm 16 4, .i (.lsl 17 1 1 [.int .i64 0] [(0,1,(.s 16))]), .i (.app 18 3 1 8 (.s 15) (.s 17)),qm 3 18]) .skip)))) (.ops [.i (.bin 19 .add (.s 9) (qi 1)),qm 9 19]))))))) (.seq (.ops [qm 20 3,qm 2 20]) .ret))))⟩
theorem xI:cd kZ=some kT:=by kernel_rfl
theorem vm (b:Bytes) (hb:b.length≤1073741824):VC cd kZ (aH [(false,[.sl (bytes b)])]) (fun rs _=>rs= [(false,[.o true (some (3,1)) (nZ (aR b))])]):=by
 refine aa xI rfl ?_
 simp(disch:=omega) [kT,VY]
 refine pA (σ:=Nat×Nat) (f1:=_) (by simp(disch:=omega) [VY];rfl) (fun p=> [(9, .val false [.int .i64 p.1]),(3, .val false [.ow 5 p.2])]) (fun p=> [(5, .sl p.2 true true (some (3,1)) (nZ ((List.range p.1).filter (dP b))))])
  (fun p g=>g+p.1=8 * b.length) (0,1) (8 * b.length) (by simp(disch:=omega) [VY]) (by simp(disch:=omega) [nZ,VY]) (by omega) ?_
 rintro⟨i,v⟩ n g hg
 simp only at hg
 simp(disch:=omega) [VY]
 refine ab (fun h1=> ?_) (fun h1=> ?_)
 ·simp(disch:=omega) [VY]
  refine ah (xv b i (by omega) (by omega)) rfl rfl ?_
  simp(disch:=omega) [VY]
  refine aA (fun h2=> ?_) (fun h2=> ?_)
  ·have hl:=filter_le (dP b) i
   simp(disch:=omega) [jg,Fz,CG,VY]
   exact⟨i+1,n+1,g - 1,by omega,by omega,⟨rfl,by omega⟩,rfl,by rw[iH,h2,if_pos rfl,←B9]⟩
  ·simp(disch:=omega) [VY]
   exact⟨i+1,v,g - 1,by omega,by omega,⟨rfl,by omega⟩,rfl,by rw[iH,h2];simp⟩
 ·simp(disch:=omega) [VY]
  have:i=8 * b.length:=by omega
  subst this
  rfl
abbrev kL:Nat:=318
def kO:AF:=⟨1,5,[.tmp 2],(.seq (.ops [.i (.mov 2 (.c (.val false [.nils])))]) (.seq (.ops [.i (.bse 5),qm 3 5]) (.seq (.seq (.ops [.i (.mov 4 (qi 0))]) (.block 0 (.loop [19,18,17,16,15,14,13,12,11,10,9,8,7,6] (.seq (.seq (.ops [qm 6 4,qm 7 0,qn 8 7, .i (.bin 9 .mul (qi 8) (.s 8)),qd 10 .lss 6 9]) (.cond (.s 10) .skip (.exit 0))) (.seq (.block 1 (.seq (.ops [qm 13 0,qm 14 4, .i (.call 16 342 false [(.s 13),(.s 14)])]) (.cond (.s 15) (.ops [qm 16 3,qm 17 4, .i (.lsl 18 1 1 [.int .i64 0] [(0,1,(.s 17))]), .i (.app 19 3 1 8 (.s 16) (.s 18)),qm 3 19]) .skip))) (.ops [qm 11 4, .i (.bin 12 .add (.s 11) (qi 1)),qm 4 12])))))) (.seq (.ops [qm 20 3,qm 2 20]) .ret))))⟩
theorem xS:cd kL=some kO:=by kernel_rfl
theorem jz (b:Bytes) (hb:b.length≤1073741824):VC cd kL (aH [(false,[.sl (bytes b)])]) (fun rs _=>rs= [(false,[.o true (some (3,1)) (nZ (aR b))])]):=by
 refine aa xS rfl ?_
 simp(disch:=omega) [kO,VY]
 refine pA (σ:=Nat×Nat) (f1:=_) (by simp(disch:=omega) [VY];rfl) (fun p=> [(4, .val false [.int .i64 p.1]),(3, .val false [.ow 5 p.2])]) (fun p=> [(5, .sl p.2 true true (some (3,1)) (nZ ((List.range p.1).filter (dP b))))])
  (fun p g=>g+p.1=8 * b.length) (0,1) (8 * b.length) (by simp(disch:=omega) [VY]) (by simp(disch:=omega) [nZ,VY]) (by omega) ?_
 rintro⟨i,v⟩ n g hg
 simp only at hg
 simp(disch:=omega) [VY]
 refine ab (fun h1=> ?_) (fun h1=> ?_)
 ·simp(disch:=omega) [VY]
  refine ah (xK b i (by omega) (by omega)) rfl rfl ?_
  simp(disch:=omega) [VY]
  refine aA (fun h2=> ?_) (fun h2=> ?_)
  ·have hl:=filter_le (dP b) i
   simp(disch:=omega) [jg,Fz,CG,VY]
   exact⟨i+1,n+1,g - 1,by omega,by omega,⟨by omega,rfl⟩,rfl,by rw[iH,h2,if_pos rfl,←B9]⟩
  ·simp(disch:=omega) [VY]
   exact⟨i+1,v,g - 1,by omega,by omega,⟨by omega,rfl⟩,rfl,by rw[iH,h2];simp⟩
 ·simp(disch:=omega) [VY]
  have:i=8 * b.length:=by omega
  subst this
  rfl
def fS (l:List Nat) (n:Int):Bool:=l.all fun i=>decide ((i:Int) < n)
def dN (b:Bytes) (n:Int):Bool:=cw n 1 10 && decide ((b.length:Int)=tY n) && fS (aR b) n
theorem da (b:Bytes):(aR b).length≤8 * b.length:=filter_le _ _
theorem dv {n lo hi:Int} (h:cw n lo hi=true):lo≤n∧n≤hi:=by simpa[cw]using h
theorem M5 {n lo hi:Int} (h:cw n lo hi=false):n < lo∨hi < n:=by simp[cw]at h;omega
theorem Ji {l:List Nat} {n:Int} (h:∀x∈l.take l.length,(x:Int) < n):fS l n=true:=by
 rw[List.take_length]at h
 simpa[fS]using h
theorem Km {l:List Nat} {n:Int} {i:Nat} (hi:i < l.length) (h:n≤(l[i]:Int)):fS l n=false:=by
 simp only[fS,List.all_eq_false]
 exact⟨l[i],List.getElem_mem hi,by simpa using h⟩
abbrev rT:Nat:=168
def su:AF:=⟨2,5,[.tmp 4],(.seq (.ops [.i (.mov 4 (qb false))]) (.seq (.seq (.ops [qm 7 1, .i (.call 9 158 false [(.s 7),(qi 1),(qi 10)]), .i (.not 9 (.s 8)),qm 10 9, .g 10 false 12 (.mov 11 (.s 0)), .g 10 false 13 (.len 12 false (.s 11)), .g 10 false 14 (.mov 13 (.s 1)), .g 10 false 15 (.call 15 245 false [(.s 13)]), .g 10 false 16 (.bin 15 .neq (.s 12) (.s 14)), .i (.pick 16 (.s 10) (qb true) (.s 15))]) (.cond (.s 16) (.seq (.ops [.i (.mov 4 (qb false))]) .ret) .skip)) (.seq (.seq (.ops [qm 17 0,qk 19 246 17,qn 19 18, .i (.mov 20 (qi 0))]) (.block 0 (.loop [27,26,25,24,23,22,21,6] (.seq (.ops [qd 21 .lss 20 19]) (.seq (.cond (.s 21) .skip (.exit 0)) (.seq (.block 1 (.seq (.ops [.i (.iad 22 (.s 18) (.s 20) 1), .i (.ldh 23 (.s 22) 1 false),qm 6 23]) (.seq (.ops [qm 24 6,qm 25 1,qd 26 .geq 24 25]) (.cond (.s 26) (.seq (.ops [.i (.mov 4 (qb false))]) .ret) .skip)))) (.ops [.i (.bin 27 .add (.s 20) (qi 1)),qm 20 27]))))))) (.seq (.ops [.i (.mov 4 (qb true))]) .ret))))⟩
theorem Bs:cd rT=some su:=by kernel_rfl
theorem zL (b:Bytes) (n:Int) (hb:b.length≤1073741824) (hn: -9223372036854775808≤n∧n < 9223372036854775808):VC cd rT (aH [(false,[.sl (bytes b)]),(false,[.int .i64 n])]) (fun rs _=>rs=bl (dN b n)):=by
 refine aa Bs rfl ?_
 simp(disch:=omega) [su,VY]
 refine ah (bg _ _ _) rfl rfl ?_
 simp(disch:=omega) [VY]
 refine aA (fun h1=> ?_) (fun h1=> ?_)
 ·simp(disch:=omega) [h1,VY]
  refine ah (jf _ hn.1 hn.2) rfl rfl ?_
  simp(disch:=omega) [h1,VY]
  refine ab (fun h2=> ?_) (fun h2=> ?_)
  ·simp(disch:=omega) [h1,h2,VY]
   refine ah (vm b hb) rfl rfl ?_
   simp(disch:=omega) [jg,VY]
   have hl:=da b
   refine bd (σ:=Nat) (f1:=_) (es0:=_) (by simp(disch:=omega) [VY];rfl) (by simp(disch:=omega) [VY];rfl) (fun i=> [(20, .val false [.int .i64 i])]) (fun _=> []) (fun i g=>g+i=(aR b).length∧∀x∈(aR b).take i,(x:Int) < n) 0 (aR b).length (by simp(disch:=omega) [VY]) (by simp(disch:=omega) [VY]) ⟨by omega,by simp⟩ ?_
   rintro i m g ⟨hg,hi⟩
   simp(disch:=omega) [VY]
   refine ab (fun h3=> ?_) (fun h3=> ?_)
   ·have hx:i < (aR b).length:=by omega
    simp(disch:=omega) [Fp hx,VY]
    refine ab (fun h4=> ?_) (fun h4=> ?_)
    ·simp(disch:=omega) [VY]
     simp[dN,h1,h2,Km hx h4]
    ·simp(disch:=omega) [VY]
     exact⟨i+1,g - 1,by omega,⟨by omega,tW hi hx (by omega)⟩,by simp⟩
   ·simp(disch:=omega) [VY]
    have:i=(aR b).length:=by omega
    subst this
    simp[dN,h1,h2,Ji hi]
  ·simp(disch:=omega) [h1,h2,dN,VY]
 ·simp(disch:=omega) [h1,dN,VY]
theorem Bh {l:List Nat} {n:Int} (hp:l.Pairwise (· < ·)) (hl:0 < l.length):fS l n=decide ((l[l.length - 1]:Int) < n):=by
 rw[Bool.eq_iff_iff]
 simp only[fS,List.all_eq_true,decide_eq_true_eq]
 constructor
 ·intro h;exact h _ (List.getElem_mem _)
 ·intro h x hx
  obtain⟨i,hi,rfl⟩:=List.getElem_of_mem hx
  by_cases he:i=l.length - 1
  ·subst he;exact h
  ·have:=List.pairwise_iff_getElem.1 hp i (l.length - 1) hi (by omega) (by omega)
   omega
theorem xW (b:Bytes):(aR b).Pairwise (· < ·):=List.Pairwise.filter _ List.pairwise_lt_range
abbrev qZ:Nat:=339
def r8:AF:=⟨2,5,[.tmp 4],(.seq (.ops [.i (.mov 4 (qb false))]) (.seq (.seq (.ops [qm 6 1,qk 8 279 6, .i (.not 8 (.s 7)),qm 9 8, .g 9 false 11 (.mov 10 (.s 0)), .g 9 false 12 (.len 11 false (.s 10)), .g 9 false 13 (.mov 12 (.s 1)), .g 9 false 14 (.call 14 341 false [(.s 12)]), .g 9 false 15 (.bin 14 .neq (.s 11) (.s 13)), .i (.pick 15 (.s 9) (qb true) (.s 14))]) (.cond (.s 15) (.seq (.ops [.i (.mov 4 (qb false))]) .ret) .skip)) (.seq (.ops [qm 16 0,qk 18 318 16,qm 5 17]) (.seq (.ops [qm 18 5,qn 19 18, .i (.bin 20 .eql (.s 19) (qi 0)),qm 21 20, .g 21 false 23 (.mov 22 (.s 5)), .g 21 false 24 (.mov 23 (.s 5)), .g 21 false 25 (.len 24 false (.s 23)), .g 21 false 26 (.bin 25 .sub (.s 24) (qi 1)), .g 21 false 27 (.iad 26 (.s 22) (.s 25) 1), .g 21 false 28 (.ldh 27 (.s 26) 1 false), .g 21 false 29 (.mov 28 (.s 1)), .g 21 false 30 (.bin 29 .lss (.s 27) (.s 28)), .i (.pick 30 (.s 21) (qb true) (.s 29)),qm 4 30]) .ret))))⟩
theorem BE:cd qZ=some r8:=by kernel_rfl
theorem yY (b:Bytes) (n:Int) (hb:b.length≤1073741824) (hn: -9223372036854775808≤n∧n < 9223372036854775808):VC cd qZ (aH [(false,[.sl (bytes b)]),(false,[.int .i64 n])]) (fun rs _=>rs=bl (dN b n)):=by
 refine aa BE rfl ?_
 simp(disch:=omega) [r8,VY]
 refine ah (eg _) rfl rfl ?_
 simp(disch:=omega) [VY]
 refine aA (fun h1=> ?_) (fun h1=> ?_)
 ·simp(disch:=omega) [h1,VY]
  refine ah (jd _ hn.1 hn.2) rfl rfl ?_
  simp(disch:=omega) [h1,VY]
  refine ab (fun h2=> ?_) (fun h2=> ?_)
  ·simp(disch:=omega) [h1,h2,VY]
   refine ah (jz b hb) rfl rfl ?_
   have hl:=da b
   simp(disch:=omega) [jg,VY]
   refine ab (fun h3=> ?_) (fun h3=> ?_)
   ·simp(disch:=omega) [h3,VY]
    simp[dN,h1,h2,h3,fS]
   ·have h4:=List.length_pos_iff.2 h3
    have e3:(1:Int)≤((aR b).length:Int):=by omega
    have hx:(aR b).length - 1 < (aR b).length:=by omega
    have e1:((aR b).length - 1:Int).toNat=(aR b).length - 1:=by omega
    have e2:(0:Int)≤((aR b).length:Int) - 1:=by omega
    simp(disch:=omega) [h3,jg,e1,e2,e3,Fp hx,VY]
    simp[dN,h1,h2,Bh (xW b) h4]
  ·simp(disch:=omega) [h1,h2,dN,VY]
 ·simp(disch:=omega) [h1,dN,VY]
def vy (x:Nat):Nat:=((List.range 8).filter (x.testBit)).length
theorem EW:∀x < 256,((⟨#[0,1,1,2,1,2,2,3,1,2,2,3,2,3,3,4,1,2,2,3,2,3,3,4,2,3,3,4,3,4,4,5,1,2,2,3,2,3,3,4,2,3,3,4,3,4,4,5,2,3,3,4,3,4,4,5,3,4,4,5,4,5,5,6,1,2,2,3,2,3,3,4,2,3,3,4,3,4,4,5,2,3,3,4,3,4,4,5,3,4,4,5,4,5,5,6,2,3,3,4,3,4,4,5,3,4,4,5,4,5,5,6,3,4,4,5,4,5,5,6,4,5,5,6,5,6,6,7,1,2,2,3,2,3,3,4,2,3,3,4,3,4,4,5,2,3,3,4,3,4,4,5,3,4,4,5,4,5,5,6,2,3,3,4,3,4,4,5,3,4,4,5,4,5,5,6,3,4,4,5,4,5,5,6,4,5,5,6,5,6,6,7,2,3,3,4,3,4,4,5,3,4,4,5,4,5,5,6,3,4,4,5,4,5,5,6,4,5,5,6,5,6,6,7,3,4,4,5,4,5,5,6,4,5,5,6,5,6,6,7,4,5,5,6,5,6,6,7,5,6,6,7,6,7,7,8]⟩:ByteArray).data.toList)[x]? =some (UInt8.ofNat (vy x))∧vy x≤8:=by decide+kernel
abbrev eT:Nat:=247
def eY:AF:=⟨1,3,[.tmp 2],(.seq (.ops [.i (.mov 2 (.c (.val false [.int .i64 0])))]) (.seq (.ops [.i (.mov 3 (.s 0)), .i (.ids 4 (.c (.val false [.str ⟨#[0,1,1,2,1,2,2,3,1,2,2,3,2,3,3,4,1,2,2,3,2,3,3,4,2,3,3,4,3,4,4,5,1,2,2,3,2,3,3,4,2,3,3,4,3,4,4,5,2,3,3,4,3,4,4,5,3,4,4,5,4,5,5,6,1,2,2,3,2,3,3,4,2,3,3,4,3,4,4,5,2,3,3,4,3,4,4,5,3,4,4,5,4,5,5,6,2,3,3,4,3,4,4,5,3,4,4,5,4,5,5,6,3,4,4,5,4,5,5,6,4,5,5,6,5,6,6,7,1,2,2,3,2,3,3,4,2,3,3,4,3,4,4,5,2,3,3,4,3,4,4,5,3,4,4,5,4,5,5,6,2,3,3,4,3,4,4,5,3,4,4,5,4,5,5,6,3,4,4,5,4,5,5,6,4,5,5,6,5,6,6,7,2,3,3,4,3,4,4,5,3,4,4,5,4,5,5,6,3,4,4,5,4,5,5,6,4,5,5,6,5,6,6,7,3,4,4,5,4,5,5,6,4,5,5,6,5,6,6,7,4,5,5,6,5,6,6,7,5,6,6,7,6,7,7,8]⟩])) (.s 3)), .i (.cvi 5 .i64 (.s 4)), .i (.mov 2 (.s 5))]) .ret))⟩
theorem kq:cd eT=some eY:=by kernel_rfl
theorem BI (x:UInt8):VC cd eT (aH [(false,[.int .u8 x.toNat])]) (fun rs _=>rs=it (vy x.toNat)):=by
 obtain⟨e1,e2⟩:=EW x.toNat (Bp x)
 have e3:(UInt8.ofNat (vy x.toNat)).toNat=vy x.toNat:=by simp;omega
 refine aa kq rfl ?_
 simp(disch:=omega) only[eY,VE,PU,VP,VB,Py,List.map_cons,List.map_nil,Int.toNat_natCast,e1,e3,simprocAttr,Int.natCast_nonneg,if_true,it]
theorem Gp (b:Bytes) (i:Nat) (hi:i < b.length):((List.range (8 * (i+1))).filter (dP b)).length=((List.range (8 * i)).filter (dP b)).length+vy b[i].toNat:=by
 have h8:∀j < 8,dP b (8 * i+j)=b[i].toNat.testBit j:=by
  intro j hj
  have e:(8 * i+j) / 8=i:=by omega
  have e2:(8 * i+j) % 8=j:=by omega
  have:=vW (b:=b) (i:=8 * i+j) (by rw[e];exact hi)
  rw[this,e2]
  simp only[e]
 have e:8 * (i+1)=8 * i+8:=by omega
 rw[e,List.range_add,List.filter_append,List.length_append]
 congr 1
 unfold vy
 rw[List.filter_map,List.length_map]
 congr 1
 refine List.filter_congr fun j hj=> ?_
 simp only[List.mem_range]at hj
 exact h8 j hj
abbrev je:Nat:=169
def iZ:AF:=⟨1,5,[.tmp 2],(.seq (.ops [.i (.mov 2 (qi 0))]) (.seq (.ops [.i (.mov 3 (qi 0))]) (.seq (.seq (.ops [qm 6 0,qn 7 6, .i (.mov 8 (qi 0))]) (.block 0 (.loop [16,15,14,13,12,11,10,9,5] (.seq (.ops [qd 9 .lss 8 7]) (.seq (.cond (.s 9) .skip (.exit 0)) (.seq (.block 1 (.seq (.ops [.i (.iad 10 (.s 6) (.s 8) 1), .i (.ldh 11 (.s 10) 1 false),qm 5 11]) (.ops [qm 12 3,qm 13 5,qk 15 247 13,qd 15 .add 12 14,qm 3 15]))) (.ops [.i (.bin 16 .add (.s 8) (qi 1)),qm 8 16]))))))) (.seq (.ops [qm 17 3,qm 2 17]) .ret))))⟩
theorem vf:cd je=some iZ:=by kernel_rfl
theorem uT (b:Bytes) (hb:b.length≤1073741824):VC cd je (aH [(false,[.sl (bytes b)])]) (fun rs _=>rs=it (aR b).length):=by
 refine aa vf rfl ?_
 simp(disch:=omega) [iZ,VY]
 refine bd (σ:=Nat) (f1:=_) (es0:=_) (by simp(disch:=omega) [VY];rfl) (by simp(disch:=omega) [VY];rfl) (fun i=> [(8, .val false [.int .i64 i]),(3, .val false [.int .i64 ((List.range (8 * i)).filter (dP b)).length])]) (fun _=> []) (fun i g=>g+i=b.length) 0 b.length (by simp(disch:=omega) [VY]) (by simp(disch:=omega) [VY]) (by omega) ?_
 rintro i n g hg
 simp(disch:=omega) [VY]
 refine ab (fun h1=> ?_) (fun h1=> ?_)
 ·have hx:i < b.length:=by omega
  simp(disch:=omega) [bj hx,VY]
  refine ah (BI _) rfl rfl ?_
  have hl:=filter_le (dP b) (8 * i)
  have ho:=(EW b[i].toNat (Bp _)).2
  simp(disch:=omega) [VY]
  exact⟨i+1,g - 1,by omega,by omega,by rw[Gp b i hx];omega,by omega⟩
 ·simp(disch:=omega) [VY]
  have:i=b.length:=by omega
  subst this
  rfl
abbrev ju:Nat:=266
def jV:AF:=⟨1,3,[.tmp 2],(.seq (.ops [.i (.mov 2 (qi 0))]) (.seq (.ops [qm 3 0,qk 5 318 3,qn 5 4,qm 2 5]) .ret))⟩
theorem wm:cd ju=some jV:=by kernel_rfl
theorem ig (b:Bytes) (hb:b.length≤1073741824):VC cd ju (aH [(false,[.sl (bytes b)])]) (fun rs _=>rs=it (aR b).length):=by
 refine aa wm rfl ?_
 simp(disch:=omega) [jV,VY]
 refine ah (jz b hb) rfl rfl ?_
 simp(disch:=omega) [jg,VY]
end Go.Eng.F
namespace Go.Eng.F
def mq (n:Int):Prop:= -9223372036854775808≤n∧n < 9223372036854775808
def Sz (n:Nat):Prop:=n≤1073741824
theorem Ag (x:Bytes):x9 (bytes x)=some ⟨x.toArray⟩:=by
 induction x with
 |nil=>rfl
 |cons b x ih=>
  have:bytes (b::x)= [.int .u8 (b.toNat:Int)]::bytes x:=rfl
  rw[this]
  simp only[x9,ih,Int.toNat_natCast]
  congr 1
  simp
theorem str_eq (a b:Bytes):((⟨a.toArray⟩:ByteArray)=⟨b.toArray⟩)=(a=b):=by
 apply propext
 constructor
 ·intro h;injection h with h;exact Array.toList_inj.2 h|> fun h=>by simpa using h
 ·rintro rfl;rfl
abbrev jN:Nat:=21
def jB:AF:=⟨2,4,[.tmp 4],(.seq (.ops [.i (.mov 4 (qb false))]) (.seq (.ops [qm 5 0, .i (.cbs 6 (.s 5)),qm 7 1, .i (.cbs 8 (.s 7)),qd 9 .eql 6 8,qm 4 9]) .ret))⟩
theorem vn:cd jN=some jB:=by kernel_rfl
theorem dt (a b:Bytes):VC cd jN (aH [(false,[.sl (bytes a)]),(false,[.sl (bytes b)])]) (fun rs _=>rs=bl (decide (a=b))):=by
 refine aa vn rfl ?_
 simp(disch:=omega) [jB,Ag,str_eq,VY]
abbrev iW:Nat:=329
def jM:AF:=⟨2,4,[.tmp 4],(.seq (.ops [.i (.mov 4 (qb false))]) (.seq (.ops [qm 5 0, .i (.cbs 6 (.s 5)),qm 7 1, .i (.cbs 8 (.s 7)),qd 9 .eql 6 8,qm 4 9]) .ret))⟩
theorem vo:cd iW=some jM:=by kernel_rfl
theorem aN (a b:Bytes):VC cd iW (aH [(false,[.sl (bytes a)]),(false,[.sl (bytes b)])]) (fun rs _=>rs=bl (decide (a=b))):=by
 refine aa vo rfl ?_
 simp(disch:=omega) [jM,Ag,str_eq,VY]
structure Qc where
 view:Int
 height:Int
 block:Bytes
 bits:Bytes
 tags:List Bytes
def Qc.c (q:Qc):List D:= [.int .i64 q.view, .int .i64 q.height, .sl (bytes q.block), .sl (bytes q.bits), .sl (bz q.tags)]
def Qc.wf (q:Qc):Prop:=mq q.view∧mq q.height∧Sz q.block.length∧Sz q.bits.length∧Sz q.tags.length
def mz (l:aj) (q:Qc):Bool:=l.ok && isNum q.view && isNum q.height && hash q.block && dN q.bits l.n && decide (q.tags.length=(aR q.bits).length) && hashes q.tags
theorem xd {l:aj} (h:l.ok=true):1≤l.n∧l.n≤10:=by
 simp only[aj.ok,Bool.and_eq_true]at h
 exact dv h.1.1.1.1
abbrev xc:Nat:=309
def wT:AF:=⟨2,6,[.tmp 4],(.seq (.ops [.i (.lbox 2 (.s 0)), .i (.lbox 3 (.s 1)), .i (.mov 4 (qb false))]) (.seq (.ops [ql 5 2 2 5 true,qk 7 210 5,qm 7 6, .g 7 true 9 (.fad 8 (.s 3) 0), .g 7 true 10 (.ldl 9 3 (.s 8) 1 false), .g 7 true 11 (.call 11 211 false [(.s 9)]), .i (.pick 11 (.s 7) (.s 10) (qb false)),qm 12 11, .g 12 true 14 (.fad 13 (.s 3) 1), .g 12 true 15 (.ldl 14 3 (.s 13) 1 false), .g 12 true 16 (.call 16 211 false [(.s 14)]), .i (.pick 16 (.s 12) (.s 15) (qb false)),qm 17 16, .g 17 true 19 (.fad 18 (.s 3) 2), .g 17 true 20 (.ldl 19 3 (.s 18) 1 false), .g 17 true 21 (.call 21 337 false [(.s 19)]), .i (.pick 21 (.s 17) (.s 20) (qb false)),qm 22 21, .g 22 true 24 (.fad 23 (.s 3) 3), .g 22 true 25 (.ldl 24 3 (.s 23) 1 false), .g 22 true 26 (.fad 25 (.s 2) 0), .g 22 true 27 (.ldl 26 2 (.s 25) 1 false), .g 22 true 28 (.call 28 339 false [(.s 24),(.s 26)]), .i (.pick 28 (.s 22) (.s 27) (qb false)),qm 29 28, .g 29 true 31 (.fad 30 (.s 3) 4), .g 29 true 32 (.ldl 31 3 (.s 30) 1 false), .g 29 true 33 (.len 32 false (.s 31)), .g 29 true 34 (.fad 33 (.s 3) 3), .g 29 true 35 (.ldl 34 3 (.s 33) 1 false), .g 29 true 36 (.call 36 266 false [(.s 34)]), .g 29 true 37 (.bin 36 .eql (.s 32) (.s 35)), .i (.pick 37 (.s 29) (.s 36) (qb false)),qm 38 37, .g 38 true 40 (.fad 39 (.s 3) 4), .g 38 true 41 (.ldl 40 3 (.s 39) 1 false), .g 38 true 42 (.call 42 340 false [(.s 40)]), .i (.pick 42 (.s 38) (.s 41) (qb false)),qm 4 42]) .ret))⟩
theorem Er:cd xc=some wT:=by kernel_rfl
theorem kv (l:aj) (q:Qc) (hq:q.wf):VC cd xc (aH [(true,l.c),(true,q.c)]) (fun rs _=>rs=bl (mz l q)):=by
 obtain⟨w1,w2,w3,w4,w5⟩:=hq
 simp only[mq,Sz]at w1 w2 w3 w4 w5
 refine aa Er rfl ?_
 simp(disch:=omega) [wT,aj.c,Qc.c,VY]
 refine ah (bV l) rfl rfl ?_
 simp(disch:=omega) [VY]
 refine aA (fun h1=> ?_) (fun h1=> ?_) <;>simp(disch:=omega) [h1,mz,VY]
 have hn:=xd h1
 refine ah (ep _) rfl rfl ?_
 simp(disch:=omega) [h1,VY]
 refine aA (fun h2=> ?_) (fun h2=> ?_) <;>simp(disch:=omega) [h1,h2,VY]
 refine ah (ep _) rfl rfl ?_
 simp(disch:=omega) [h1,h2,VY]
 refine aA (fun h3=> ?_) (fun h3=> ?_) <;>simp(disch:=omega) [h1,h2,h3,VY]
 refine ah (eo _) rfl rfl ?_
 simp(disch:=omega) [h1,h2,h3,VY]
 refine aA (fun h4=> ?_) (fun h4=> ?_) <;>simp(disch:=omega) [h1,h2,h3,h4,VY]
 refine ah (yY q.bits l.n (by omega) (by omega)) rfl rfl ?_
 simp(disch:=omega) [h1,h2,h3,h4,VY]
 refine aA (fun h5=> ?_) (fun h5=> ?_) <;>simp(disch:=omega) [h1,h2,h3,h4,h5,VY]
 refine ah (ig q.bits (by omega)) rfl rfl ?_
 have hl:=da q.bits
 simp(disch:=omega) [h1,h2,h3,h4,h5,aB,VY]
 refine ab (fun h6=> ?_) (fun h6=> ?_)
 ·simp(disch:=omega) [h1,h2,h3,h4,h5,h6,aB,VY]
  refine ah (uS q.tags (by omega)) rfl rfl ?_
  have h7:q.tags.length=(aR q.bits).length:=by omega
  simp(disch:=omega) [h1,h2,h3,h4,h5,h6,h7,VY]
 ·have h7:¬q.tags.length=(aR q.bits).length:=by omega
  simp(disch:=omega) [h1,h2,h3,h4,h5,h6,h7,aB,VY]
structure Head where
 view:Int
 height:Int
 proposer:Int
 parent:Bytes
 root:Bytes
 qc:Qc
def Head.c (h:Head):List D:= [.int .i64 h.view, .int .i64 h.height, .int .i64 h.proposer, .sl (bytes h.parent), .sl (bytes h.root), .int .i64 h.qc.view, .int .i64 h.qc.height, .sl (bytes h.qc.block), .sl (bytes h.qc.bits), .sl (bz h.qc.tags)]
def Head.wf (h:Head):Prop:=mq h.view∧mq h.height∧mq h.proposer∧Sz h.parent.length∧Sz h.root.length∧h.qc.wf
def fits (h:Head):Bool:=decide (h.qc.view < h.view) && decide (h.qc.height=h.height - 1) && decide (h.qc.block=h.parent)
abbrev gp:Nat:=171
def gz:AF:=⟨1,5,[.tmp 2],(.seq (.ops [.i (.lbox 1 (.s 0)), .i (.mov 2 (qb false))]) (.seq (.ops [qf 3 1 5,qf 4 3 0,ql 5 1 4 1 false,qf 6 1 0,ql 7 1 6 1 false,qd 8 .lss 5 7,qm 9 8, .g 9 true 11 (.fad 10 (.s 1) 5), .g 9 true 12 (.fad 11 (.s 10) 1), .g 9 true 13 (.ldl 12 1 (.s 11) 1 false), .g 9 true 14 (.fad 13 (.s 1) 1), .g 9 true 15 (.ldl 14 1 (.s 13) 1 false), .g 9 true 16 (.bin 15 .sub (.s 14) (qi 1)), .g 9 true 17 (.bin 16 .eql (.s 12) (.s 15)), .i (.pick 17 (.s 9) (.s 16) (qb false)),qm 18 17, .g 18 true 20 (.fad 19 (.s 1) 5), .g 18 true 21 (.fad 20 (.s 19) 2), .g 18 true 22 (.ldl 21 1 (.s 20) 1 false), .g 18 true 23 (.fad 22 (.s 1) 3), .g 18 true 24 (.ldl 23 1 (.s 22) 1 false), .g 18 true 25 (.call 25 21 false [(.s 21),(.s 23)]), .i (.pick 25 (.s 18) (.s 24) (qb false)),qm 2 25]) .ret))⟩
theorem qO:cd gp=some gz:=by kernel_rfl
abbrev pU:Nat:=327
def pH:AF:=⟨1,5,[.tmp 2],(.seq (.ops [.i (.lbox 1 (.s 0)), .i (.mov 2 (qb false))]) (.seq (.ops [qf 3 1 5,qf 4 3 0,ql 5 1 4 1 false,qf 6 1 0,ql 7 1 6 1 false,qd 8 .lss 5 7,qm 9 8, .g 9 true 11 (.fad 10 (.s 1) 5), .g 9 true 12 (.fad 11 (.s 10) 1), .g 9 true 13 (.ldl 12 1 (.s 11) 1 false), .g 9 true 14 (.fad 13 (.s 1) 1), .g 9 true 15 (.ldl 14 1 (.s 13) 1 false), .g 9 true 16 (.bin 15 .sub (.s 14) (qi 1)), .g 9 true 17 (.bin 16 .eql (.s 12) (.s 15)), .i (.pick 17 (.s 9) (.s 16) (qb false)),qm 18 17, .g 18 true 20 (.fad 19 (.s 1) 5), .g 18 true 21 (.fad 20 (.s 19) 2), .g 18 true 22 (.ldl 21 1 (.s 20) 1 false), .g 18 true 23 (.fad 22 (.s 1) 3), .g 18 true 24 (.ldl 23 1 (.s 22) 1 false), .g 18 true 25 (.call 25 329 false [(.s 21),(.s 23)]), .i (.pick 25 (.s 18) (.s 24) (qb false)),qm 2 25]) .ret))⟩
theorem zh:cd pU=some pH:=by kernel_rfl
theorem GC (h:Head) (h1:1≤h.height) (h2:mq h.height):VC cd pU (aH [(true,h.c)]) (fun rs _=>rs=bl (fits h)):=by
 simp only[mq]at h2
 refine aa zh rfl ?_
 simp(disch:=omega) [pH,Head.c,VY]
 refine ab (fun g1=> ?_) (fun g1=> ?_) <;>simp(disch:=omega) [g1,fits,VY]
 refine ab (fun g2=> ?_) (fun g2=> ?_) <;>simp(disch:=omega) [g1,g2,VY]
 refine ah (aN _ _) rfl rfl ?_
 simp(disch:=omega) [g1,g2,VY]
def cE (l:aj) (h:Head):Bool:=mz l h.qc && isNum h.view && cw h.height 1 1152921504606846975 && cw h.proposer 0 (l.n - 1) && hash h.parent && hash h.root && fits h
theorem uI {l:aj} {q:Qc} (h:mz l q=true):l.ok=true:=by
 simp only[mz,Bool.and_eq_true]at h
 exact h.1.1.1.1.1.1
abbrev sj:Nat:=310
def sc:AF:=⟨2,6,[.tmp 4],(.seq (.ops [.i (.lbox 2 (.s 0)), .i (.lbox 3 (.s 1)), .i (.mov 4 (qb false))]) (.seq (.ops [ql 5 2 2 5 true,qk 7 210 5,qm 7 6, .g 7 true 9 (.fad 8 (.s 3) 0), .g 7 true 10 (.ldl 9 3 (.s 8) 1 false), .g 7 true 11 (.call 11 211 false [(.s 9)]), .i (.pick 11 (.s 7) (.s 10) (qb false)),qm 12 11, .g 12 true 14 (.fad 13 (.s 3) 1), .g 12 true 15 (.ldl 14 3 (.s 13) 1 false), .g 12 true 16 (.call 16 221 false [(.s 14),(qi 1),(qi 1152921504606846975)]), .i (.pick 16 (.s 12) (.s 15) (qb false)),qm 17 16, .g 17 true 19 (.fad 18 (.s 3) 2), .g 17 true 20 (.ldl 19 3 (.s 18) 1 false), .g 17 true 21 (.fad 20 (.s 2) 0), .g 17 true 22 (.ldl 21 2 (.s 20) 1 false), .g 17 true 23 (.bin 22 .sub (.s 21) (qi 1)), .g 17 true 24 (.call 24 221 false [(.s 19),(qi 0),(.s 22)]), .i (.pick 24 (.s 17) (.s 23) (qb false)),qm 25 24, .g 25 true 27 (.fad 26 (.s 3) 3), .g 25 true 28 (.ldl 27 3 (.s 26) 1 false), .g 25 true 29 (.call 29 337 false [(.s 27)]), .i (.pick 29 (.s 25) (.s 28) (qb false)),qm 30 29, .g 30 true 32 (.fad 31 (.s 3) 4), .g 30 true 33 (.ldl 32 3 (.s 31) 1 false), .g 30 true 34 (.call 34 337 false [(.s 32)]), .i (.pick 34 (.s 30) (.s 33) (qb false)),qm 35 34, .g 35 true 37 (.ldl 36 2 (.s 2) 5 true), .g 35 true 38 (.fad 37 (.s 3) 5), .g 35 true 39 (.ldl 38 3 (.s 37) 5 true), .g 35 true 40 (.call 40 309 false [(.s 36),(.s 38)]), .i (.pick 40 (.s 35) (.s 39) (qb false)),qm 41 40, .g 41 true 43 (.ldl 42 3 (.s 3) 10 true), .g 41 true 44 (.call 44 327 false [(.s 42)]), .i (.pick 44 (.s 41) (.s 43) (qb false)),qm 4 44]) .ret))⟩
theorem Bm:cd sj=some sc:=by kernel_rfl
theorem gW (l:aj) (h:Head) (hw:h.wf):VC cd sj (aH [(true,l.c),(true,h.c)]) (fun rs _=>rs=bl (cE l h)):=by
 obtain⟨w1,w2,w3,w4,w5,w6⟩:=hw
 have w2':=w2
 simp only[mq,Sz]at w1 w2 w3 w4 w5
 have hlim:l.ok=false→mz l h.qc=false:=fun e=>by simp[mz,e]
 refine aa Bm rfl ?_
 simp(disch:=omega) [sc,aj.c,Head.c,VY]
 refine ah (bV l) rfl rfl ?_
 simp(disch:=omega) [VY]
 refine aA (fun h0=> ?_) (fun h0=> ?_)
 case refine_2=>simp(disch:=omega) [h0,cE,hlim h0,VY]
 simp(disch:=omega) [h0,VY]
 have hn:=xd h0
 refine ah (ep _) rfl rfl ?_
 simp(disch:=omega) [h0,VY]
 refine aA (fun h2=> ?_) (fun h2=> ?_) <;>simp(disch:=omega) [h0,h2,cE,VY]
 refine ah (bK _ _ _) rfl rfl ?_
 simp(disch:=omega) [h0,h2,VY]
 refine aA (fun h3=> ?_) (fun h3=> ?_) <;>simp(disch:=omega) [h0,h2,h3,VY]
 refine ah (bK _ _ _) rfl rfl ?_
 simp(disch:=omega) [h0,h2,h3,VY]
 refine aA (fun h4=> ?_) (fun h4=> ?_) <;>simp(disch:=omega) [h0,h2,h3,h4,VY]
 refine ah (eo _) rfl rfl ?_
 simp(disch:=omega) [h0,h2,h3,h4,VY]
 refine aA (fun h5=> ?_) (fun h5=> ?_) <;>simp(disch:=omega) [h0,h2,h3,h4,h5,VY]
 refine ah (eo _) rfl rfl ?_
 simp(disch:=omega) [h0,h2,h3,h4,h5,VY]
 refine aA (fun h6=> ?_) (fun h6=> ?_) <;>simp(disch:=omega) [h0,h2,h3,h4,h5,h6,VY]
 refine ah (kv l h.qc w6) rfl rfl ?_
 simp(disch:=omega) [h0,h2,h3,h4,h5,h6,VY]
 refine aA (fun h1=> ?_) (fun h1=> ?_) <;>simp(disch:=omega) [h0,h1,h2,h3,h4,h5,h6,VY]
 refine ah (GC h (dv h3).1 w2') rfl rfl ?_
 simp(disch:=omega) [h0,h1,h2,h3,h4,h5,h6,VY]
def fT (l:List Head):List (List D):=l.map Head.c
theorem dq (l:List Head):(fT l).length=l.length:=by simp[fT]
theorem kF {l:List Head} {i:Nat} (h:i < l.length):(fT l)[i]? =some l[i].c:=by simp[fT,h]
def qh (l:aj) (hs:List Head):Bool:=hs.all (cE l)
theorem He {l:aj} {hs:List Head} (h:∀x∈hs.take hs.length,cE l x=true):qh l hs=true:=by
 rw[List.take_length]at h
 simpa[qh]using h
theorem GP {l:aj} {hs:List Head} {i:Nat} (hi:i < hs.length) (h:cE l hs[i]=false):qh l hs=false:=by
 simp only[qh,List.all_eq_false]
 exact⟨hs[i],List.getElem_mem hi,by simp[h]⟩
def Eg (hs:List Head):Prop:=Sz hs.length∧∀h∈hs,h.wf
end Go.Eng.F
namespace Go.Eng.F
structure Proof where
 heads:List Head
 qc:Qc
def Proof.c (p:Proof):List D:= [.sl (fT p.heads), .int .i64 p.qc.view, .int .i64 p.qc.height, .sl (bytes p.qc.block), .sl (bytes p.qc.bits), .sl (bz p.qc.tags)]
def Proof.wf (p:Proof):Prop:=Eg p.heads∧p.qc.wf
def sP (p:Proof):Bool:=match p.heads[p.heads.length - 1]? with|some h=>decide (p.qc.view=h.view) && decide (p.qc.height=h.height)|none=>false
theorem CE {p:Proof} (h:p.heads.length - 1 < p.heads.length):sP p=(decide (p.qc.view=p.heads[p.heads.length - 1].view) && decide (p.qc.height=p.heads[p.heads.length - 1].height)):=by simp[sP,h]
abbrev gw:Nat:=179
def gC:AF:=⟨1,5,[.tmp 2],(.seq (.ops [.i (.lbox 1 (.s 0)), .i (.mov 2 (qb false))]) (.seq (.ops [qf 4 1 0,ql 5 1 4 1 false,qf 6 1 0,ql 7 1 6 1 false,qn 8 7, .i (.bin 9 .sub (.s 8) (qi 1)), .i (.iad 10 (.s 5) (.s 9) 10), .i (.ldh 11 (.s 10) 10 true), .i (.lal 3 qz),qs 3 3 11 10]) (.seq (.ops [qf 12 1 1,qf 13 12 0,ql 14 1 13 1 false,qf 15 3 0,ql 16 3 15 1 false,qd 17 .eql 14 16,qm 18 17, .g 18 true 20 (.fad 19 (.s 1) 1), .g 18 true 21 (.fad 20 (.s 19) 1), .g 18 true 22 (.ldl 21 1 (.s 20) 1 false), .g 18 true 23 (.fad 22 (.s 3) 1), .g 18 true 24 (.ldl 23 3 (.s 22) 1 false), .g 18 true 25 (.bin 24 .eql (.s 21) (.s 23)), .i (.pick 25 (.s 18) (.s 24) (qb false)),qm 2 25]) .ret)))⟩
theorem qF:cd gw=some gC:=by kernel_rfl
theorem IQ (p:Proof) (h0:0 < p.heads.length) (hw:p.wf):VC cd gw (aH [(true,p.c)]) (fun rs _=>rs=bl (sP p)):=by
 have w1:p.heads.length≤1073741824:=hw.1.1
 have hx:p.heads.length - 1 < p.heads.length:=by omega
 have e1:((p.heads.length:Int) - 1).toNat=p.heads.length - 1:=by omega
 have e2:(1:Int)≤(p.heads.length:Int):=by omega
 rw[CE hx]
 refine aa qF rfl ?_
 simp(disch:=omega) [gC,Proof.c,dq,e1,e2,kF hx,Head.c,VY]
 refine ab (fun h1=> ?_) (fun h1=> ?_) <;>simp(disch:=omega) [h1,VY]
abbrev pf:Nat:=330
def pB:AF:=⟨1,5,[.tmp 2],(.seq (.ops [.i (.lbox 1 (.s 0)), .i (.mov 2 (qb false))]) (.seq (.ops [qf 4 1 0,ql 5 1 4 1 false,qf 6 1 0,ql 7 1 6 1 false,qn 8 7, .i (.bin 9 .sub (.s 8) (qi 1)), .i (.iad 10 (.s 5) (.s 9) 10), .i (.ldh 11 (.s 10) 10 true), .i (.lal 3 qz),qs 3 3 11 10]) (.seq (.ops [qf 12 1 1,qf 13 12 0,ql 14 1 13 1 false,qf 15 3 0,ql 16 3 15 1 false,qd 17 .eql 14 16,qm 18 17, .g 18 true 20 (.fad 19 (.s 1) 1), .g 18 true 21 (.fad 20 (.s 19) 1), .g 18 true 22 (.ldl 21 1 (.s 20) 1 false), .g 18 true 23 (.fad 22 (.s 3) 1), .g 18 true 24 (.ldl 23 3 (.s 22) 1 false), .g 18 true 25 (.bin 24 .eql (.s 21) (.s 23)), .i (.pick 25 (.s 18) (.s 24) (qb false)),qm 2 25]) .ret)))⟩
theorem An:cd pf=some pB:=by kernel_rfl
theorem Gn (p:Proof) (h0:0 < p.heads.length) (hw:p.wf):VC cd pf (aH [(true,p.c)]) (fun rs _=>rs=bl (sP p)):=by
 have w1:p.heads.length≤1073741824:=hw.1.1
 have hx:p.heads.length - 1 < p.heads.length:=by omega
 have e1:((p.heads.length:Int) - 1).toNat=p.heads.length - 1:=by omega
 have e2:(1:Int)≤(p.heads.length:Int):=by omega
 rw[CE hx]
 refine aa An rfl ?_
 simp(disch:=omega) [pB,Proof.c,dq,e1,e2,kF hx,Head.c,VY]
 refine ab (fun h1=> ?_) (fun h1=> ?_) <;>simp(disch:=omega) [h1,VY]
def eN (l:aj) (p:Proof):Bool:=cw p.heads.length 3 l.heads && qh l p.heads && mz l p.qc && sP p
abbrev mG:Nat:=314
def ox:AF:=⟨2,6,[.tmp 4],(.seq (.ops [.i (.lbox 2 (.s 0)), .i (.lbox 3 (.s 1)), .i (.mov 4 (qb false))]) (.seq (.seq (.ops [ql 7 2 2 5 true,qk 9 210 7, .i (.not 9 (.s 8)),qm 10 9, .g 10 false 12 (.fad 11 (.s 3) 0), .g 10 false 13 (.ldl 12 3 (.s 11) 1 false), .g 10 false 14 (.len 13 false (.s 12)), .g 10 false 15 (.fad 14 (.s 2) 4), .g 10 false 16 (.ldl 15 2 (.s 14) 1 false), .g 10 false 17 (.call 17 221 false [(.s 13),(qi 3),(.s 15)]), .g 10 false 18 (.not 17 (.s 16)), .i (.pick 18 (.s 10) (qb true) (.s 17))]) (.cond (.s 18) (.seq (.ops [.i (.mov 4 (qb false))]) .ret) .skip)) (.seq (.seq (.ops [qf 19 3 0,ql 20 3 19 1 false,qn 21 20, .i (.mov 22 (qi 0))]) (.block 0 (.loop [30,29,28,27,26,25,24,23,6] (.seq (.ops [qd 23 .lss 22 21]) (.seq (.cond (.s 23) .skip (.exit 0)) (.seq (.block 1 (.seq (.ops [.i (.iad 24 (.s 20) (.s 22) 10), .i (.ldh 25 (.s 24) 10 true), .i (.lal 6 qz),qs 6 6 25 10]) (.seq (.ops [ql 26 2 2 5 true,ql 27 6 6 10 true, .i (.call 29 310 false [(.s 26),(.s 27)]), .i (.not 29 (.s 28))]) (.cond (.s 29) (.seq (.ops [.i (.mov 4 (qb false))]) .ret) .skip)))) (.ops [.i (.bin 30 .add (.s 22) (qi 1)),qm 22 30]))))))) (.seq (.ops [ql 31 2 2 5 true,qf 32 3 1,ql 33 3 32 5 true, .i (.call 35 309 false [(.s 31),(.s 33)]),qm 35 34, .g 35 true 37 (.ldl 36 3 (.s 3) 6 true), .g 35 true 38 (.call 38 330 false [(.s 36)]), .i (.pick 38 (.s 35) (.s 37) (qb false)),qm 4 38]) .ret))))⟩
theorem yO:cd mG=some ox:=by kernel_rfl
theorem xQ (l:aj) (p:Proof) (hw:p.wf):VC cd mG (aH [(true,l.c),(true,p.c)]) (fun rs _=>rs=bl (eN l p)):=by
 have w1:p.heads.length≤1073741824:=hw.1.1
 have hlim:l.ok=false→mz l p.qc=false:=fun e=>by simp[mz,e]
 refine aa yO rfl ?_
 simp(disch:=omega) [ox,aj.c,Proof.c,dq,VY]
 refine ah (bV l) rfl rfl ?_
 simp(disch:=omega) [VY]
 refine aA (fun h0=> ?_) (fun h0=> ?_)
 case refine_2=>simp(disch:=omega) [h0,eN,hlim h0,VY]
 simp(disch:=omega) [h0,dq,VY]
 refine ah (bK _ _ _) rfl rfl ?_
 simp(disch:=omega) [h0,VY]
 refine aA (fun h1=> ?_) (fun h1=> ?_)
 case refine_2=>simp(disch:=omega) [h0,h1,eN,VY]
 simp(disch:=omega) [h0,h1,dq,VY]
 refine bd (σ:=Nat) (f1:=_) (es0:=_) (by simp(disch:=omega) [VY];rfl) (by simp(disch:=omega) [VY];rfl) (fun i=> [(22, .val false [.int .i64 i])]) (fun _=> []) (fun i g=>g+i=p.heads.length∧∀x∈p.heads.take i,cE l x=true) 0 p.heads.length (by simp(disch:=omega) [VY]) (by simp(disch:=omega) [VY]) ⟨by omega,by simp⟩ ?_
 rintro i n g ⟨hg,hi⟩
 simp(disch:=omega) [VY]
 refine ab (fun h2=> ?_) (fun h2=> ?_)
 ·have hx:i < p.heads.length:=by omega
  simp(disch:=omega) [kF hx,Head.c,VY]
  refine ah (gW l p.heads[i] (hw.1.2 _ (List.getElem_mem hx))) rfl rfl ?_
  simp(disch:=omega) [VY]
  refine aA (fun h3=> ?_) (fun h3=> ?_)
  ·simp(disch:=omega) [VY]
   exact⟨i+1,g - 1,by omega,⟨by omega,tW hi hx h3⟩,by simp⟩
  ·simp(disch:=omega) [eN,GP hx h3,VY]
 ·have hl:i=p.heads.length:=by omega
  subst hl
  have h4:=He hi
  simp(disch:=omega) [VY]
  refine ah (kv l p.qc hw.2) rfl rfl ?_
  simp(disch:=omega) [VY]
  refine aA (fun h5=> ?_) (fun h5=> ?_) <;>simp(disch:=omega) [h5,h4,h1,eN,VY]
  refine ah (Gn p (by have:=dv h1;omega) hw) rfl rfl ?_
  simp(disch:=omega) [h5,h4,h1,VY]
abbrev jX:Nat:=93
def ji:AF:=⟨1,3,[.tmp 2],(.seq (.ops [.i (.mov 2 (.c (.val false [.nils])))]) (.seq (.ops [.i (.bse 3),qm 4 0, .i (.app 5 5 1 1 (.s 3) (.s 4)),qm 2 5]) .ret))⟩
theorem we:cd jX=some ji:=by kernel_rfl
theorem dL (x:Bytes) (hx:x.length≤1099511627776):VC cd jX (aH [(false,[.sl (bytes x)])]) (fun rs _=>rs= [(false,[.o true (some (5,1)) (bytes x)])]):=by
 refine aa we rfl ?_
 simp(disch:=omega) [ji,VY]
abbrev pG:Nat:=143
def nm:AF:=⟨1,3,[.tmp 2],(.seq (.ops [.i (.mov 2 (.c (.val false [.nils])))]) (.seq (.ops [.i (.bse 3),qm 4 0, .i (.app 5 5 1 1 (.s 3) (.s 4)),qm 2 5]) .ret))⟩
theorem yB:cd pG=some nm:=by kernel_rfl
theorem aY (x:Bytes) (hx:x.length≤1099511627776):VC cd pG (aH [(false,[.sl (bytes x)])]) (fun rs _=>rs= [(false,[.o true (some (5,1)) (bytes x)])]):=by
 refine aa yB rfl ?_
 simp(disch:=omega) [nm,VY]
def oE (l:List Bytes):Prop:=Sz l.length∧∀x∈l,Sz x.length
theorem yg (l:List Bytes):wid 1 (bz l)=true:=by
 induction l with
 |nil=>rfl
 |cons b x ih=>simp only[bz,List.map_cons,wid]at ih⊢;simpa using ih
theorem KM {l:List Bytes} {i:Nat} (h:i < l.length):bz (l.take i)++ [[.sl (bytes l[i])]]=bz (l.take (i+1)):=by
 have e:bz (l.take (i+1))=bz (l.take i)++bz [l[i]]:=by
  rw[List.take_add_one,List.getElem?_eq_getElem h];exact List.map_append
 rw[e];rfl
abbrev pL:Nat:=316
def oI:AF:=⟨1,5,[.tmp 2],(.seq (.ops [.i (.mov 2 (.c (.val false [.nils])))]) (.seq (.ops [.i (.bse 6),qm 3 6]) (.seq (.seq (.ops [qm 7 0,qn 8 7, .i (.mov 9 (qi 0))]) (.block 0 (.loop [18,17,16,15,14,13,12,11,10,5] (.seq (.ops [qd 10 .lss 9 8]) (.seq (.cond (.s 10) .skip (.exit 0)) (.seq (.block 1 (.seq (.ops [.i (.iad 11 (.s 7) (.s 9) 1), .i (.ldh 12 (.s 11) 1 false),qm 5 12]) (.ops [qm 13 3,qm 14 5,qk 16 143 14, .i (.lsl 16 1 1 [.nils] [(0,1,(.s 15))]), .i (.app 17 22 1 24 (.s 13) (.s 16)),qm 3 17]))) (.ops [.i (.bin 18 .add (.s 9) (qi 1)),qm 9 18]))))))) (.seq (.ops [qm 19 3,qm 2 19]) .ret))))⟩
theorem y5:cd pL=some oI:=by kernel_rfl
theorem ke (l:List Bytes) (hw:oE l):VC cd pL (aH [(false,[.sl (bz l)])]) (fun rs _=>rs= [(false,[.o true (some (22,1)) (bz l)])]):=by
 obtain⟨w1,w2⟩:=hw
 simp only[Sz]at w1 w2
 refine aa y5 rfl ?_
 simp(disch:=omega) [oI,aB,VY]
 refine bd (σ:=Nat×Nat) (f1:=_) (es0:=_) (by simp(disch:=omega) [VY];rfl) (by simp(disch:=omega) [VY];rfl) (fun p=> [(9, .val false [.int .i64 p.1]),(3, .val false [.ow 6 p.2])]) (fun p=> [(6, .sl p.2 true true (some (22,1)) (bz (l.take p.1)))])
  (fun p g=>g+p.1=l.length) (0,1) l.length (by simp(disch:=omega) [VY]) (by simp(disch:=omega) [bz,VY]) (by omega) ?_
 rintro⟨i,v⟩ n g hg
 simp only at hg
 simp(disch:=omega) [VY]
 refine ab (fun h1=> ?_) (fun h1=> ?_)
 ·have hx:i < l.length:=by omega
  simp(disch:=omega) [fN hx,VY]
  refine ah (aY l[i] (by have:=w2 _ (List.getElem_mem hx);omega)) rfl rfl ?_
  have hl:(bz (l.take i)).length=i:=by rw[aB];simp;omega
  simp(disch:=omega) [hl,KM hx,VY]
  exact⟨i+1,n+1,g - 1,by omega,by omega,⟨by omega,by omega⟩,by omega,rfl⟩
 ·simp(disch:=omega) [VY]
  have:i=l.length:=by omega
  subst this
  rw[List.take_length]
def Qc.o (q:Qc):List E:= [.p (.int .i64 q.view), .p (.int .i64 q.height), .o true (some (5,1)) (bytes q.block), .o true (some (5,1)) (bytes q.bits), .o true (some (22,1)) (bz q.tags)]
def Qc.wc (q:Qc):Prop:=q.wf∧∀x∈q.tags,Sz x.length
theorem Qc.wc.t {q:Qc} (h:q.wc):oE q.tags:=⟨h.1.2.2.2.2,h.2⟩
abbrev pP:Nat:=264
def nX:AF:=⟨1,5,[.cell 2 5 true],(.seq (.ops [.i (.lbox 1 (.s 0)), .i (.lal 2 [.int .i64 0, .int .i64 0, .nils, .nils, .nils])]) (.seq (.ops [qf 3 1 0,ql 4 1 3 1 false,qf 5 1 1,ql 6 1 5 1 false,qf 7 1 2,ql 8 1 7 1 false,qk 10 143 8,qf 10 1 3,ql 11 1 10 1 false,qk 13 143 11,qf 13 1 4,ql 14 1 13 1 false,qk 16 316 14, .i (.bld 16 [.int .i64 0, .int .i64 0, .nils, .nils, .nils] [(0,1,(.s 4)),(1,1,(.s 6)),(2,1,(.s 9)),(3,1,(.s 12)),(4,1,(.s 15))]),qs 2 2 16 5]) .ret))⟩
theorem Au:cd pP=some nX:=by kernel_rfl
theorem sH (q:Qc) (hw:q.wc):VC cd pP (aH [(true,q.c)]) (fun rs _=>rs= [(true,q.o)]):=by
 have ht:=hw.t
 obtain⟨⟨w1,w2,w3,w4,w5⟩,w6⟩:=hw
 simp only[Sz]at w3 w4
 refine aa Au rfl ?_
 simp(disch:=omega) [nX,Qc.c,VY]
 refine ah (aY _ (by omega)) rfl rfl ?_
 simp(disch:=omega) [VY]
 refine ah (aY _ (by omega)) rfl rfl ?_
 simp(disch:=omega) [VY]
 refine ah (ke _ ht) rfl rfl ?_
 simp(disch:=omega) [Qc.o,VY]
def Head.o (h:Head):List E:= [.p (.int .i64 h.view), .p (.int .i64 h.height), .p (.int .i64 h.proposer), .o true (some (5,1)) (bytes h.parent), .o true (some (5,1)) (bytes h.root), .p (.int .i64 h.qc.view), .p (.int .i64 h.qc.height), .o true (some (5,1)) (bytes h.qc.block), .o true (some (5,1)) (bytes h.qc.bits), .o true (some (22,1)) (bz h.qc.tags)]
def Head.wc (h:Head):Prop:=h.wf∧∀x∈h.qc.tags,Sz x.length
abbrev nj:Nat:=267
def mM:AF:=⟨1,5,[.cell 2 10 true],(.seq (.ops [.i (.lbox 1 (.s 0)), .i (.lal 2 qz)]) (.seq (.ops [qf 3 1 0,ql 4 1 3 1 false,qf 5 1 1,ql 6 1 5 1 false,qf 7 1 2,ql 8 1 7 1 false,qf 9 1 3,ql 10 1 9 1 false,qk 12 143 10,qf 12 1 4,ql 13 1 12 1 false,qk 15 143 13,qf 15 1 5,ql 16 1 15 5 true,qk 18 264 16, .i (.bld 18 qz [(0,1,(.s 4)),(1,1,(.s 6)),(2,1,(.s 8)),(3,1,(.s 11)),(4,1,(.s 14)),(5,5,(.s 17))]),qs 2 2 18 10]) .ret))⟩
theorem yy:cd nj=some mM:=by kernel_rfl
theorem kr (h:Head) (hw:h.wc):VC cd nj (aH [(true,h.c)]) (fun rs _=>rs= [(true,h.o)]):=by
 obtain⟨⟨w1,w2,w3,w4,w5,w6⟩,w7⟩:=hw
 simp only[Sz]at w4 w5
 refine aa yy rfl ?_
 simp(disch:=omega) [mM,Head.c,VY]
 refine ah (aY _ (by omega)) rfl rfl ?_
 simp(disch:=omega) [VY]
 refine ah (aY _ (by omega)) rfl rfl ?_
 simp(disch:=omega) [VY]
 refine ah (sH h.qc ⟨w6,w7⟩) rfl rfl ?_
 simp(disch:=omega) [Head.o,Qc.o,VY]
end Go.Eng.F
namespace Go.Eng.F
def word (x:Int):Bool:=cw x 0 4294967295
abbrev rF:Nat:=249
def r9:AF:=⟨1,3,[.tmp 2],(.seq (.ops [.i (.mov 2 (qb false))]) (.seq (.ops [qm 3 0, .i (.call 5 158 false [(.s 3),(qi 0),(qi 4294967295)]),qm 2 4]) .ret))⟩
theorem BT:cd rF=some r9:=by kernel_rfl
theorem va (x:Int):VC cd rF (aH [(false,[.int .i64 x])]) (fun rs _=>rs=bl (word x)):=by
 refine aa BT rfl ?_
 simp(disch:=omega) [r9,VY]
 refine ah (bg _ _ _) rfl rfl ?_
 simp(disch:=omega) [word,VY]
abbrev oO:Nat:=351
def oH:AF:=⟨1,3,[.tmp 2],(.seq (.ops [.i (.mov 2 (qb false))]) (.seq (.ops [qm 3 0, .i (.call 5 221 false [(.s 3),(qi 0),(qi 4294967295)]),qm 2 4]) .ret))⟩
theorem zy:cd oO=some oH:=by kernel_rfl
theorem Ge (x:Int):VC cd oO (aH [(false,[.int .i64 x])]) (fun rs _=>rs=bl (word x)):=by
 refine aa zy rfl ?_
 simp(disch:=omega) [oH,VY]
 refine ah (bK _ _ _) rfl rfl ?_
 simp(disch:=omega) [word,VY]
def turn (x:Int) (n:Nat):Int:=ay .and .i64 (ay .or .i64 (x.fdiv (2 ^ n)) (IntKind.i64.wrap (x * 2 ^ (32 - n)))) 4294967295
abbrev mF:Nat:=352
def mR:AF:=⟨2,4,[.tmp 4],(.seq (.ops [.i (.mov 4 (qi 0))]) (.seq (.ops [qm 5 0,qm 6 1,qd 7 .shr 5 6,qm 8 0,qm 9 1, .i (.bin 10 .sub (qi 32) (.s 9)),qd 11 .shl 8 10,qd 12 .or 7 11, .i (.bin 13 .and (.s 12) (qi 4294967295)),qm 4 13]) .ret))⟩
theorem zl:cd mF=some mR:=by kernel_rfl
theorem cS (x:Int) (n:Nat) (hn:n≤31):VC cd mF (aH [(false,[.int .i64 x]),(false,[.int .i64 (n:Int)])]) (fun rs _=>rs=it (turn x n)):=by
 have e0:¬(n:Int) < 0:=by omega
 have e1:min n 64=n:=by omega
 have e2:¬(32:Int) - (n:Int) < 0:=by omega
 have e3:((32:Int) - (n:Int)).toNat=32 - n:=by omega
 have e4:min (32 - n) 64=32 - n:=by omega
 refine aa zl rfl ?_
 simp(disch:=omega) [mR,turn,e0,e1,e2,e3,e4,IntKind.bits,VY]
abbrev j9:Nat:=251
def ka:AF:=⟨2,5,[.tmp 4],(.seq (.ops [.i (.mov 4 (qi 0))]) (.seq (.seq (.ops [qm 5 0,qk 7 249 5, .i (.not 7 (.s 6)),qm 8 7, .g 8 false 10 (.mov 9 (.s 1)), .g 8 false 11 (.call 11 158 false [(.s 9),(qi 0),(qi 31)]), .g 8 false 12 (.not 11 (.s 10)), .i (.pick 12 (.s 8) (qb true) (.s 11))]) (.cond (.s 12) (.seq (.ops [.i (.mov 4 (qi 0))]) .ret) .skip)) (.seq (.ops [qm 13 0,qm 14 1,qd 15 .shr 13 14,qm 16 0,qm 17 1, .i (.bin 18 .sub (qi 32) (.s 17)),qd 19 .shl 16 18,qd 20 .or 15 19, .i (.bin 21 .and (.s 20) (qi 4294967295)),qm 4 21]) .ret)))⟩
theorem wg:cd j9=some ka:=by kernel_rfl
theorem bZ (x:Int) (n:Nat) (hn:n≤31) (hx:word x=true):VC cd j9 (aH [(false,[.int .i64 x]),(false,[.int .i64 (n:Int)])]) (fun rs _=>rs=it (turn x n)):=by
 have e0:¬(n:Int) < 0:=by omega
 have e1:min n 64=n:=by omega
 have e2:¬(32:Int) - (n:Int) < 0:=by omega
 have e3:((32:Int) - (n:Int)).toNat=32 - n:=by omega
 have e4:min (32 - n) 64=32 - n:=by omega
 have e5:cw (n:Int) 0 31=true:=by simp[cw];omega
 refine aa wg rfl ?_
 simp(disch:=omega) [ka,VY]
 refine ah (va x) rfl rfl ?_
 simp(disch:=omega) [hx,VY]
 refine ah (bg _ _ _) rfl rfl ?_
 simp(disch:=omega) [hx,e5,turn,e0,e1,e2,e3,e4,IntKind.bits,VY]
def zc (n:Nat):Nat:=(119 - n % 64) % 64
theorem uR (n:Nat):zc n < 64∧(n+1+zc n) % 64=56:=by unfold zc;omega
def mY (n:Nat):Bytes:=(List.range 8).map fun k=>UInt8.ofNat (n / 2 ^ (8 * (7 - k)))
theorem qj (n:Nat) {k:Nat} (h:k < 8):(mY n).take (k+1)=(mY n).take k++ [UInt8.ofNat (n / 2 ^ (8 * (7 - k)))]:=by
 rw[List.take_add_one]
 simp[mY,h]
theorem PX (n k:Nat):IntKind.u8.wrap (Int.fdiv (n:Int) (2 ^ k))=((UInt8.ofNat (n / 2 ^ k)).toNat:Int):=by
 have e:Int.fdiv (n:Int) (2 ^ k)=((n / 2 ^ k:Nat):Int):=by
  rw[Int.fdiv_eq_ediv_of_nonneg _ (Int.pow_nonneg (by omega))]
  simp[Int.natCast_ediv,Int.natCast_pow]
 rw[e]
 simp only[UInt8.toNat_ofNat',Nat.reducePow]
 simp[IntKind.wrap,IntKind.bits,IntKind.signed]
def pad (b:Bytes):Bytes:=b++ [128]++List.replicate (zc b.length) 0++mY (8 * b.length)
abbrev sv:Nat:=174
def rH:AF:=⟨1,5,[.tmp 2],(.seq (.ops [.i (.mov 2 (.c (.val false [.nils])))]) (.seq (.ops [qm 5 0,qk 7 93 5, .i (.lsl 7 1 1 [.int .u8 0] [(0,1,(.c (.val false [.int .u8 128])))]), .i (.app 8 5 1 1 (.s 6) (.s 7)),qm 3 8]) (.seq (.block 0 (.loop [15,14,13,12,11,10,9] (.seq (.seq (.ops [qm 9 3,qn 10 9, .i (.bin 11 .rem (.s 10) (qi 64)), .i (.bin 12 .neq (.s 11) (qi 56))]) (.cond (.s 12) .skip (.exit 0))) (.block 1 (.ops [qm 13 3, .i (.lsl 14 1 1 [.int .u8 0] [(0,1,(.c (.val false [.int .u8 0])))]), .i (.app 15 5 1 1 (.s 13) (.s 14)),qm 3 15]))))) (.seq (.seq (.ops [.i (.mov 4 (qi 7))]) (.block 2 (.loop [29,28,27,26,25,24,23,22,21,20,19,18,17,16] (.seq (.seq (.ops [qm 16 4, .i (.bin 17 .geq (.s 16) (qi 0))]) (.cond (.s 17) .skip (.exit 2))) (.seq (.block 3 (.ops [qm 20 3,qm 21 0,qn 22 21, .i (.bin 23 .mul (qi 8) (.s 22)),qm 24 4, .i (.bin 25 .mul (qi 8) (.s 24)),qd 26 .shr 23 25, .i (.cvi 27 .u8 (.s 26)), .i (.lsl 28 1 1 [.int .u8 0] [(0,1,(.s 27))]), .i (.app 29 5 1 1 (.s 20) (.s 28)),qm 3 29])) (.ops [qm 18 4, .i (.bin 19 .sub (.s 18) (qi 1)),qm 4 19])))))) (.seq (.ops [qm 30 3,qm 2 30]) .ret)))))⟩
theorem Bc:cd sv=some rH:=by kernel_rfl
theorem z0 (b:Bytes) (hb:b.length≤1073741824):VC cd sv (aH [(false,[.sl (bytes b)])]) (fun rs _=>rs= [(false,[.o true (some (5,1)) (bytes (pad b))])]):=by
 refine aa Bc rfl ?_
 simp(disch:=omega) [rH,VY]
 refine ah (dL b (by omega)) rfl rfl ?_
 have e0:bytes b++ [[.int .u8 128]]=bytes (b++ [128]):=by simp[bytes]
 simp(disch:=omega) [e0,ae,VY]
 refine bd (σ:=Nat×Nat) (f1:=_) (es0:=_) (by simp(disch:=omega) [VY];rfl) (by simp(disch:=omega) [VY];rfl) (fun p=> [(3, .val false [.ow 65536 p.2])]) (fun p=> [(65536, .sl p.2 true true (some (5,1)) (bytes (b++ [128]++List.replicate p.1 0)))])
  (fun p g=>g+p.1=zc b.length) (0,_) (zc b.length) (by simp(disch:=omega) [VY];rfl) (by simp(disch:=omega) [VY]) (by omega) ?_
 rintro⟨j,v⟩ n g hg
 simp only at hg
 have hz:=uR b.length
 have hl:(b++ [128]++List.replicate j (0:UInt8)).length=b.length+1+j:=by simp;omega
 have e1:Int.tmod ((b.length:Int)+((j:Int)+1)) 64=(((b.length+1+j) % 64:Nat):Int):=by rw[Int.tmod_eq_emod_of_nonneg (by omega)];omega
 simp only[]at *
 simp(disch:=omega) [ae,hl,e1,VY]
 refine ab (fun h1=> ?_) (fun h1=> ?_)
 ·have hj:j=zc b.length:=by omega
  subst hj
  simp(disch:=omega) [ae,VY]
  refine bd (σ:=Nat×Nat) (f1:=_) (es0:=_) (by simp(disch:=omega) [VY];rfl) (by simp(disch:=omega) [VY];rfl) (fun p=> [(4, .val false [.int .i64 (7 - (p.1:Int))]),(3, .val false [.ow 65536 p.2])]) (fun p=> [(65536, .sl p.2 true true (some (5,1)) (bytes (b++ [128]++List.replicate (zc b.length) 0++(mY (8 * b.length)).take p.1)))])
   (fun p g=>g+p.1=8) (0,_) 8 (by simp(disch:=omega) [VY];rfl) (by simp(disch:=omega) [VY]) (by omega) ?_
  rintro⟨k,w⟩ n g hg
  simp only at hg
  simp(disch:=omega) [VY]
  refine ab (fun h2=> ?_) (fun h2=> ?_)
  ·have hk:k < 8:=by omega
   have q1:¬(8:Int) * (7 - (k:Int)) < 0:=by omega
   have q2:((8:Int) * (7 - (k:Int))).toNat=8 * (7 - k):=by omega
   have q3:min (8 * (7 - k)) 64=8 * (7 - k):=by omega
   have q4:=PX (8 * b.length) (8 * (7 - k))
   have q5:((8 * b.length:Nat):Int)=8 * (b.length:Int):=by omega
   rw[q5]at q4
   have q6:bytes (b++ [128]++List.replicate (zc b.length) 0++(mY (8 * b.length)).take k)++ [[.int .u8 ((UInt8.ofNat (8 * b.length / 2 ^ (8 * (7 - k)))).toNat:Int)]]=bytes (b++ [128]++List.replicate (zc b.length) 0++(mY (8 * b.length)).take (k+1)):=by
    rw[qj _ hk,←List.append_assoc];simp only[bytes,List.map_append,List.map_cons,List.map_nil]
   have q7:(bytes (b++ [128]++List.replicate (zc b.length) 0++(mY (8 * b.length)).take k)).length=b.length+1+zc b.length+k:=by
    rw[ae];simp[mY];omega
   simp(disch:=omega) [ae,q1,q2,q3,q4,q6,q7,IntKind.bits,VY]
   have q8:((UInt8.ofNat (8 * b.length / 2 ^ (8 * (7 - k)))).toNat:Int)=8 * (b.length:Int) / 2 ^ (8 * (7 - k)) % 256:=by simp[UInt8.toNat_ofNat']
   exact⟨k+1,_,g - 1,by omega,by omega,⟨rfl,by omega⟩,rfl,by rw[qj _ hk];simp[bytes,q8]⟩
  ·have hk:k=8:=by omega
   subst hk
   simp(disch:=omega) [pad,VY]
   rw[List.take_of_length_le (by simp[mY])]
 ·have e2:bytes (b++ [128]++List.replicate j (0:UInt8))++ [[.int .u8 0]]=bytes (b++ [128]++List.replicate (j+1) 0):=by rw[List.replicate_succ',←List.append_assoc];simp[bytes]
  have e3:(bytes (b++ [128]++List.replicate j (0:UInt8))).length=b.length+1+j:=by rw[ae,hl]
  simp(disch:=omega) [e2,e3,VY]
  exact⟨j+1,_,g - 1,by omega,by omega,rfl,rfl,by rw[List.replicate_succ'];simp[bytes]⟩
abbrev rr:Nat:=346
def rU:AF:=⟨1,6,[.tmp 2],(.seq (.ops [.i (.mov 2 (.c (.val false [.nils])))]) (.seq (.ops [qm 6 0,qk 8 143 6, .i (.lsl 8 1 1 [.int .u8 0] [(0,1,(.c (.val false [.int .u8 128])))]), .i (.app 9 5 1 1 (.s 7) (.s 8)),qm 3 9]) (.seq (.block 0 (.loop [16,15,14,13,12,11,10] (.seq (.seq (.ops [qm 10 3,qn 11 10, .i (.bin 12 .rem (.s 11) (qi 64)), .i (.bin 13 .neq (.s 12) (qi 56))]) (.cond (.s 13) .skip (.exit 0))) (.block 1 (.ops [qm 14 3, .i (.lsl 15 1 1 [.int .u8 0] [(0,1,(.c (.val false [.int .u8 0])))]), .i (.app 16 5 1 1 (.s 14) (.s 15)),qm 3 16]))))) (.seq (.ops [qm 17 0,qn 18 17, .i (.bin 19 .mul (qi 8) (.s 18)),qm 4 19]) (.seq (.seq (.ops [.i (.mov 5 (qi 7))]) (.block 2 (.loop [31,30,29,28,27,26,25,24,23,22,21,20] (.seq (.seq (.ops [qm 20 5, .i (.bin 21 .geq (.s 20) (qi 0))]) (.cond (.s 21) .skip (.exit 2))) (.seq (.block 3 (.ops [qm 24 3,qm 25 4,qm 26 5, .i (.bin 27 .mul (qi 8) (.s 26)),qd 28 .shr 25 27, .i (.cvi 29 .u8 (.s 28)), .i (.lsl 30 1 1 [.int .u8 0] [(0,1,(.s 29))]), .i (.app 31 5 1 1 (.s 24) (.s 30)),qm 3 31])) (.ops [qm 22 5, .i (.bin 23 .sub (.s 22) (qi 1)),qm 5 23])))))) (.seq (.ops [qm 32 3,qm 2 32]) .ret))))))⟩
theorem B4:cd rr=some rU:=by kernel_rfl
theorem zn (b:Bytes) (hb:b.length≤1073741824):VC cd rr (aH [(false,[.sl (bytes b)])]) (fun rs _=>rs= [(false,[.o true (some (5,1)) (bytes (pad b))])]):=by
 refine aa B4 rfl ?_
 simp(disch:=omega) [rU,VY]
 refine ah (aY b (by omega)) rfl rfl ?_
 have e0:bytes b++ [[.int .u8 128]]=bytes (b++ [128]):=by simp[bytes]
 simp(disch:=omega) [e0,ae,VY]
 refine bd (σ:=Nat×Nat) (f1:=_) (es0:=_) (by simp(disch:=omega) [VY];rfl) (by simp(disch:=omega) [VY];rfl) (fun p=> [(3, .val false [.ow 73728 p.2])]) (fun p=> [(73728, .sl p.2 true true (some (5,1)) (bytes (b++ [128]++List.replicate p.1 0)))])
  (fun p g=>g+p.1=zc b.length) (0,_) (zc b.length) (by simp(disch:=omega) [VY];rfl) (by simp(disch:=omega) [VY]) (by omega) ?_
 rintro⟨j,v⟩ n g hg
 simp only at hg
 have hz:=uR b.length
 have hl:(b++ [128]++List.replicate j (0:UInt8)).length=b.length+1+j:=by simp;omega
 have e1:Int.tmod ((b.length:Int)+((j:Int)+1)) 64=(((b.length+1+j) % 64:Nat):Int):=by rw[Int.tmod_eq_emod_of_nonneg (by omega)];omega
 simp only[]at *
 simp(disch:=omega) [ae,hl,e1,VY]
 refine ab (fun h1=> ?_) (fun h1=> ?_)
 ·have hj:j=zc b.length:=by omega
  subst hj
  simp(disch:=omega) [ae,VY]
  refine bd (σ:=Nat×Nat) (f1:=_) (es0:=_) (by simp(disch:=omega) [VY];rfl) (by simp(disch:=omega) [VY];rfl) (fun p=> [(5, .val false [.int .i64 (7 - (p.1:Int))]),(3, .val false [.ow 73728 p.2])]) (fun p=> [(73728, .sl p.2 true true (some (5,1)) (bytes (b++ [128]++List.replicate (zc b.length) 0++(mY (8 * b.length)).take p.1)))])
   (fun p g=>g+p.1=8) (0,_) 8 (by simp(disch:=omega) [VY];rfl) (by simp(disch:=omega) [VY]) (by omega) ?_
  rintro⟨k,w⟩ n g hg
  simp only at hg
  simp(disch:=omega) [VY]
  refine ab (fun h2=> ?_) (fun h2=> ?_)
  ·have hk:k < 8:=by omega
   have q1:¬(8:Int) * (7 - (k:Int)) < 0:=by omega
   have q2:((8:Int) * (7 - (k:Int))).toNat=8 * (7 - k):=by omega
   have q3:min (8 * (7 - k)) 64=8 * (7 - k):=by omega
   have q4:=PX (8 * b.length) (8 * (7 - k))
   have q5:((8 * b.length:Nat):Int)=8 * (b.length:Int):=by omega
   rw[q5]at q4
   have q6:bytes (b++ [128]++List.replicate (zc b.length) 0++(mY (8 * b.length)).take k)++ [[.int .u8 ((UInt8.ofNat (8 * b.length / 2 ^ (8 * (7 - k)))).toNat:Int)]]=bytes (b++ [128]++List.replicate (zc b.length) 0++(mY (8 * b.length)).take (k+1)):=by
    rw[qj _ hk,←List.append_assoc];simp only[bytes,List.map_append,List.map_cons,List.map_nil]
   have q7:(bytes (b++ [128]++List.replicate (zc b.length) 0++(mY (8 * b.length)).take k)).length=b.length+1+zc b.length+k:=by
    rw[ae];simp[mY];omega
   simp(disch:=omega) [ae,q1,q2,q3,q4,q6,q7,IntKind.bits,VY]
   have q8:((UInt8.ofNat (8 * b.length / 2 ^ (8 * (7 - k)))).toNat:Int)=8 * (b.length:Int) / 2 ^ (8 * (7 - k)) % 256:=by simp[UInt8.toNat_ofNat']
   exact⟨k+1,_,g - 1,by omega,by omega,⟨rfl,by omega⟩,rfl,by rw[qj _ hk];simp[bytes,q8]⟩
  ·have hk:k=8:=by omega
   subst hk
   simp(disch:=omega) [pad,VY]
   rw[List.take_of_length_le (by simp[mY])]
 ·have e2:bytes (b++ [128]++List.replicate j (0:UInt8))++ [[.int .u8 0]]=bytes (b++ [128]++List.replicate (j+1) 0):=by rw[List.replicate_succ',←List.append_assoc];simp[bytes]
  have e3:(bytes (b++ [128]++List.replicate j (0:UInt8))).length=b.length+1+j:=by rw[ae,hl]
  simp(disch:=omega) [e2,e3,VY]
  exact⟨j+1,_,g - 1,by omega,by omega,rfl,rfl,by rw[List.replicate_succ'];simp[bytes]⟩
def gi (l:List Int) (i:Nat):Int:=l.getD i 0
def ints (l:List Int):List (List D):=l.map fun n=> [.int .i64 n]
theorem bJ (l:List Int):(ints l).length=l.length:=by simp[ints]
theorem Af {l:List Int} {i:Nat} (h:i < l.length):(ints l)[i]? =some [.int .i64 (gi l i)]:=by simp[ints,gi,h]
theorem gJ (l:List Int):flat (ints l)=true:=by
 induction l with
 |nil=>rfl
 |cons n l ih=>simp only[ints,List.map_cons,flat]at ih⊢;simpa[bY,D.leaf]using ih
theorem jm (l:List Int):wid 1 (ints l)=true:=by
 induction l with
 |nil=>rfl
 |cons n l ih=>simp only[ints,List.map_cons,wid]at ih⊢;simpa using ih
theorem ed {l:List Int} {i:Nat} (h:i < (ints l).length):(ints l)[i]= [.int .i64 (gi l i)]:=by simp[ints,gi]at h⊢;simp[h]
def qK (l:List Int):List D:=l.map (.int .i64)
theorem D8 (l:List Int):(qK l).length=l.length:=by simp[qK]
theorem Df {l:List Int} {i:Nat} (h:i < l.length):((qK l).drop i).take 1= [.int .i64 (gi l i)]:=by
 have e:(qK l).drop i= .int .i64 (gi l i)::(qK l).drop (i+1):=by
  rw[List.drop_eq_getElem_cons (by simpa[qK]using h)]
  simp[qK,gi,h]
 rw[e];rfl
def init:List Int:= [1779033703,3144134277,1013904242,2773480762,1359893119,2600822924,528734635,1541459225]
abbrev mW:Nat:=173
def pv:AF:=⟨0,2,[.tmp 0],(.seq (.ops [.i (.mov 0 (.c (.val false [.nils])))]) (.seq (.ops [.i (.bsl 1 3 1 8 [.int .i64 0] [(0,1,(qi 1779033703)),(1,1,(qi 3144134277)),(2,1,(qi 1013904242)),(3,1,(qi 2773480762)),(4,1,(qi 1359893119)),(5,1,(qi 2600822924)),(6,1,(qi 528734635)),(7,1,(qi 1541459225))]),qm 0 1]) .ret))⟩
theorem y8:cd mW=some pv:=by kernel_rfl
theorem x6:VC cd mW (aH []) (fun rs _=>rs= [(false,[.o true (some (3,1)) (ints init)])]):=by
 refine aa y8 rfl ?_
 simp(disch:=omega) [pv,ints,init,VY]
abbrev po:Nat:=345
def ni:AF:=⟨0,2,[.tmp 0],(.seq (.ops [.i (.mov 0 (.c (.val false [.nils])))]) (.seq (.ops [.i (.bsl 1 3 1 8 [.int .i64 0] [(0,1,(qi 1779033703)),(1,1,(qi 3144134277)),(2,1,(qi 1013904242)),(3,1,(qi 2773480762)),(4,1,(qi 1359893119)),(5,1,(qi 2600822924)),(6,1,(qi 528734635)),(7,1,(qi 1541459225))]),qm 0 1]) .ret))⟩
theorem zm:cd po=some ni:=by kernel_rfl
theorem xR:VC cd po (aH []) (fun rs _=>rs= [(false,[.o true (some (3,1)) (ints init)])]):=by
 refine aa zm rfl ?_
 simp(disch:=omega) [ni,ints,init,VY]
def kk:List Int:= [1116352408,1899447441,3049323471,3921009573,961987163,1508970993,2453635748,2870763221,3624381080,310598401,607225278,1426881987,1925078388,2162078206,2614888103,3248222580,3835390401,4022224774,264347078,604807628,770255983,1249150122,1555081692,1996064986,2554220882,2821834349,2952996808,3210313671,3336571891,3584528711,113926993,338241895,666307205,773529912,1294757372,1396182291,1695183700,1986661051,2177026350,2456956037,2730485921,2820302411,3259730800,3345764771,3516065817,3600352804,4094571909,275423344,430227734,506948616,659060556,883997877,958139571,1322822218,1537002063,1747873779,1955562222,2024104815,2227730452,2361852424,2428436474,2756734187,3204031479,3329325298]
abbrev rW:Nat:=250
def qS:AF:=⟨0,2,[.tmp 0],(.seq (.ops [.i (.mov 0 (.c (.val false [.nils])))]) (.seq (.ops [.i (.bsl 1 3 1 64 [.int .i64 0] [(0,1,(qi 1116352408)),(1,1,(qi 1899447441)),(2,1,(qi 3049323471)),(3,1,(qi 3921009573)),(4,1,(qi 961987163)),(5,1,(qi 1508970993)),(6,1,(qi 2453635748)),(7,1,(qi 2870763221)),(8,1,(qi 3624381080)),(9,1,(qi 310598401)),(10,1,(qi 607225278)),(11,1,(qi 1426881987)),(12,1,(qi 1925078388)),(13,1,(qi 2162078206)),(14,1,(qi 2614888103)),(15,1,(qi 3248222580)),(16,1,(qi 3835390401)),(17,1,(qi 4022224774)),(18,1,(qi 264347078)),(19,1,(qi 604807628)),(20,1,(qi 770255983)),(21,1,(qi 1249150122)),(22,1,(qi 1555081692)),(23,1,(qi 1996064986)),(24,1,(qi 2554220882)),(25,1,(qi 2821834349)),(26,1,(qi 2952996808)),(27,1,(qi 3210313671)),(28,1,(qi 3336571891)),(29,1,(qi 3584528711)),(30,1,(qi 113926993)),(31,1,(qi 338241895)),(32,1,(qi 666307205)),(33,1,(qi 773529912)),(34,1,(qi 1294757372)),(35,1,(qi 1396182291)),(36,1,(qi 1695183700)),(37,1,(qi 1986661051)),(38,1,(qi 2177026350)),(39,1,(qi 2456956037)),(40,1,(qi 2730485921)),(41,1,(qi 2820302411)),(42,1,(qi 3259730800)),(43,1,(qi 3345764771)),(44,1,(qi 3516065817)),(45,1,(qi 3600352804)),(46,1,(qi 4094571909)),(47,1,(qi 275423344)),(48,1,(qi 430227734)),(49,1,(qi 506948616)),(50,1,(qi 659060556)),(51,1,(qi 883997877)),(52,1,(qi 958139571)),(53,1,(qi 1322822218)),(54,1,(qi 1537002063)),(55,1,(qi 1747873779)),(56,1,(qi 1955562222)),(57,1,(qi 2024104815)),(58,1,(qi 2227730452)),(59,1,(qi 2361852424)),(60,1,(qi 2428436474)),(61,1,(qi 2756734187)),(62,1,(qi 3204031479)),(63,1,(qi 3329325298))]),qm 0 1]) .ret))⟩
theorem Bx:cd rW=some qS:=by kernel_rfl
theorem It:VC cd rW (aH []) (fun rs _=>rs= [(false,[.o true (some (3,1)) (ints kk)])]):=by
 refine aa Bx rfl ?_
 simp(disch:=omega) [qS,ints,kk,VY]
abbrev wL:Nat:=353
def wF:AF:=⟨0,2,[.tmp 0],(.seq (.ops [.i (.mov 0 (.c (.val false [.nils])))]) (.seq (.ops [.i (.bsl 1 3 1 64 [.int .i64 0] [(0,1,(qi 1116352408)),(1,1,(qi 1899447441)),(2,1,(qi 3049323471)),(3,1,(qi 3921009573)),(4,1,(qi 961987163)),(5,1,(qi 1508970993)),(6,1,(qi 2453635748)),(7,1,(qi 2870763221)),(8,1,(qi 3624381080)),(9,1,(qi 310598401)),(10,1,(qi 607225278)),(11,1,(qi 1426881987)),(12,1,(qi 1925078388)),(13,1,(qi 2162078206)),(14,1,(qi 2614888103)),(15,1,(qi 3248222580)),(16,1,(qi 3835390401)),(17,1,(qi 4022224774)),(18,1,(qi 264347078)),(19,1,(qi 604807628)),(20,1,(qi 770255983)),(21,1,(qi 1249150122)),(22,1,(qi 1555081692)),(23,1,(qi 1996064986)),(24,1,(qi 2554220882)),(25,1,(qi 2821834349)),(26,1,(qi 2952996808)),(27,1,(qi 3210313671)),(28,1,(qi 3336571891)),(29,1,(qi 3584528711)),(30,1,(qi 113926993)),(31,1,(qi 338241895)),(32,1,(qi 666307205)),(33,1,(qi 773529912)),(34,1,(qi 1294757372)),(35,1,(qi 1396182291)),(36,1,(qi 1695183700)),(37,1,(qi 1986661051)),(38,1,(qi 2177026350)),(39,1,(qi 2456956037)),(40,1,(qi 2730485921)),(41,1,(qi 2820302411)),(42,1,(qi 3259730800)),(43,1,(qi 3345764771)),(44,1,(qi 3516065817)),(45,1,(qi 3600352804)),(46,1,(qi 4094571909)),(47,1,(qi 275423344)),(48,1,(qi 430227734)),(49,1,(qi 506948616)),(50,1,(qi 659060556)),(51,1,(qi 883997877)),(52,1,(qi 958139571)),(53,1,(qi 1322822218)),(54,1,(qi 1537002063)),(55,1,(qi 1747873779)),(56,1,(qi 1955562222)),(57,1,(qi 2024104815)),(58,1,(qi 2227730452)),(59,1,(qi 2361852424)),(60,1,(qi 2428436474)),(61,1,(qi 2756734187)),(62,1,(qi 3204031479)),(63,1,(qi 3329325298))]),qm 0 1]) .ret))⟩
theorem Fh:cd wL=some wF:=by kernel_rfl
theorem Lt:VC cd wL (aH []) (fun rs _=>rs= [(false,[.o true (some (3,1)) (ints kk)])]):=by
 refine aa Fh rfl ?_
 simp(disch:=omega) [wF,ints,kk,VY]
def gb (b:Bytes) (i:Nat):Int:=((b.getD i 0).toNat:Int)
def bw (b:Bytes) (i:Nat):Int:=ay .or .i64 (ay .or .i64 (ay .or .i64 (IntKind.i64.wrap (gb b i * 2 ^ min 24 IntKind.i64.bits)) (IntKind.i64.wrap (gb b (i+1) * 2 ^ min 16 IntKind.i64.bits))) (IntKind.i64.wrap (gb b (i+2) * 2 ^ min 8 IntKind.i64.bits))) (gb b (i+3))
def P4 (x:Int):Int:=ay .xor .i64 (ay .xor .i64 (turn x 7) (turn x 18)) (x.fdiv (2 ^ min 3 IntKind.i64.bits))
def P0 (x:Int):Int:=ay .xor .i64 (ay .xor .i64 (turn x 17) (turn x 19)) (x.fdiv (2 ^ min 10 IntKind.i64.bits))
def Jk (a x c y:Int):Int:=ay .and .i64 (IntKind.i64.wrap (IntKind.i64.wrap (IntKind.i64.wrap (a+P4 x)+c)+P0 y)) 4294967295
def dO (b:Bytes):Nat→List Int
 |0=> []
 |n+1=>dO b n++ [if n < 16 then bw b (4 * n)else Jk (gi (dO b n) (n - 16)) (gi (dO b n) (n - 15)) (gi (dO b n) (n - 7)) (gi (dO b n) (n - 2))]
theorem dW (b:Bytes):∀n,(dO b n).length=n
 |0=>rfl
 |n+1=>by simp[dO,dW b n]
def sT (v:List Int) (k w:Int):Int:=IntKind.i64.wrap (IntKind.i64.wrap (IntKind.i64.wrap (IntKind.i64.wrap (gi v 7+ay .xor .i64 (ay .xor .i64 (turn (gi v 4) 6) (turn (gi v 4) 11)) (turn (gi v 4) 25))+ay .xor .i64 (ay .and .i64 (gi v 4) (gi v 5)) (ay .and .i64 (ay .xor .i64 4294967295 (gi v 4)) (gi v 6)))+k)+w)
def sU (v:List Int):Int:=IntKind.i64.wrap (ay .xor .i64 (ay .xor .i64 (turn (gi v 0) 2) (turn (gi v 0) 13)) (turn (gi v 0) 22)+ay .xor .i64 (ay .xor .i64 (ay .and .i64 (gi v 0) (gi v 1)) (ay .and .i64 (gi v 0) (gi v 2))) (ay .and .i64 (gi v 1) (gi v 2)))
def P5 (v:List Int) (k w:Int):List Int:= [ay .and .i64 (IntKind.i64.wrap (sT v k w+sU v)) 4294967295,gi v 0,gi v 1,gi v 2,ay .and .i64 (IntKind.i64.wrap (gi v 3+sT v k w)) 4294967295,gi v 4,gi v 5,gi v 6]
def fR (h:List Int) (b:Bytes):Nat→List Int
 |0=>h
 |n+1=>P5 (fR h b n) (gi kk n) (gi (dO b 64) n)
theorem oL {h:List Int} (hl:h.length=8) (b:Bytes):∀n,(fR h b n).length=8
 |0=>hl
 |n+1=>rfl
def qG (h:List Int) (b:Bytes):List Int:=(List.range 8).map fun i=>ay .and .i64 (IntKind.i64.wrap (gi h i+gi (fR h b 64) i)) 4294967295
theorem ot {b:Bytes} {i:Nat} (h:i < b.length):(bytes b)[i]? =some [.int .u8 (gb b i)]:=by simp[bytes,gb,h]
theorem dg (b:Bytes) (i:Nat):0≤gb b i∧gb b i < 256:=by unfold gb;have:=(b.getD i 0).toNat_lt;omega
end Go.Eng.F
namespace Go.Eng.F
theorem Ch (h:List Int) (b:Bytes) {k:Nat} (hk:k < 8):ints ((qG h b).take (k+1))=ints ((qG h b).take k)++ [[.int .i64 (ay .and .i64 (IntKind.i64.wrap (gi h k+gi (fR h b 64) k)) 4294967295)]]:=by
 rw[List.take_add_one]
 simp only[ints,List.map_append]
 congr 1
 simp[qG,hk]
abbrev kR:Nat:=347
def lT:AF:=⟨2,8,[.tmp 4],(.seq (.ops [.i (.mov 4 (.c (.val false [.nils])))]) (.seq (.seq (.ops [qm 23 0,qn 24 23, .i (.bin 25 .neq (.s 24) (qi 8)),qm 26 25, .g 26 false 28 (.mov 27 (.s 1)), .g 26 false 29 (.len 28 false (.s 27)), .g 26 false 30 (.bin 29 .neq (.s 28) (qi 64)), .i (.pick 30 (.s 26) (qb true) (.s 29))]) (.cond (.s 30) (.seq (.ops [.i (.mov 4 (.c (.val false [.nils])))]) .ret) .skip)) (.seq (.seq (.ops [qm 31 0,qn 32 31, .i (.mov 33 (qi 0))]) (.block 0 (.loop [40,39,38,37,36,35,34,6] (.seq (.ops [qd 34 .lss 33 32]) (.seq (.cond (.s 34) .skip (.exit 0)) (.seq (.block 1 (.seq (.ops [.i (.iad 35 (.s 31) (.s 33) 1), .i (.ldh 36 (.s 35) 1 false),qm 6 36]) (.seq (.ops [qm 37 6,qk 39 351 37, .i (.not 39 (.s 38))]) (.cond (.s 39) (.seq (.ops [.i (.mov 4 (.c (.val false [.nils])))]) .ret) .skip)))) (.ops [.i (.bin 40 .add (.s 33) (qi 1)),qm 33 40]))))))) (.seq (.ops [.i (.bse 41),qm 7 41]) (.seq (.seq (.ops [.i (.mov 8 (qi 0))]) (.block 2 (.loop [77,76,75,74,73,72,71,70,69,68,67,66,65,64,63,62,61,60,59,58,57,56,55,54,53,52,51,50,49,48,47,46,45,44,43,42] (.seq (.seq (.ops [qm 42 8, .i (.bin 43 .lss (.s 42) (qi 64))]) (.cond (.s 43) .skip (.exit 2))) (.seq (.block 3 (.ops [qm 46 7,qm 47 1,qm 48 8, .i (.iad 49 (.s 47) (.s 48) 1), .i (.ldh 50 (.s 49) 1 false), .i (.cvi 51 .i64 (.s 50)), .i (.bin 52 .shl (.s 51) (.c (.val false [.int .u64 24]))),qm 53 1,qm 54 8, .i (.bin 55 .add (.s 54) (qi 1)), .i (.iad 56 (.s 53) (.s 55) 1), .i (.ldh 57 (.s 56) 1 false), .i (.cvi 58 .i64 (.s 57)), .i (.bin 59 .shl (.s 58) (.c (.val false [.int .u64 16]))),qd 60 .or 52 59,qm 61 1,qm 62 8, .i (.bin 63 .add (.s 62) (qi 2)), .i (.iad 64 (.s 61) (.s 63) 1), .i (.ldh 65 (.s 64) 1 false), .i (.cvi 66 .i64 (.s 65)), .i (.bin 67 .shl (.s 66) (.c (.val false [.int .u64 8]))),qd 68 .or 60 67,qm 69 1,qm 70 8, .i (.bin 71 .add (.s 70) (qi 3)), .i (.iad 72 (.s 69) (.s 71) 1), .i (.ldh 73 (.s 72) 1 false), .i (.cvi 74 .i64 (.s 73)),qd 75 .or 68 74, .i (.lsl 76 1 1 [.int .i64 0] [(0,1,(.s 75))]), .i (.app 77 3 1 8 (.s 46) (.s 76)),qm 7 77])) (.ops [qm 44 8, .i (.bin 45 .add (.s 44) (qi 4)),qm 8 45])))))) (.seq (.seq (.ops [.i (.mov 9 (qi 16))]) (.block 4 (.loop [126,125,124,123,122,121,120,119,118,117,116,115,114,113,112,111,110,109,108,107,106,105,104,103,102,101,100,99,98,97,96,95,94,93,92,91,90,89,88,87,86,85,84,83,82,81,80,79,78,13,12,11,10] (.seq (.seq (.ops [qm 78 9, .i (.bin 79 .lss (.s 78) (qi 64))]) (.cond (.s 79) .skip (.exit 4))) (.seq (.block 5 (.seq (.ops [qm 82 7,qm 83 9, .i (.bin 84 .sub (.s 83) (qi 15)), .i (.iad 85 (.s 82) (.s 84) 1), .i (.ldh 86 (.s 85) 1 false),qm 10 86]) (.seq (.ops [qm 87 7,qm 88 9, .i (.bin 89 .sub (.s 88) (qi 2)), .i (.iad 90 (.s 87) (.s 89) 1), .i (.ldh 91 (.s 90) 1 false),qm 11 91]) (.seq (.ops [qm 92 10, .i (.call 94 352 false [(.s 92),(qi 7)]),qm 94 10, .i (.call 96 352 false [(.s 94),(qi 18)]),qd 96 .xor 93 95,qm 97 10, .i (.bin 98 .shr (.s 97) (.c (.val false [.int .u64 3]))),qd 99 .xor 96 98,qm 12 99]) (.seq (.ops [qm 100 11, .i (.call 102 352 false [(.s 100),(qi 17)]),qm 102 11, .i (.call 104 352 false [(.s 102),(qi 19)]),qd 104 .xor 101 103,qm 105 11, .i (.bin 106 .shr (.s 105) (.c (.val false [.int .u64 10]))),qd 107 .xor 104 106,qm 13 107]) (.ops [qm 108 7,qm 109 7,qm 110 9, .i (.bin 111 .sub (.s 110) (qi 16)), .i (.iad 112 (.s 109) (.s 111) 1), .i (.ldh 113 (.s 112) 1 false),qm 114 12,qd 115 .add 113 114,qm 116 7,qm 117 9, .i (.bin 118 .sub (.s 117) (qi 7)), .i (.iad 119 (.s 116) (.s 118) 1), .i (.ldh 120 (.s 119) 1 false),qd 121 .add 115 120,qm 122 13,qd 123 .add 121 122, .i (.bin 124 .and (.s 123) (qi 4294967295)), .i (.lsl 125 1 1 [.int .i64 0] [(0,1,(.s 124))]), .i (.app 126 3 1 8 (.s 108) (.s 125)),qm 7 126])))))) (.ops [qm 80 9, .i (.bin 81 .add (.s 80) (qi 1)),qm 9 81])))))) (.seq (.ops [.i (.call 128 353 false []),qm 14 127]) (.seq (.ops [.i (.bse 128),qm 129 0, .i (.app 130 3 1 8 (.s 128) (.s 129)),qm 15 130]) (.seq (.seq (.ops [.i (.mov 16 (qi 0))]) (.block 6 (.loop [232,231,230,229,228,227,226,225,224,223,222,221,220,219,218,217,216,215,214,213,212,211,210,209,208,207,206,205,204,203,202,201,200,199,198,197,196,195,194,193,192,191,190,189,188,187,186,185,184,183,182,181,180,179,178,177,176,175,174,173,172,171,170,169,168,167,166,165,164,163,162,161,160,159,158,157,156,155,154,153,152,151,150,149,148,147,146,145,144,143,142,141,140,139,138,137,136,135,134,133,132,131,20,19,18,17] (.seq (.seq (.ops [qm 131 16, .i (.bin 132 .lss (.s 131) (qi 64))]) (.cond (.s 132) .skip (.exit 6))) (.seq (.block 7 (.seq (.ops [qm 135 15, .i (.iad 136 (.s 135) (qi 4) 1), .i (.ldh 137 (.s 136) 1 false),qm 17 137]) (.seq (.ops [qm 138 15, .i (.iad 139 (.s 138) (qi 0) 1), .i (.ldh 140 (.s 139) 1 false),qm 18 140]) (.seq (.ops [qm 141 15, .i (.iad 142 (.s 141) (qi 7) 1), .i (.ldh 143 (.s 142) 1 false),qm 144 17, .i (.call 146 352 true [(.s 144),(qi 6)]),qm 146 17, .i (.call 148 352 true [(.s 146),(qi 11)]),qd 148 .xor 145 147,qm 149 17, .i (.call 151 352 true [(.s 149),(qi 25)]),qd 151 .xor 148 150,qd 152 .add 143 151,qm 153 17,qm 154 15, .i (.iad 155 (.s 154) (qi 5) 1), .i (.ldh 156 (.s 155) 1 false),qd 157 .and 153 156,qm 158 17, .i (.bin 159 .xor (qi 4294967295) (.s 158)),qm 160 15, .i (.iad 161 (.s 160) (qi 6) 1), .i (.ldh 162 (.s 161) 1 false),qd 163 .and 159 162,qd 164 .xor 157 163,qd 165 .add 152 164,qm 166 14,qm 167 16, .i (.iad 168 (.s 166) (.s 167) 1), .i (.ldh 169 (.s 168) 1 false),qd 170 .add 165 169,qm 171 7,qm 172 16, .i (.iad 173 (.s 171) (.s 172) 1), .i (.ldh 174 (.s 173) 1 false),qd 175 .add 170 174,qm 19 175]) (.seq (.ops [qm 176 18, .i (.call 178 352 true [(.s 176),(qi 2)]),qm 178 18, .i (.call 180 352 true [(.s 178),(qi 13)]),qd 180 .xor 177 179,qm 181 18, .i (.call 183 352 true [(.s 181),(qi 22)]),qd 183 .xor 180 182,qm 184 18,qm 185 15, .i (.iad 186 (.s 185) (qi 1) 1), .i (.ldh 187 (.s 186) 1 false),qd 188 .and 184 187,qm 189 18,qm 190 15, .i (.iad 191 (.s 190) (qi 2) 1), .i (.ldh 192 (.s 191) 1 false),qd 193 .and 189 192,qd 194 .xor 188 193,qm 195 15, .i (.iad 196 (.s 195) (qi 1) 1), .i (.ldh 197 (.s 196) 1 false),qm 198 15, .i (.iad 199 (.s 198) (qi 2) 1), .i (.ldh 200 (.s 199) 1 false),qd 201 .and 197 200,qd 202 .xor 194 201,qd 203 .add 183 202,qm 20 203]) (.ops [qm 204 19,qm 205 20,qd 206 .add 204 205, .i (.bin 207 .and (.s 206) (qi 4294967295)),qm 208 15, .i (.iad 209 (.s 208) (qi 0) 1), .i (.ldh 210 (.s 209) 1 false),qm 211 15, .i (.iad 212 (.s 211) (qi 1) 1), .i (.ldh 213 (.s 212) 1 false),qm 214 15, .i (.iad 215 (.s 214) (qi 2) 1), .i (.ldh 216 (.s 215) 1 false),qm 217 15, .i (.iad 218 (.s 217) (qi 3) 1), .i (.ldh 219 (.s 218) 1 false),qm 220 19,qd 221 .add 219 220, .i (.bin 222 .and (.s 221) (qi 4294967295)),qm 223 15, .i (.iad 224 (.s 223) (qi 4) 1), .i (.ldh 225 (.s 224) 1 false),qm 226 15, .i (.iad 227 (.s 226) (qi 5) 1), .i (.ldh 228 (.s 227) 1 false),qm 229 15, .i (.iad 230 (.s 229) (qi 6) 1), .i (.ldh 231 (.s 230) 1 false), .i (.bsl 232 3 1 8 [.int .i64 0] [(0,1,(.s 207)),(1,1,(.s 210)),(2,1,(.s 213)),(3,1,(.s 216)),(4,1,(.s 222)),(5,1,(.s 225)),(6,1,(.s 228)),(7,1,(.s 231))]),qm 15 232])))))) (.ops [qm 133 16, .i (.bin 134 .add (.s 133) (qi 1)),qm 16 134])))))) (.seq (.ops [.i (.bse 233),qm 21 233]) (.seq (.seq (.ops [qm 234 0,qn 235 234, .i (.mov 236 (qi 0))]) (.block 8 (.loop [252,251,250,249,248,247,246,245,244,243,242,241,240,239,238,237,22] (.seq (.ops [qd 237 .lss 236 235]) (.seq (.cond (.s 237) .skip (.exit 8)) (.seq (.block 9 (.seq (.ops [qm 238 236,qm 22 238]) (.ops [qm 239 21,qm 240 0,qm 241 22, .i (.iad 242 (.s 240) (.s 241) 1), .i (.ldh 243 (.s 242) 1 false),qm 244 15,qm 245 22, .i (.iad 246 (.s 244) (.s 245) 1), .i (.ldh 247 (.s 246) 1 false),qd 248 .add 243 247, .i (.bin 249 .and (.s 248) (qi 4294967295)), .i (.lsl 250 1 1 [.int .i64 0] [(0,1,(.s 249))]), .i (.app 251 3 1 8 (.s 239) (.s 250)),qm 21 251]))) (.ops [.i (.bin 252 .add (.s 236) (qi 1)),qm 236 252]))))))) (.seq (.ops [qm 253 21,qm 4 253]) .ret))))))))))))⟩
theorem xr:cd kR=some lT:=by kernel_rfl
theorem vd (h:List Int) (b:Bytes) (hl:h.length=8) (hw:∀x∈h,word x=true) (hb:b.length=64):VC cd kR (aH [(false,[.sl (ints h)]),(false,[.sl (bytes b)])]) (fun rs _=>rs= [(false,[.o true (some (3,1)) (ints (qG h b))])]):=by
 refine aa xr rfl ?_
 simp(disch:=omega) [lT,bJ,ae,hl,hb,VY]
 refine bd (σ:=Nat) (f1:=_) (es0:=_) (by simp(disch:=omega) [VY];rfl) (by simp(disch:=omega) [VY];rfl) (fun i=> [(33, .val false [.int .i64 i])]) (fun _=> []) (fun i g=>g+i=8) 0 8 (by simp(disch:=omega) [VY]) (by simp(disch:=omega) [VY]) (by omega) ?_
 rintro i n g hg
 simp(disch:=omega) [VY]
 refine ab (fun h1=> ?_) (fun h1=> ?_)
 ·have hx:i < h.length:=by omega
  simp(disch:=omega) [Af hx,VY]
  refine ah (Ge _) rfl rfl ?_
  have hq:word (gi h i)=true:=hw _ (by simp[gi,hx])
  simp(disch:=omega) [hq,VY]
  exact⟨i+1,g - 1,by omega,by omega,by omega⟩
 have hi:i=8:=by omega
 subst hi
 simp(disch:=omega) [VY]
 refine bd (σ:=Nat×Nat) (f1:=_) (es0:=_) (by simp(disch:=omega) [VY];rfl) (by simp(disch:=omega) [VY];rfl) (fun p=> [(8, .val false [.int .i64 (4 * (p.1:Int))]),(7, .val false [.ow 41 p.2])]) (fun p=> [(41, .sl p.2 true true (some (3,1)) (ints (dO b p.1)))])
  (fun p g=>g+p.1=16) (0,_) 16 (by simp(disch:=omega) [VY];rfl) (by simp(disch:=omega) [ints,dO,VY]) (by omega) ?_
 rintro⟨k,v⟩ n g hg
 simp only at hg
 simp(disch:=omega) [VY]
 refine ab (fun h2=> ?_) (fun h2=> ?_)
 ·have hk:k < 16:=by omega
  have q1:((4:Int) * (k:Int)).toNat=4 * k:=by omega
  have q2:((4:Int) * (k:Int)+1).toNat=4 * k+1:=by omega
  have q3:((4:Int) * (k:Int)+2).toNat=4 * k+2:=by omega
  have q4:((4:Int) * (k:Int)+3).toNat=4 * k+3:=by omega
  have p1:(0:Int)≤(4:Int) * (k:Int)∧(0:Int)≤(4:Int) * (k:Int)+1∧(0:Int)≤(4:Int) * (k:Int)+2∧(0:Int)≤(4:Int) * (k:Int)+3:=by omega
  obtain⟨p1,p2,p3,p4⟩:=p1
  have r1:=dg b (4 * k)
  have r2:=dg b (4 * k+1)
  have r3:=dg b (4 * k+2)
  have r4:=dg b (4 * k+3)
  have e1:(ints (dO b k)).length=k:=by rw[bJ,dW]
  simp(disch:=omega) [ae,hb,q1,q2,q3,q4,p1,p2,p3,p4,e1,gJ,jm,ot (show 4 * k < b.length by omega),ot (show 4 * k+1 < b.length by omega),ot (show 4 * k+2 < b.length by omega),ot (show 4 * k+3 < b.length by omega),VY]
  exact⟨k+1,_,g - 1,by omega,by omega,⟨rfl,by omega⟩,rfl,by rw[dO,if_pos hk];simp only[ints,List.map_append,List.map_cons,List.map_nil,bw]⟩
 have hk:k=16:=by omega
 subst hk
 simp(disch:=omega) [VY]
 refine bd (σ:=Nat×Nat) (f1:=_) (es0:=_) (by simp(disch:=omega) [VY];rfl) (by simp(disch:=omega) [VY];rfl) (fun p=> [(9, .val false [.int .i64 p.1]),(7, .val false [.ow 41 p.2])]) (fun p=> [(41, .sl p.2 true true (some (3,1)) (ints (dO b p.1)))])
  (fun p g=>g+p.1=64∧16≤p.1) (16,_) 48 (by simp(disch:=omega) [VY];rfl) (by simp(disch:=omega) [VY]) (by omega) ?_
 rintro⟨k,v⟩ n g hg
 simp only at hg
 simp(disch:=omega) [VY]
 refine ab (fun h3=> ?_) (fun h3=> ?_)
 ·have hk:k < 64:=by omega
  obtain⟨p1,p2,p3⟩:(15:Int)≤(k:Int)∧((k:Int) - 15).toNat=k - 15∧(k:Int) - 15 < k:=by omega
  obtain⟨p4,p5,p6⟩:(2:Int)≤(k:Int)∧((k:Int) - 2).toNat=k - 2∧(k:Int) - 2 < k:=by omega
  obtain⟨p7,p8,p9⟩:(16:Int)≤(k:Int)∧((k:Int) - 16).toNat=k - 16∧(k:Int) - 16 < k:=by omega
  obtain⟨q1,q2,q3⟩:(7:Int)≤(k:Int)∧((k:Int) - 7).toNat=k - 7∧(k:Int) - 7 < k:=by omega
  have e1:(ints (dO b k)).length=k:=by rw[bJ,dW]
  have hwl:=dW b k
  simp(disch:=omega) [e1,p1,p2,p3,p4,p5,p6,ed,VY]
  refine ah (cS _ 7 (by omega)) rfl rfl ?_
  simp(disch:=omega) [VY]
  refine ah (cS _ 18 (by omega)) rfl rfl ?_
  simp(disch:=omega) [VY]
  refine ah (cS _ 17 (by omega)) rfl rfl ?_
  simp(disch:=omega) [VY]
  refine ah (cS _ 19 (by omega)) rfl rfl ?_
  simp(disch:=omega) [e1,p7,p8,p9,q1,q2,q3,ed,gJ,jm,VY]
  exact⟨k+1,_,g - 1,by omega,by omega,⟨rfl,by omega⟩,rfl,by rw[dO,if_neg (by omega)];simp only[ints,List.map_append,List.map_cons,List.map_nil,Jk,P4,P0]⟩
 have hk:k=64:=by omega
 subst hk
 simp(disch:=omega) [VY]
 refine ah (Lt) rfl rfl ?_
 simp(disch:=omega) [bJ,hl,gJ,jm,VY]
 refine ph (σ:=Nat×Nat) (f0:=_) (by simp(disch:=omega) [VY];rfl) (cN.PK (s:=15) (k:=128) (k':=232) (by simp(disch:=omega) [VY]) rfl (by omega)) (f1:=_) (es0:=_) (by simp(disch:=omega) [VY];rfl) (by simp(disch:=omega) [uV,ib,VY];rfl) (fun p=> [(16, .val false [.int .i64 p.1]),(15, .val false [.ow 232 p.2])]) (fun p=> [(232, .sl p.2 true true (some (3,1)) (ints (fR h b p.1)))])
  (fun p g=>g+p.1=64) (0,_) 64 (by simp(disch:=omega) [VY];rfl) (by simp(disch:=omega) [fR,uV,ib,VY]) (by omega) ?_
 rintro⟨k,v⟩ n g hg
 simp only at hg
 simp(disch:=omega) [VY]
 refine ab (fun h4=> ?_) (fun h4=> ?_)
 ·have hk:k < 64:=by omega
  have hv:=oL hl b k
  have e1:(ints (fR h b k)).length=8:=by rw[bJ,hv]
  have e2:(ints kk).length=64:=rfl
  have e3:(ints (dO b 64)).length=64:=by rw[bJ,dW]
  simp(disch:=omega) [e1,e2,e3,ed,VY]
  refine ah (cS _ 6 (by omega)) rfl rfl ?_
  simp(disch:=omega) [VY]
  refine ah (cS _ 11 (by omega)) rfl rfl ?_
  simp(disch:=omega) [VY]
  refine ah (cS _ 25 (by omega)) rfl rfl ?_
  simp(disch:=omega) [e1,e2,e3,ed,VY]
  refine ah (cS _ 2 (by omega)) rfl rfl ?_
  simp(disch:=omega) [VY]
  refine ah (cS _ 13 (by omega)) rfl rfl ?_
  simp(disch:=omega) [VY]
  refine ah (cS _ 22 (by omega)) rfl rfl ?_
  simp(disch:=omega) [e1,e2,e3,ed,VY]
  exact⟨k+1,_,g - 1,by omega,by omega,⟨rfl,by omega⟩,rfl,rfl⟩
 have hk:k=64:=by omega
 subst hk
 simp(disch:=omega) [bJ,hl,VY]
 refine bd (σ:=Nat×Nat) (f1:=_) (es0:=_) (by simp(disch:=omega) [VY];rfl) (by simp(disch:=omega) [VY];rfl) (fun p=> [(236, .val false [.int .i64 p.1]),(21, .val false [.ow 233 p.2])]) (fun p=> [(233, .sl p.2 true true (some (3,1)) (ints ((qG h b).take p.1)))])
  (fun p g=>g+p.1=8) (0,_) 8 (by simp(disch:=omega) [VY];rfl) (by simp(disch:=omega) [ints,VY]) (by omega) ?_
 rintro⟨k,w⟩ n g hg
 simp only at hg
 simp(disch:=omega) [VY]
 refine ab (fun h5=> ?_) (fun h5=> ?_)
 ·have hk:k < 8:=by omega
  have hv:=oL hl b 64
  have e1:(ints (fR h b 64)).length=8:=by rw[bJ,hv]
  have e2:(ints h).length=8:=by rw[bJ,hl]
  have e3:(ints ((qG h b).take k)).length=k:=by rw[bJ];simp[qG];omega
  simp(disch:=omega) [e1,e2,e3,ed,gJ,jm,VY]
  exact⟨k+1,_,g - 1,by omega,by omega,⟨rfl,by omega⟩,rfl,Ch h b hk⟩
 ·have hk:k=8:=by omega
  subst hk
  simp(disch:=omega) [VY]
  rw[List.take_of_length_le (by simp[qG])]
end Go.Eng.F
namespace Go.Eng.F
theorem sW (n:Int):BitVec.ofInt 64 (IntKind.i64.wrap n)=BitVec.ofInt 64 n:=by
 apply BitVec.eq_of_toNat_eq
 rw[IntKind.wrap_i64]
 simp only[BitVec.toNat_ofInt]
 congr 1
 omega
theorem vT (v:BitVec 64):BitVec.ofInt 64 (v.toNat:Int)=v:=by
 apply BitVec.eq_of_toNat_eq
 simp
theorem JW (x y:Int):BitVec.ofInt 64 (ay .and .i64 x y)=BitVec.ofInt 64 x &&& BitVec.ofInt 64 y:=by
 show BitVec.ofInt 64 (IntKind.i64.wrap ((BitVec.ofInt 64 x &&& BitVec.ofInt 64 y).toNat:Int))=_
 rw[sW,vT]
theorem OZ (x y:Int):BitVec.ofInt 64 (ay .or .i64 x y)=BitVec.ofInt 64 x|||BitVec.ofInt 64 y:=by
 show BitVec.ofInt 64 (IntKind.i64.wrap ((BitVec.ofInt 64 x|||BitVec.ofInt 64 y).toNat:Int))=_
 rw[sW,vT]
theorem Jb (x y:Int):BitVec.ofInt 64 (ay .xor .i64 x y)=BitVec.ofInt 64 x ^^^ BitVec.ofInt 64 y:=by
 show BitVec.ofInt 64 (IntKind.i64.wrap ((BitVec.ofInt 64 x ^^^ BitVec.ofInt 64 y).toNat:Int))=_
 rw[sW,vT]
theorem tO {x:Int}:word x=true↔0≤x∧x≤4294967295:=by simp[word,cw]
theorem pr {x:Int} (h:word x=true):(BitVec.ofInt 64 x).toNat=x.toNat∧x.toNat < 4294967296:=by
 have h:=tO.1 h
 rw[BitVec.toNat_ofInt]
 omega
theorem Io {x:Int} (h:word x=true):BitVec.ofInt 64 x &&& BitVec.ofInt 64 4294967295=BitVec.ofInt 64 x:=by
 obtain⟨h1,h2⟩:=pr h
 apply BitVec.eq_of_toNat_eq
 rw[BitVec.toNat_and,h1]
 have:(BitVec.ofInt 64 4294967295).toNat=2 ^ 32 - 1:=rfl
 rw[this,Nat.and_two_pow_sub_one_eq_mod]
 omega
theorem wrap_small {n:Nat} (h:n < 4294967296):word (IntKind.i64.wrap (n:Int))=true:=by
 rw[tO,sO (by omega) (by omega)]
 omega
theorem tF (x:Int):word (ay .and .i64 x 4294967295)=true:=by
 show word (IntKind.i64.wrap ((BitVec.ofInt 64 x &&& BitVec.ofInt 64 4294967295).toNat:Int))=true
 refine wrap_small ?_
 rw[BitVec.toNat_and]
 have:(BitVec.ofInt 64 4294967295).toNat=2 ^ 32 - 1:=rfl
 rw[this,Nat.and_two_pow_sub_one_eq_mod]
 omega
theorem C8 {x y:Int} (hx:word x=true) (hy:word y=true):word (ay .or .i64 x y)=true:=by
 show word (IntKind.i64.wrap ((BitVec.ofInt 64 x|||BitVec.ofInt 64 y).toNat:Int))=true
 refine wrap_small ?_
 rw[BitVec.toNat_or,(pr hx).1,(pr hy).1]
 exact Nat.or_lt_two_pow (n:=32) (pr hx).2 (pr hy).2
theorem OO {e p q:Int} (he:word e=true):ay .or .i64 (ay .and .i64 e p) (ay .and .i64 (ay .xor .i64 e 4294967295) q)=ay .xor .i64 (ay .and .i64 e p) (ay .and .i64 (ay .xor .i64 4294967295 e) q):=by
 show IntKind.i64.wrap ((BitVec.ofInt 64 _|||BitVec.ofInt 64 _).toNat:Int)=IntKind.i64.wrap ((BitVec.ofInt 64 _ ^^^ BitVec.ofInt 64 _).toNat:Int)
 congr 2
 apply congrArg BitVec.toNat
 simp only[JW,Jb]
 have hm:=Io he
 generalize BitVec.ofInt 64 e=a at *
 generalize BitVec.ofInt 64 p=b
 generalize BitVec.ofInt 64 q=c
 generalize BitVec.ofInt 64 4294967295=m at *
 apply BitVec.eq_of_getLsbD_eq
 intro i hi
 have h1:=congrArg (fun v=>v.getLsbD i) hm
 simp only[BitVec.getLsbD_and]at h1
 simp only[BitVec.getLsbD_or,BitVec.getLsbD_xor,BitVec.getLsbD_and]
 revert h1
 cases a.getLsbD i <;>cases b.getLsbD i <;>cases c.getLsbD i <;>cases m.getLsbD i <;>simp
theorem Om (a p q:Int):ay .or .i64 (ay .or .i64 (ay .and .i64 a p) (ay .and .i64 a q)) (ay .and .i64 p q)=ay .xor .i64 (ay .xor .i64 (ay .and .i64 a p) (ay .and .i64 a q)) (ay .and .i64 p q):=by
 show IntKind.i64.wrap ((BitVec.ofInt 64 _|||BitVec.ofInt 64 _).toNat:Int)=IntKind.i64.wrap ((BitVec.ofInt 64 _ ^^^ BitVec.ofInt 64 _).toNat:Int)
 congr 2
 apply congrArg BitVec.toNat
 simp only[JW,Jb,OZ]
 generalize BitVec.ofInt 64 a=a
 generalize BitVec.ofInt 64 p=b
 generalize BitVec.ofInt 64 q=c
 apply BitVec.eq_of_getLsbD_eq
 intro i hi
 simp only[BitVec.getLsbD_or,BitVec.getLsbD_xor,BitVec.getLsbD_and]
 cases a.getLsbD i <;>cases b.getLsbD i <;>cases c.getLsbD i <;>rfl
theorem LN (b:Bytes) (i:Nat):word (bw b i)=true:=by
 have h1:=dg b i
 have h2:=dg b (i+1)
 have h3:=dg b (i+2)
 have h4:=dg b (i+3)
 have e1:min 24 IntKind.i64.bits=24:=rfl
 have e2:min 16 IntKind.i64.bits=16:=rfl
 have e3:min 8 IntKind.i64.bits=8:=rfl
 unfold bw
 rw[e1,e2,e3]
 refine C8 (C8 (C8 ?_ ?_) ?_) ?_ <;>rw[tO]
 ·rw[sO (by omega) (by omega)];omega
 ·rw[sO (by omega) (by omega)];omega
 ·rw[sO (by omega) (by omega)];omega
 ·omega
theorem vQ (b:Bytes):∀n,∀x∈dO b n,word x=true
 |0,x,hx=>by cases hx
 |n+1,x,hx=>by
  simp only[dO]at hx
  rcases List.mem_append.1 hx with hx|hx
  ·exact vQ b n x hx
  ·simp only[List.mem_singleton]at hx
   subst hx
   split
   ·exact LN _ _
   ·exact tF _
theorem sA {l:List Int} {i:Nat} (h:i < l.length):gi l i∈l:=by simp[gi,h]
theorem vS {h:List Int} (hl:h.length=8) (hw:∀x∈h,word x=true) (b:Bytes):∀n,∀x∈fR h b n,word x=true
 |0,x,hx=>hw x hx
 |n+1,x,hx=>by
  have ih:=vS hl hw b n
  have hv:=oL hl b n
  have hm:∀i,i < 8→word (gi (fR h b n) i)=true:=fun i hi=>ih _ (sA (by omega))
  simp only[fR,P5,List.mem_cons,List.not_mem_nil,or_false]at hx
  rcases hx with rfl|rfl|rfl|rfl|rfl|rfl|rfl|rfl
  ·exact tF _
  ·exact hm 0 (by omega)
  ·exact hm 1 (by omega)
  ·exact hm 2 (by omega)
  ·exact tF _
  ·exact hm 4 (by omega)
  ·exact hm 5 (by omega)
  ·exact hm 6 (by omega)
def arr (b:Bytes) (k:Nat):List Int:=dO b k++List.replicate (64 - k) 0
theorem C9 (b:Bytes) {k:Nat} (h:k≤64):(qK (arr b k)).length=64:=by simp[qK,arr,dW];omega
theorem uq (b:Bytes) {k i:Nat} (hk:k≤64) (h:i < k):((qK (arr b k)).drop i).take 1= [.int .i64 (gi (dO b k) i)]:=by
 rw[Df (by simp[arr,dW];omega)]
 simp[gi,arr,List.getD_eq_getElem?_getD,List.getElem?_append_left (show i < (dO b k).length by rw[dW];exact h)]
theorem H0 (b:Bytes) {k:Nat} (h:k < 64) (x:Int):(qK (arr b k)).set k (.int .i64 x)=qK (dO b k++ [x]++List.replicate (64 - (k+1)) 0):=by
 have e:64 - k=(64 - (k+1))+1:=by omega
 have h2:=dW b k
 simp only[qK,arr,e,List.replicate_succ,List.map_append,List.map_cons]
 rw[List.set_append_right _ _ (by simp[h2])]
 simp[h2]
end Go.Eng.F
namespace Go.Eng.F
theorem IH (b:Bytes) {k:Nat} (hk:k < 16):qK (dO b k++bw b (4 * k)::List.replicate (63 - k) 0)=qK (arr b (k+1)):=by
 unfold arr
 rw[dO,if_pos hk,show 64 - (k+1)=63 - k by omega]
 simp
theorem H9 (b:Bytes) {k:Nat} (hk:16≤k):qK (dO b k++Jk (gi (dO b k) (k - 16)) (gi (dO b k) (k - 15)) (gi (dO b k) (k - 7)) (gi (dO b k) (k - 2))::List.replicate (63 - k) 0)=qK (arr b (k+1)):=by
 unfold arr
 rw[dO,if_neg (by omega),show 64 - (k+1)=63 - k by omega]
 simp
theorem JI (l:List Int):(ints l).flatten=qK l:=by
 induction l with
 |nil=>rfl
 |cons n l ih=>simp only[ints,qK,List.map_cons,List.flatten_cons]at ih⊢;rw[ih];rfl
theorem Ce {α:Type} {cs vs:List α} (h:vs.length=cs.length):bc cs 0 vs=vs:=by rw[eb _ _ _ (by omega)];simp[h]
abbrev kU:Nat:=175
def lb:AF:=⟨2,8,[.tmp 4],(.seq (.ops [.i (.mov 4 (.c (.val false [.nils])))]) (.seq (.seq (.ops [qm 25 0,qn 26 25, .i (.bin 27 .neq (.s 26) (qi 8)),qm 28 27, .g 28 false 30 (.mov 29 (.s 1)), .g 28 false 31 (.len 30 false (.s 29)), .g 28 false 32 (.bin 31 .neq (.s 30) (qi 64)), .i (.pick 32 (.s 28) (qb true) (.s 31))]) (.cond (.s 32) (.seq (.ops [.i (.mov 4 (.c (.val false [.nils])))]) .ret) .skip)) (.seq (.seq (.ops [qm 33 0,qn 34 33, .i (.mov 35 (qi 0))]) (.block 0 (.loop [42,41,40,39,38,37,36,6] (.seq (.ops [qd 36 .lss 35 34]) (.seq (.cond (.s 36) .skip (.exit 0)) (.seq (.block 1 (.seq (.ops [.i (.iad 37 (.s 33) (.s 35) 1), .i (.ldh 38 (.s 37) 1 false),qm 6 38]) (.seq (.ops [qm 39 6,qk 41 249 39, .i (.not 41 (.s 40))]) (.cond (.s 41) (.seq (.ops [.i (.mov 4 (.c (.val false [.nils])))]) .ret) .skip)))) (.ops [.i (.bin 42 .add (.s 35) (qi 1)),qm 35 42]))))))) (.seq (.ops [.i (.bld 43 [.int .i64 0, .int .i64 0, .int .i64 0, .int .i64 0, .int .i64 0, .int .i64 0, .int .i64 0, .int .i64 0, .int .i64 0, .int .i64 0, .int .i64 0, .int .i64 0, .int .i64 0, .int .i64 0, .int .i64 0, .int .i64 0, .int .i64 0, .int .i64 0, .int .i64 0, .int .i64 0, .int .i64 0, .int .i64 0, .int .i64 0, .int .i64 0, .int .i64 0, .int .i64 0, .int .i64 0, .int .i64 0, .int .i64 0, .int .i64 0, .int .i64 0, .int .i64 0, .int .i64 0, .int .i64 0, .int .i64 0, .int .i64 0, .int .i64 0, .int .i64 0, .int .i64 0, .int .i64 0, .int .i64 0, .int .i64 0, .int .i64 0, .int .i64 0, .int .i64 0, .int .i64 0, .int .i64 0, .int .i64 0, .int .i64 0, .int .i64 0, .int .i64 0, .int .i64 0, .int .i64 0, .int .i64 0, .int .i64 0, .int .i64 0, .int .i64 0, .int .i64 0, .int .i64 0, .int .i64 0, .int .i64 0, .int .i64 0, .int .i64 0, .int .i64 0] []), .i (.call 45 250 false []), .i (.bld 45 [.int .i64 0, .int .i64 0, .int .i64 0, .int .i64 0, .int .i64 0, .int .i64 0, .int .i64 0, .int .i64 0] []), .i (.lal 7 [.int .i64 0, .int .i64 0, .int .i64 0, .int .i64 0, .int .i64 0, .int .i64 0, .int .i64 0, .int .i64 0, .int .i64 0, .int .i64 0, .int .i64 0, .int .i64 0, .int .i64 0, .int .i64 0, .int .i64 0, .int .i64 0, .int .i64 0, .int .i64 0, .int .i64 0, .int .i64 0, .int .i64 0, .int .i64 0, .int .i64 0, .int .i64 0, .int .i64 0, .int .i64 0, .int .i64 0, .int .i64 0, .int .i64 0, .int .i64 0, .int .i64 0, .int .i64 0, .int .i64 0, .int .i64 0, .int .i64 0, .int .i64 0, .int .i64 0, .int .i64 0, .int .i64 0, .int .i64 0, .int .i64 0, .int .i64 0, .int .i64 0, .int .i64 0, .int .i64 0, .int .i64 0, .int .i64 0, .int .i64 0, .int .i64 0, .int .i64 0, .int .i64 0, .int .i64 0, .int .i64 0, .int .i64 0, .int .i64 0, .int .i64 0, .int .i64 0, .int .i64 0, .int .i64 0, .int .i64 0, .int .i64 0, .int .i64 0, .int .i64 0, .int .i64 0]), .i (.hal 9 275 [.int .i64 0, .int .i64 0, .int .i64 0, .int .i64 0, .int .i64 0, .int .i64 0, .int .i64 0, .int .i64 0]),qs 7 7 43 64,qm 8 44, .i (.sth (.s 9) (.s 45) 8)]) (.seq (.seq (.ops [.i (.mov 46 (qi 0))]) (.block 2 (.loop [84,83,82,81,80,79,78,77,76,75,74,73,72,71,70,69,68,67,66,65,64,63,62,61,60,59,58,57,56,55,54,53,52,51,50,49,48,47,10] (.seq (.ops [.i (.bin 47 .lss (.s 46) (qi 16))]) (.seq (.cond (.s 47) .skip (.exit 2)) (.seq (.block 3 (.seq (.ops [qm 48 46,qm 10 48]) (.ops [qm 49 10,qm 50 1,qm 51 10, .i (.bin 52 .mul (qi 4) (.s 51)), .i (.iad 53 (.s 50) (.s 52) 1), .i (.ldh 54 (.s 53) 1 false), .i (.cvi 55 .i64 (.s 54)), .i (.bin 56 .shl (.s 55) (.c (.val false [.int .u64 24]))),qm 57 1,qm 58 10, .i (.bin 59 .mul (qi 4) (.s 58)), .i (.bin 60 .add (.s 59) (qi 1)), .i (.iad 61 (.s 57) (.s 60) 1), .i (.ldh 62 (.s 61) 1 false), .i (.cvi 63 .i64 (.s 62)), .i (.bin 64 .shl (.s 63) (.c (.val false [.int .u64 16]))),qd 65 .or 56 64,qm 66 1,qm 67 10, .i (.bin 68 .mul (qi 4) (.s 67)), .i (.bin 69 .add (.s 68) (qi 2)), .i (.iad 70 (.s 66) (.s 69) 1), .i (.ldh 71 (.s 70) 1 false), .i (.cvi 72 .i64 (.s 71)), .i (.bin 73 .shl (.s 72) (.c (.val false [.int .u64 8]))),qd 74 .or 65 73,qm 75 1,qm 76 10, .i (.bin 77 .mul (qi 4) (.s 76)), .i (.bin 78 .add (.s 77) (qi 3)), .i (.iad 79 (.s 75) (.s 78) 1), .i (.ldh 80 (.s 79) 1 false), .i (.cvi 81 .i64 (.s 80)),qd 82 .or 74 81, .i (.iaa 83 (.s 7) (.s 49) 1 64),qs 7 83 82 1]))) (.ops [.i (.bin 84 .add (.s 46) (qi 1)),qm 46 84]))))))) (.seq (.seq (.ops [.i (.mov 11 (qi 16))]) (.block 4 (.loop [128,127,126,125,124,123,122,121,120,119,118,117,116,115,114,113,112,111,110,109,108,107,106,105,104,103,102,101,100,99,98,97,96,95,94,93,92,91,90,89,88,87,86,85,15,14,13,12] (.seq (.seq (.ops [qm 85 11, .i (.bin 86 .lss (.s 85) (qi 64))]) (.cond (.s 86) .skip (.exit 4))) (.seq (.block 5 (.seq (.ops [qm 89 11, .i (.bin 90 .sub (.s 89) (qi 15)), .i (.iaa 91 (.s 7) (.s 90) 1 64),ql 92 7 91 1 false,qm 93 11, .i (.bin 94 .sub (.s 93) (qi 2)), .i (.iaa 95 (.s 7) (.s 94) 1 64),ql 96 7 95 1 false,qm 12 92,qm 13 96]) (.seq (.ops [qm 97 12, .i (.call 99 251 false [(.s 97),(qi 7)]),qm 99 12, .i (.call 101 251 false [(.s 99),(qi 18)]),qd 101 .xor 98 100,qm 102 12, .i (.bin 103 .shr (.s 102) (.c (.val false [.int .u64 3]))),qd 104 .xor 101 103,qm 14 104]) (.seq (.ops [qm 105 13, .i (.call 107 251 false [(.s 105),(qi 17)]),qm 107 13, .i (.call 109 251 false [(.s 107),(qi 19)]),qd 109 .xor 106 108,qm 110 13, .i (.bin 111 .shr (.s 110) (.c (.val false [.int .u64 10]))),qd 112 .xor 109 111,qm 15 112]) (.ops [qm 113 11,qm 114 11, .i (.bin 115 .sub (.s 114) (qi 16)), .i (.iaa 116 (.s 7) (.s 115) 1 64),ql 117 7 116 1 false,qm 118 14,qd 119 .add 117 118,qm 120 11, .i (.bin 121 .sub (.s 120) (qi 7)), .i (.iaa 122 (.s 7) (.s 121) 1 64),ql 123 7 122 1 false,qd 124 .add 119 123,qm 125 15,qd 126 .add 124 125, .i (.bin 127 .and (.s 126) (qi 4294967295)), .i (.iaa 128 (.s 7) (.s 113) 1 64),qs 7 128 127 1]))))) (.ops [qm 87 11, .i (.bin 88 .add (.s 87) (qi 1)),qm 11 88])))))) (.seq (.ops [.i (.sla 129 (.s 9) 8 1),qm 130 0, .i (.cpy 131 1 (.s 129) (.s 130))]) (.seq (.seq (.ops [.i (.mov 132 (qi 0))]) (.block 6 (.loop [216,215,214,213,212,211,210,209,208,207,206,205,204,203,202,201,200,199,198,197,196,195,194,193,192,191,190,189,188,187,186,185,184,183,182,181,180,179,178,177,176,175,174,173,172,171,170,169,168,167,166,165,164,163,162,161,160,159,158,157,156,155,154,153,152,151,150,149,148,147,146,145,144,143,142,141,140,139,138,137,136,135,134,133,22,21,20,19,18,17,16] (.seq (.ops [.i (.bin 133 .lss (.s 132) (qi 64))]) (.seq (.cond (.s 133) .skip (.exit 6)) (.seq (.block 7 (.seq (.ops [qm 134 132,qm 16 134]) (.seq (.ops [.i (.iaa 135 (.s 9) (qi 4) 1 8), .i (.ldh 136 (.s 135) 1 false), .i (.iaa 137 (.s 9) (qi 0) 1 8), .i (.ldh 138 (.s 137) 1 false),qm 17 136,qm 18 138]) (.seq (.ops [qm 139 17, .i (.iaa 140 (.s 9) (qi 5) 1 8), .i (.ldh 141 (.s 140) 1 false),qd 142 .and 139 141,qm 143 17, .i (.bin 144 .xor (.s 143) (qi 4294967295)), .i (.iaa 145 (.s 9) (qi 6) 1 8), .i (.ldh 146 (.s 145) 1 false),qd 147 .and 144 146,qd 148 .or 142 147,qm 19 148]) (.seq (.ops [qm 149 18, .i (.iaa 150 (.s 9) (qi 1) 1 8), .i (.ldh 151 (.s 150) 1 false),qd 152 .and 149 151,qm 153 18, .i (.iaa 154 (.s 9) (qi 2) 1 8), .i (.ldh 155 (.s 154) 1 false),qd 156 .and 153 155,qd 157 .or 152 156, .i (.iaa 158 (.s 9) (qi 1) 1 8), .i (.ldh 159 (.s 158) 1 false), .i (.iaa 160 (.s 9) (qi 2) 1 8), .i (.ldh 161 (.s 160) 1 false),qd 162 .and 159 161,qd 163 .or 157 162,qm 20 163]) (.seq (.ops [.i (.iaa 164 (.s 9) (qi 7) 1 8), .i (.ldh 165 (.s 164) 1 false),qm 166 17, .i (.call 168 251 true [(.s 166),(qi 6)]),qm 168 17, .i (.call 170 251 true [(.s 168),(qi 11)]),qd 170 .xor 167 169,qm 171 17, .i (.call 173 251 true [(.s 171),(qi 25)]),qd 173 .xor 170 172,qd 174 .add 165 173,qm 175 19,qd 176 .add 174 175,qm 177 8,qm 178 16, .i (.iad 179 (.s 177) (.s 178) 1), .i (.ldh 180 (.s 179) 1 false),qd 181 .add 176 180,qm 182 16, .i (.iaa 183 (.s 7) (.s 182) 1 64),ql 184 7 183 1 false,qd 185 .add 181 184,qm 21 185]) (.seq (.ops [qm 186 18, .i (.call 188 251 false [(.s 186),(qi 2)]),qm 188 18, .i (.call 190 251 false [(.s 188),(qi 13)]),qd 190 .xor 187 189,qm 191 18, .i (.call 193 251 false [(.s 191),(qi 22)]),qd 193 .xor 190 192,qm 194 20,qd 195 .add 193 194,qm 22 195]) (.ops [qm 196 21,qm 197 22,qd 198 .add 196 197, .i (.bin 199 .and (.s 198) (qi 4294967295)),qm 200 18, .i (.iaa 201 (.s 9) (qi 1) 1 8), .i (.ldh 202 (.s 201) 1 false), .i (.iaa 203 (.s 9) (qi 2) 1 8), .i (.ldh 204 (.s 203) 1 false), .i (.iaa 205 (.s 9) (qi 3) 1 8), .i (.ldh 206 (.s 205) 1 false),qm 207 21,qd 208 .add 206 207, .i (.bin 209 .and (.s 208) (qi 4294967295)),qm 210 17, .i (.iaa 211 (.s 9) (qi 5) 1 8), .i (.ldh 212 (.s 211) 1 false), .i (.iaa 213 (.s 9) (qi 6) 1 8), .i (.ldh 214 (.s 213) 1 false), .i (.bld 215 [.int .i64 0, .int .i64 0, .int .i64 0, .int .i64 0, .int .i64 0, .int .i64 0, .int .i64 0, .int .i64 0] [(0,1,(.s 199)),(1,1,(.s 200)),(2,1,(.s 202)),(3,1,(.s 204)),(4,1,(.s 209)),(5,1,(.s 210)),(6,1,(.s 212)),(7,1,(.s 214))]), .i (.sth (.s 9) (.s 215) 8)])))))))) (.ops [.i (.bin 216 .add (.s 132) (qi 1)),qm 132 216]))))))) (.seq (.ops [.i (.bse 217),qm 23 217]) (.seq (.seq (.ops [.i (.mov 218 (qi 0))]) (.block 8 (.loop [233,232,231,230,229,228,227,226,225,224,223,222,221,220,219,24] (.seq (.ops [.i (.bin 219 .lss (.s 218) (qi 8))]) (.seq (.cond (.s 219) .skip (.exit 8)) (.seq (.block 9 (.seq (.ops [qm 220 218,qm 24 220]) (.ops [qm 221 23,qm 222 0,qm 223 24, .i (.iad 224 (.s 222) (.s 223) 1), .i (.ldh 225 (.s 224) 1 false),qm 226 24, .i (.iaa 227 (.s 9) (.s 226) 1 8), .i (.ldh 228 (.s 227) 1 false),qd 229 .add 225 228, .i (.bin 230 .and (.s 229) (qi 4294967295)), .i (.lsl 231 1 1 [.int .i64 0] [(0,1,(.s 230))]), .i (.app 232 3 1 8 (.s 221) (.s 231)),qm 23 232]))) (.ops [.i (.bin 233 .add (.s 218) (qi 1)),qm 218 233]))))))) (.seq (.ops [qm 234 23,qm 4 234]) .ret)))))))))))⟩
theorem xP:cd kU=some lb:=by kernel_rfl
theorem u7 (h:List Int) (b:Bytes) (hl:h.length=8) (hw:∀x∈h,word x=true) (hb:b.length=64):VC cd kU (aH [(false,[.sl (ints h)]),(false,[.sl (bytes b)])]) (fun rs _=>rs= [(false,[.o true (some (3,1)) (ints (qG h b))])]):=by
 refine aa xP rfl ?_
 simp(disch:=omega) [lb,bJ,ae,hl,hb,VY]
 refine bd (σ:=Nat) (f1:=_) (es0:=_) (by simp(disch:=omega) [VY];rfl) (by simp(disch:=omega) [VY];rfl) (fun i=> [(35, .val false [.int .i64 i])]) (fun _=> []) (fun i g=>g+i=8) 0 8 (by simp(disch:=omega) [VY]) (by simp(disch:=omega) [VY]) (by omega) ?_
 rintro i n g hg
 simp(disch:=omega) [VY]
 refine ab (fun h1=> ?_) (fun h1=> ?_)
 ·have hx:i < h.length:=by omega
  simp(disch:=omega) [Af hx,VY]
  refine ah (va _) rfl rfl ?_
  have hq:word (gi h i)=true:=hw _ (sA hx)
  simp(disch:=omega) [hq,VY]
  exact⟨i+1,g - 1,by omega,by omega,by omega⟩
 have hi:i=8:=by omega
 subst hi
 simp(disch:=omega) [VY]
 refine ah (It) rfl rfl ?_
 simp(disch:=omega) [VY]
 refine bd (σ:=Nat) (f1:=_) (es0:=_) (by simp(disch:=omega) [VY];rfl) (by simp(disch:=omega) [VY];rfl) (fun k=> [(46, .val false [.int .i64 k]),(7, .box (qK (arr b k)))]) (fun _=> []) (fun k g=>g+k=16) 0 16 (by simp(disch:=omega) [qK,arr,dO,VY]) (by simp(disch:=omega) [VY]) (by omega) ?_
 rintro k n g hg
 simp(disch:=omega) [VY]
 refine ab (fun h2=> ?_) (fun h2=> ?_)
 ·have hk:k < 16:=by omega
  have q1:((4:Int) * (k:Int)).toNat=4 * k:=by omega
  have q2:((4:Int) * (k:Int)+1).toNat=4 * k+1:=by omega
  have q3:((4:Int) * (k:Int)+2).toNat=4 * k+2:=by omega
  have q4:((4:Int) * (k:Int)+3).toNat=4 * k+3:=by omega
  have p1:(0:Int)≤(4:Int) * (k:Int)∧(0:Int)≤(4:Int) * (k:Int)+1∧(0:Int)≤(4:Int) * (k:Int)+2∧(0:Int)≤(4:Int) * (k:Int)+3:=by omega
  obtain⟨p1,p2,p3,p4⟩:=p1
  have r1:=dg b (4 * k)
  have r2:=dg b (4 * k+1)
  have r3:=dg b (4 * k+2)
  have r4:=dg b (4 * k+3)
  have p5:(k:Int) < 64:=by omega
  have p6:k≤63:=by omega
  have e1:=C9 b (show k≤64 by omega)
  have e2:=fun x=>H0 b (show k < 64 by omega) x
  simp(disch:=omega) [ae,hb,q1,q2,q3,q4,p1,p2,p3,p4,p5,p6,e1,e2,ot (show 4 * k < b.length by omega),ot (show 4 * k+1 < b.length by omega),ot (show 4 * k+2 < b.length by omega),ot (show 4 * k+3 < b.length by omega),VY]
  exact⟨k+1,g - 1,by omega,by omega,⟨IH b hk,by omega⟩⟩
 have hk:k=16:=by omega
 subst hk
 simp(disch:=omega) [VY]
 refine bd (σ:=Nat) (f1:=_) (es0:=_) (by simp(disch:=omega) [VY];rfl) (by simp(disch:=omega) [VY];rfl) (fun k=> [(11, .val false [.int .i64 k]),(7, .box (qK (arr b k)))]) (fun _=> []) (fun k g=>g+k=64∧16≤k) 16 48 (by simp(disch:=omega) [VY]) (by simp(disch:=omega) [VY]) (by omega) ?_
 rintro k n g hg
 simp(disch:=omega) [VY]
 refine ab (fun h3=> ?_) (fun h3=> ?_)
 ·have hk:k < 64:=by omega
  obtain⟨p1,p2,p3⟩:(15:Int)≤(k:Int)∧((k:Int) - 15).toNat=k - 15∧(k:Int) - 15 < 64:=by omega
  obtain⟨p4,p5,p6⟩:(2:Int)≤(k:Int)∧((k:Int) - 2).toNat=k - 2∧(k:Int) - 2 < 64:=by omega
  obtain⟨p7,p8,p9⟩:(16:Int)≤(k:Int)∧((k:Int) - 16).toNat=k - 16∧(k:Int) - 16 < 64:=by omega
  obtain⟨q1,q2,q3⟩:(7:Int)≤(k:Int)∧((k:Int) - 7).toNat=k - 7∧(k:Int) - 7 < 64:=by omega
  have p10:(k:Int) < 64:=by omega
  have p11:k≤63:=by omega
  obtain⟨t1,t2,t3,t4⟩:k≤78∧k≤65∧k≤79∧k≤70:=by omega
  have e1:=C9 b (show k≤64 by omega)
  have e2:=fun x=>H0 b (show k < 64 by omega) x
  have g1:=uq b (show k≤64 by omega) (show k - 15 < k by omega)
  have g2:=uq b (show k≤64 by omega) (show k - 2 < k by omega)
  have g3:=uq b (show k≤64 by omega) (show k - 16 < k by omega)
  have g4:=uq b (show k≤64 by omega) (show k - 7 < k by omega)
  have hwl:=dW b k
  have w1:=vQ b k _ (sA (show k - 15 < (dO b k).length by omega))
  have w2:=vQ b k _ (sA (show k - 2 < (dO b k).length by omega))
  simp(disch:=omega) [e1,p1,p2,p3,p4,p5,p6,g1,g2,t1,t2,VY]
  refine ah (bZ _ 7 (by omega) w1) rfl rfl ?_
  simp(disch:=omega) [VY]
  refine ah (bZ _ 18 (by omega) w1) rfl rfl ?_
  simp(disch:=omega) [VY]
  refine ah (bZ _ 17 (by omega) w2) rfl rfl ?_
  simp(disch:=omega) [VY]
  refine ah (bZ _ 19 (by omega) w2) rfl rfl ?_
  simp(disch:=omega) [e1,e2,p7,p8,p9,q1,q2,q3,p10,p11,g3,g4,t3,t4,VY]
  exact⟨k+1,g - 1,by omega,by omega,H9 b (by omega),by omega⟩
 have hk:k=64:=by omega
 subst hk
 have c1:((ints h).take 8).flatten=qK h:=by rw[List.take_of_length_le (by rw[bJ];omega)];exact JI h
 have c2:bc [.int .i64 0, .int .i64 0, .int .i64 0, .int .i64 0, .int .i64 0, .int .i64 0, .int .i64 0, .int .i64 0] 0 (qK h)=qK h:=Ce (by rw[D8,hl];rfl)
 simp(disch:=omega) [bJ,hl,gJ,jm,c1,c2,VY]
 refine bd (σ:=Nat×Nat) (f1:=_) (es0:=_) (by simp(disch:=omega) [VY];rfl) (by simp(disch:=omega) [VY];rfl) (fun p=> [(132, .val false [.int .i64 p.1]),(9, .val false [.pt 9 p.2 0])]) (fun p=> [(9, .pt p.2 275 (qK (fR h b p.1)))]) (fun p g=>g+p.1=64) (0,_) 64 (by simp(disch:=omega) [VY];rfl) (by simp(disch:=omega) [fR,VY]) (by omega) ?_
 rintro⟨k,v⟩ n g hg
 simp only at hg
 simp(disch:=omega) [VY]
 refine ab (fun h4=> ?_) (fun h4=> ?_)
 ·have hk:k < 64:=by omega
  have hv:=oL hl b k
  have e1:(qK (fR h b k)).length=8:=by rw[D8,hv]
  have e2:(ints kk).length=64:=rfl
  have e3:=C9 b (show 64≤64 by omega)
  have p1:(k:Int) < 64:=by omega
  have p2:k≤63:=by omega
  have g1:∀i,i < 8→((qK (fR h b k)).drop i).take 1= [.int .i64 (gi (fR h b k) i)]:=fun i hi=>Df (by omega)
  have g2:=uq b (show 64≤64 by omega) hk
  have g0:(qK (fR h b k)).take 1= [.int .i64 (gi (fR h b k) 0)]:=g1 0 (by omega)
  have w1:=vS hl hw b k _ (sA (show 4 < (fR h b k).length by omega))
  have w2:=vS hl hw b k _ (sA (show 0 < (fR h b k).length by omega))
  have g01:(qK (fR h b k)).tail.take 1= [.int .i64 (gi (fR h b k) 1)]:=by have:=g1 1 (by omega);simpa using this
  simp(disch:=omega) [e1,e2,e3,g0,g01,g1,g2,ed,p1,p2,VY]
  refine ah (bZ _ 6 (by omega) w1) rfl rfl ?_
  simp(disch:=omega) [VY]
  refine ah (bZ _ 11 (by omega) w1) rfl rfl ?_
  simp(disch:=omega) [VY]
  refine ah (bZ _ 25 (by omega) w1) rfl rfl ?_
  simp(disch:=omega) [e1,e2,e3,g0,g01,g1,g2,ed,p1,p2,VY]
  refine ah (bZ _ 2 (by omega) w2) rfl rfl ?_
  simp(disch:=omega) [VY]
  refine ah (bZ _ 13 (by omega) w2) rfl rfl ?_
  simp(disch:=omega) [VY]
  refine ah (bZ _ 22 (by omega) w2) rfl rfl ?_
  have hset:∀a b' c d e f g' h',bc (qK (fR h b k)) 0 [a,b',c,d,e,f,g',h']= [a,b',c,d,e,f,g',h']:=fun _ _ _ _ _ _ _ _=>Ce (by rw[e1];rfl)
  simp(disch:=omega) [e1,e2,e3,g0,g01,g1,g2,ed,p1,p2,hset,VY]
  simp only[OO w1,Om]
  exact⟨k+1,_,g - 1,by omega,by omega,⟨rfl,by omega⟩,rfl,rfl⟩
 have hk:k=64:=by omega
 subst hk
 simp(disch:=omega) [VY]
 refine bd (σ:=Nat×Nat) (f1:=_) (es0:=_) (by simp(disch:=omega) [VY];rfl) (by simp(disch:=omega) [VY];rfl) (fun p=> [(218, .val false [.int .i64 p.1]),(23, .val false [.ow 217 p.2])]) (fun p=> [(217, .sl p.2 true true (some (3,1)) (ints ((qG h b).take p.1)))])
  (fun p g=>g+p.1=8) (0,_) 8 (by simp(disch:=omega) [VY];rfl) (by simp(disch:=omega) [ints,VY]) (by omega) ?_
 rintro⟨k,w⟩ n g hg
 simp only at hg
 simp(disch:=omega) [VY]
 refine ab (fun h5=> ?_) (fun h5=> ?_)
 ·have hk:k < 8:=by omega
  have hv:=oL hl b 64
  have e1:(qK (fR h b 64)).length=8:=by rw[D8,hv]
  have e2:(ints h).length=8:=by rw[bJ,hl]
  have e3:(ints ((qG h b).take k)).length=k:=by rw[bJ];simp[qG];omega
  have p1:(k:Int) < 8:=by omega
  have p2:k≤7:=by omega
  have g1:((qK (fR h b 64)).drop k).take 1= [.int .i64 (gi (fR h b 64) k)]:=Df (by omega)
  simp(disch:=omega) [e1,e2,e3,g1,p1,p2,ed,gJ,jm,VY]
  exact⟨k+1,_,g - 1,by omega,by omega,⟨rfl,by omega⟩,rfl,Ch h b hk⟩
 ·have hk:k=8:=by omega
  subst hk
  simp(disch:=omega) [VY]
  rw[List.take_of_length_le (by simp[qG])]
end Go.Eng.F
namespace Go.Eng.F
theorem H5 (b:Bytes):(pad b).length=b.length+1+zc b.length+8∧(pad b).length % 64=0:=by
 have h:=uR b.length
 have e:(pad b).length=b.length+1+zc b.length+8:=by simp[pad,mY];omega
 omega
def hs (b:Bytes):Nat→List Int
 |0=>init
 |n+1=>qG (hs b n) (((pad b).drop (64 * n)).take 64)
theorem wo (b:Bytes):∀n,(hs b n).length=8
 |0=>rfl
 |n+1=>by simp[hs,qG]
theorem H6 (b:Bytes):∀n,∀x∈hs b n,word x=true
 |0,x,hx=>by
  have h:∀x∈init,word x=true:=by decide
  exact h x hx
 |n+1,x,hx=>by
  simp only[hs,qG,List.mem_map]at hx
  obtain⟨i,_,rfl⟩:=hx
  exact tF _
def b8 (y:Int):UInt8:=UInt8.ofNat (IntKind.u8.wrap y).toNat
theorem zN (y:Int):((b8 y).toNat:Int)=IntKind.u8.wrap y:=by
 obtain⟨h1,h2⟩:=MI .u8 y
 have e1:IntKind.u8.min=0:=rfl
 have e2:IntKind.u8.max=255:=rfl
 unfold b8
 rw[UInt8.toNat_ofNat']
 omega
def w4 (x:Int):Bytes:= [b8 (x.fdiv (2 ^ min 24 IntKind.i64.bits)),b8 (x.fdiv (2 ^ min 16 IntKind.i64.bits)),b8 (x.fdiv (2 ^ min 8 IntKind.i64.bits)),b8 x]
theorem Hk {l:List Int} {k:Nat} (h:k < l.length):bytes ((l.take (k+1)).flatMap w4)=bytes ((l.take k).flatMap w4)++ [[.int .u8 (IntKind.u8.wrap ((gi l k).fdiv (2 ^ min 24 IntKind.i64.bits)))],[.int .u8 (IntKind.u8.wrap ((gi l k).fdiv (2 ^ min 16 IntKind.i64.bits)))],[.int .u8 (IntKind.u8.wrap ((gi l k).fdiv (2 ^ min 8 IntKind.i64.bits)))],[.int .u8 (IntKind.u8.wrap (gi l k))]]:=by
 have e:gi l k=l[k]:=by simp[gi,h]
 rw[List.take_add_one,List.getElem?_eq_getElem h,e]
 simp only[List.flatMap_append,Option.toList_some,List.flatMap_cons,List.flatMap_nil,List.append_nil,bytes,List.map_append,w4,List.map_cons,List.map_nil,zN]
theorem D6:∀(l:List Int) (k:Nat),k≤l.length→((l.take k).flatMap w4).length=4 * k
 |_,0,_=>by simp
 | [],k+1,h=>by simp at h
 |x::l,k+1,h=>by
  have:=D6 l k (by simpa using h)
  simp only[List.take_succ_cons,List.flatMap_cons,List.length_append,this]
  simp only[w4,List.length_cons,List.length_nil]
  omega
def Hh (b:Bytes):Bytes:=(hs b ((pad b).length / 64)).flatMap w4
abbrev y4:Nat:=112
def y6:AF:=⟨1,6,[.tmp 2],(.seq (.ops [.i (.mov 2 (.c (.val false [.nils])))]) (.seq (.ops [.i (.call 10 173 false []),qm 10 0,qk 12 174 10,qm 3 9,qm 4 11]) (.seq (.seq (.ops [.i (.mov 5 (qi 0))]) (.block 0 (.loop [24,23,22,21,20,19,18,17,16,15,14,13,12] (.seq (.seq (.ops [qm 12 5,qm 13 4,qn 14 13,qd 15 .lss 12 14]) (.cond (.s 15) .skip (.exit 0))) (.seq (.block 1 (.ops [qm 18 3,qm 19 4,qm 20 5,qm 21 5, .i (.bin 22 .add (.s 21) (qi 64)), .i (.dQ 23 1 (.s 19) (some (.s 20)) (some (.s 22))), .i (.call 25 175 false [(.s 18),(.s 23)]),qm 3 24])) (.ops [qm 16 5, .i (.bin 17 .add (.s 16) (qi 64)),qm 5 17])))))) (.seq (.ops [.i (.bse 25),qm 6 25]) (.seq (.seq (.ops [qm 26 3,qn 27 26, .i (.mov 28 (qi 0))]) (.block 2 (.loop [46,45,44,43,42,41,40,39,38,37,36,35,34,33,32,31,30,29,8] (.seq (.ops [qd 29 .lss 28 27]) (.seq (.cond (.s 29) .skip (.exit 2)) (.seq (.block 3 (.seq (.ops [.i (.iad 30 (.s 26) (.s 28) 1), .i (.ldh 31 (.s 30) 1 false),qm 8 31]) (.ops [qm 32 6,qm 33 8, .i (.bin 34 .shr (.s 33) (.c (.val false [.int .u64 24]))), .i (.cvi 35 .u8 (.s 34)),qm 36 8, .i (.bin 37 .shr (.s 36) (.c (.val false [.int .u64 16]))), .i (.cvi 38 .u8 (.s 37)),qm 39 8, .i (.bin 40 .shr (.s 39) (.c (.val false [.int .u64 8]))), .i (.cvi 41 .u8 (.s 40)),qm 42 8, .i (.cvi 43 .u8 (.s 42)), .i (.lsl 44 1 4 [.int .u8 0] [(0,1,(.s 35)),(1,1,(.s 38)),(2,1,(.s 41)),(3,1,(.s 43))]), .i (.app 45 5 1 1 (.s 32) (.s 44)),qm 6 45]))) (.ops [.i (.bin 46 .add (.s 28) (qi 1)),qm 28 46]))))))) (.seq (.ops [qm 47 6,qm 2 47]) .ret))))))⟩
theorem GV:cd y4=some y6:=by kernel_rfl
theorem mO (b:Bytes) (hb:b.length≤1073741824):VC cd y4 (aH [(false,[.sl (bytes b)])]) (fun rs _=>rs= [(false,[.o true (some (5,1)) (bytes (Hh b))])]):=by
 have hp:=H5 b
 have hz:=uR b.length
 refine aa GV rfl ?_
 simp(disch:=omega) [y6,VY]
 refine ah (x6) rfl rfl ?_
 simp(disch:=omega) [VY]
 refine ah (z0 b hb) rfl rfl ?_
 simp(disch:=omega) [VY]
 refine ph (σ:=Nat×Nat) (f0:=_) (by simp(disch:=omega) [VY];rfl) ((cN.PW (.ow 106496 2)).trans (cN.PK (s:=3) (k:=90112) (k':=212992) (by simp(disch:=omega) [VY]) rfl (by omega))) (f1:=_) (es0:=_) (by simp(disch:=omega) [VY];rfl) (by simp(disch:=omega) [uV,ib,jQ,St.put,VY];rfl) (fun p=> [(5, .val false [.int .i64 (64 * (p.1:Int))]),(3, .val false [.ow 212992 p.2])]) (fun p=> [(212992, .sl p.2 true true (some (3,1)) (ints (hs b p.1)))])
  (fun p g=>g+p.1=(pad b).length / 64) (0,_) ((pad b).length / 64) (by simp(disch:=omega) [uV,jQ,St.put,VY];rfl) (by simp(disch:=omega) [hs,uV,ib,jQ,St.put,VY]) (by omega) ?_
 rintro⟨k,v⟩ n g hg
 simp only at hg
 simp(disch:=omega) [ae,VY]
 refine ab (fun h1=> ?_) (fun h1=> ?_)
 ·have hk:64 * k+64≤(pad b).length:=by omega
  have p1:(64:Int) * (k:Int)+64≤((pad b).length:Int):=by omega
  have p2:((64:Int) * (k:Int)).toNat=64 * k:=by omega
  have p3:(0:Int)≤64 * (k:Int):=by omega
  have p4:((64:Int) * (k:Int)+64 - 64 * (k:Int)).toNat=64:=by omega
  have p5:(64:Int) * (k:Int)≤64 * (k:Int)+64:=by omega
  have hx:((bytes (pad b)).drop (64 * k)).take 64=bytes (((pad b).drop (64 * k)).take 64):=by simp[bytes]
  simp(disch:=omega) [ae,p1,p2,p3,p4,p5,hx,qp,VY]
  refine av (u7 (hs b k) (((pad b).drop (64 * k)).take 64) (wo b k) (H6 b k) (by simp;omega)) ?_
  simp(disch:=omega) [VY]
  exact⟨k+1,_,g - 1,by omega,by omega,⟨rfl,by omega⟩,rfl,rfl⟩
 have hk:k=(pad b).length / 64:=by omega
 subst hk
 have hl:=wo b ((pad b).length / 64)
 simp(disch:=omega) [bJ,hl,VY]
 refine bd (σ:=Nat×Nat) (f1:=_) (es0:=_) (by simp(disch:=omega) [VY];rfl) (by simp(disch:=omega) [VY];rfl) (fun p=> [(28, .val false [.int .i64 p.1]),(6, .val false [.ow 25 p.2])]) (fun p=> [(25, .sl p.2 true true (some (5,1)) (bytes (((hs b ((pad b).length / 64)).take p.1).flatMap w4)))])
  (fun p g=>g+p.1=8) (0,_) 8 (by simp(disch:=omega) [VY];rfl) (by simp(disch:=omega) [bytes,VY]) (by omega) ?_
 rintro⟨k,w⟩ n g hg
 simp only at hg
 simp(disch:=omega) [VY]
 refine ab (fun h2=> ?_) (fun h2=> ?_)
 ·have hk:k < 8:=by omega
  have e1:(ints (hs b ((pad b).length / 64))).length=8:=by rw[bJ,hl]
  have e2:(bytes (((hs b ((pad b).length / 64)).take k).flatMap w4)).length=4 * k:=by rw[ae];exact D6 _ _ (by omega)
  simp(disch:=omega) [e1,e2,ed,VY]
  exact⟨k+1,_,g - 1,by omega,by omega,⟨by omega,rfl⟩,rfl,Hk (by omega)⟩
 ·have hk:k=8:=by omega
  subst hk
  simp(disch:=omega) [VY]
  rw[List.take_of_length_le (by omega)]
  rfl
abbrev yR:Nat:=321
def AO:AF:=⟨1,6,[.tmp 2],(.seq (.ops [.i (.mov 2 (.c (.val false [.nils])))]) (.seq (.ops [.i (.call 10 345 false []),qm 3 9]) (.seq (.ops [qm 10 0,qk 12 346 10,qm 4 11]) (.seq (.seq (.ops [.i (.mov 5 (qi 0))]) (.block 0 (.loop [24,23,22,21,20,19,18,17,16,15,14,13,12] (.seq (.seq (.ops [qm 12 5,qm 13 4,qn 14 13,qd 15 .lss 12 14]) (.cond (.s 15) .skip (.exit 0))) (.seq (.block 1 (.ops [qm 18 3,qm 19 4,qm 20 5,qm 21 5, .i (.bin 22 .add (.s 21) (qi 64)), .i (.dQ 23 1 (.s 19) (some (.s 20)) (some (.s 22))), .i (.call 25 347 false [(.s 18),(.s 23)]),qm 3 24])) (.ops [qm 16 5, .i (.bin 17 .add (.s 16) (qi 64)),qm 5 17])))))) (.seq (.ops [.i (.bse 25),qm 6 25]) (.seq (.seq (.ops [qm 26 3,qn 27 26, .i (.mov 28 (qi 0))]) (.block 2 (.loop [46,45,44,43,42,41,40,39,38,37,36,35,34,33,32,31,30,29,8] (.seq (.ops [qd 29 .lss 28 27]) (.seq (.cond (.s 29) .skip (.exit 2)) (.seq (.block 3 (.seq (.ops [.i (.iad 30 (.s 26) (.s 28) 1), .i (.ldh 31 (.s 30) 1 false),qm 8 31]) (.ops [qm 32 6,qm 33 8, .i (.bin 34 .shr (.s 33) (.c (.val false [.int .u64 24]))), .i (.cvi 35 .u8 (.s 34)),qm 36 8, .i (.bin 37 .shr (.s 36) (.c (.val false [.int .u64 16]))), .i (.cvi 38 .u8 (.s 37)),qm 39 8, .i (.bin 40 .shr (.s 39) (.c (.val false [.int .u64 8]))), .i (.cvi 41 .u8 (.s 40)),qm 42 8, .i (.cvi 43 .u8 (.s 42)), .i (.lsl 44 1 4 [.int .u8 0] [(0,1,(.s 35)),(1,1,(.s 38)),(2,1,(.s 41)),(3,1,(.s 43))]), .i (.app 45 5 1 1 (.s 32) (.s 44)),qm 6 45]))) (.ops [.i (.bin 46 .add (.s 28) (qi 1)),qm 28 46]))))))) (.seq (.ops [qm 47 6,qm 2 47]) .ret)))))))⟩
theorem Gv:cd yR=some AO:=by kernel_rfl
theorem iz (b:Bytes) (hb:b.length≤1073741824):VC cd yR (aH [(false,[.sl (bytes b)])]) (fun rs _=>rs= [(false,[.o true (some (5,1)) (bytes (Hh b))])]):=by
 have hp:=H5 b
 have hz:=uR b.length
 refine aa Gv rfl ?_
 simp(disch:=omega) [AO,VY]
 refine ah (xR) rfl rfl ?_
 simp(disch:=omega) [VY]
 refine ah (zn b hb) rfl rfl ?_
 simp(disch:=omega) [VY]
 refine ph (σ:=Nat×Nat) (f0:=_) (by simp(disch:=omega) [VY];rfl) ((cN.PW (.ow 106496 2)).trans (cN.PK (s:=3) (k:=90112) (k':=212992) (by simp(disch:=omega) [VY]) rfl (by omega))) (f1:=_) (es0:=_) (by simp(disch:=omega) [VY];rfl) (by simp(disch:=omega) [uV,ib,jQ,St.put,VY];rfl) (fun p=> [(5, .val false [.int .i64 (64 * (p.1:Int))]),(3, .val false [.ow 212992 p.2])]) (fun p=> [(212992, .sl p.2 true true (some (3,1)) (ints (hs b p.1)))])
  (fun p g=>g+p.1=(pad b).length / 64) (0,_) ((pad b).length / 64) (by simp(disch:=omega) [uV,jQ,St.put,VY];rfl) (by simp(disch:=omega) [hs,uV,ib,jQ,St.put,VY]) (by omega) ?_
 rintro⟨k,v⟩ n g hg
 simp only at hg
 simp(disch:=omega) [ae,VY]
 refine ab (fun h1=> ?_) (fun h1=> ?_)
 ·have hk:64 * k+64≤(pad b).length:=by omega
  have p1:(64:Int) * (k:Int)+64≤((pad b).length:Int):=by omega
  have p2:((64:Int) * (k:Int)).toNat=64 * k:=by omega
  have p3:(0:Int)≤64 * (k:Int):=by omega
  have p4:((64:Int) * (k:Int)+64 - 64 * (k:Int)).toNat=64:=by omega
  have p5:(64:Int) * (k:Int)≤64 * (k:Int)+64:=by omega
  have hx:((bytes (pad b)).drop (64 * k)).take 64=bytes (((pad b).drop (64 * k)).take 64):=by simp[bytes]
  simp(disch:=omega) [ae,p1,p2,p3,p4,p5,hx,qp,VY]
  refine av (vd (hs b k) (((pad b).drop (64 * k)).take 64) (wo b k) (H6 b k) (by simp;omega)) ?_
  simp(disch:=omega) [VY]
  exact⟨k+1,_,g - 1,by omega,by omega,⟨rfl,by omega⟩,rfl,rfl⟩
 have hk:k=(pad b).length / 64:=by omega
 subst hk
 have hl:=wo b ((pad b).length / 64)
 simp(disch:=omega) [bJ,hl,VY]
 refine bd (σ:=Nat×Nat) (f1:=_) (es0:=_) (by simp(disch:=omega) [VY];rfl) (by simp(disch:=omega) [VY];rfl) (fun p=> [(28, .val false [.int .i64 p.1]),(6, .val false [.ow 25 p.2])]) (fun p=> [(25, .sl p.2 true true (some (5,1)) (bytes (((hs b ((pad b).length / 64)).take p.1).flatMap w4)))])
  (fun p g=>g+p.1=8) (0,_) 8 (by simp(disch:=omega) [VY];rfl) (by simp(disch:=omega) [bytes,VY]) (by omega) ?_
 rintro⟨k,w⟩ n g hg
 simp only at hg
 simp(disch:=omega) [VY]
 refine ab (fun h2=> ?_) (fun h2=> ?_)
 ·have hk:k < 8:=by omega
  have e1:(ints (hs b ((pad b).length / 64))).length=8:=by rw[bJ,hl]
  have e2:(bytes (((hs b ((pad b).length / 64)).take k).flatMap w4)).length=4 * k:=by rw[ae];exact D6 _ _ (by omega)
  simp(disch:=omega) [e1,e2,ed,VY]
  exact⟨k+1,_,g - 1,by omega,by omega,⟨by omega,rfl⟩,rfl,Hk (by omega)⟩
 ·have hk:k=8:=by omega
  subst hk
  simp(disch:=omega) [VY]
  rw[List.take_of_length_le (by omega)]
  rfl
end Go.Eng.F
namespace Go.Eng.F
abbrev lB:Nat:=252
def ln:AF:=⟨1,3,[.tmp 2],(.seq (.ops [.i (.mov 2 (.c (.val false [.nils])))]) (.seq (.ops [.i (.bsl 3 5 1 1 [.int .u8 0] [(0,1,(.c (.val false [.int .u8 0])))]),qm 4 0, .i (.app 5 5 1 1 (.s 3) (.s 4)),qk 7 112 5,qm 2 6]) .ret))⟩
theorem x8:cd lB=some ln:=by kernel_rfl
theorem vH (x:Bytes) (hx:x.length≤1073741823):VC cd lB (aH [(false,[.sl (bytes x)])]) (fun rs _=>rs= [(false,[.o true (some (5,1)) (bytes (Hh (0::x)))])]):=by
 have e: [[D.int .u8 0]]++bytes x=bytes (0::x):=rfl
 refine aa x8 rfl ?_
 simp(disch:=omega) [ln,e,ae,VY]
 refine ah (mO (0::x) (by simp;omega)) rfl rfl ?_
 simp(disch:=omega) [VY]
abbrev kP:Nat:=343
def lu:AF:=⟨1,3,[.tmp 2],(.seq (.ops [.i (.mov 2 (.c (.val false [.nils])))]) (.seq (.ops [.i (.bsl 3 5 1 1 [.int .u8 0] [(0,1,(.c (.val false [.int .u8 0])))]),qm 4 0, .i (.app 5 5 1 1 (.s 3) (.s 4)),qk 7 321 5,qm 2 6]) .ret))⟩
theorem yd:cd kP=some lu:=by kernel_rfl
theorem u5 (x:Bytes) (hx:x.length≤1073741823):VC cd kP (aH [(false,[.sl (bytes x)])]) (fun rs _=>rs= [(false,[.o true (some (5,1)) (bytes (Hh (0::x)))])]):=by
 have e: [[D.int .u8 0]]++bytes x=bytes (0::x):=rfl
 refine aa yd rfl ?_
 simp(disch:=omega) [lu,e,ae,VY]
 refine ah (iz (0::x) (by simp;omega)) rfl rfl ?_
 simp(disch:=omega) [VY]
abbrev lq:Nat:=254
def l0:AF:=⟨2,4,[.tmp 4],(.seq (.ops [.i (.mov 4 (.c (.val false [.nils])))]) (.seq (.ops [.i (.bsl 5 5 1 1 [.int .u8 0] [(0,1,(.c (.val false [.int .u8 1])))]),qm 6 0, .i (.app 7 5 1 1 (.s 5) (.s 6)),qm 8 1, .i (.app 9 5 1 1 (.s 7) (.s 8)),qk 11 112 9,qm 4 10]) .ret))⟩
theorem yc:cd lq=some l0:=by kernel_rfl
theorem v8 (x y:Bytes) (hx:x.length≤1000) (hy:y.length≤1000):VC cd lq (aH [(false,[.sl (bytes x)]),(false,[.sl (bytes y)])]) (fun rs _=>rs= [(false,[.o true (some (5,1)) (bytes (Hh (1::x++y)))])]):=by
 have e: [[D.int .u8 1]]++bytes x=bytes (1::x):=rfl
 have e2:bytes (1::x)++bytes y=bytes (1::x++y):=by simp[bytes]
 refine aa yc rfl ?_
 simp(disch:=omega) [l0,e,e2,ae,VY]
 refine ah (mO (1::x++y) (by simp;omega)) rfl rfl ?_
 simp(disch:=omega) [VY]
abbrev lK:Nat:=344
def lR:AF:=⟨2,4,[.tmp 4],(.seq (.ops [.i (.mov 4 (.c (.val false [.nils])))]) (.seq (.ops [.i (.bsl 6 5 1 1 [.int .u8 0] [(0,1,(.c (.val false [.int .u8 1])))]),qm 7 0, .i (.app 8 5 1 1 (.s 6) (.s 7)),qm 5 8]) (.seq (.ops [qm 9 5,qm 10 1, .i (.app 11 5 1 1 (.s 9) (.s 10)),qk 13 321 11,qm 4 12]) .ret)))⟩
theorem xt:cd lK=some lR:=by kernel_rfl
theorem vz (x y:Bytes) (hx:x.length≤1000) (hy:y.length≤1000):VC cd lK (aH [(false,[.sl (bytes x)]),(false,[.sl (bytes y)])]) (fun rs _=>rs= [(false,[.o true (some (5,1)) (bytes (Hh (1::x++y)))])]):=by
 have e: [[D.int .u8 1]]++bytes x=bytes (1::x):=rfl
 have e2:bytes (1::x)++bytes y=bytes (1::x++y):=by simp[bytes]
 refine aa xt rfl ?_
 simp(disch:=omega) [lR,e,e2,ae,VY]
 refine ah (iz (1::x++y) (by simp;omega)) rfl rfl ?_
 simp(disch:=omega) [VY]
def I9 (n k:Nat):Nat:=if h:0 < k∧k < n - k then I9 n (2 * k)else k
termination_by n - k
decreasing_by omega
def splitAt (n:Nat):Nat:=if n < 2 then 0 else I9 n 1
abbrev mU:Nat:=253
def mD:AF:=⟨1,4,[.tmp 2],(.seq (.ops [.i (.mov 2 (qi 0))]) (.seq (.seq (.ops [qm 4 0, .i (.bin 5 .lss (.s 4) (qi 2))]) (.cond (.s 5) (.seq (.ops [.i (.mov 2 (qi 0))]) .ret) .skip)) (.seq (.ops [.i (.mov 3 (qi 1))]) (.seq (.block 0 (.loop [12,11,10,9,8,7,6] (.seq (.seq (.ops [qm 6 3,qm 7 0,qm 8 3,qd 9 .sub 7 8,qd 10 .lss 6 9]) (.cond (.s 10) .skip (.exit 0))) (.block 1 (.ops [qm 11 3, .i (.bin 12 .mul (.s 11) (qi 2)),qm 3 12]))))) (.seq (.ops [qm 13 3,qm 2 13]) .ret)))))⟩
theorem zJ:cd mU=some mD:=by kernel_rfl
theorem kX (n:Nat) (hn:n≤1073741824):VC cd mU (aH [(false,[.int .i64 (n:Int)])]) (fun rs _=>rs=it (splitAt n)):=by
 refine aa zJ rfl ?_
 simp(disch:=omega) [mD,VY]
 refine ab (fun h1=> ?_) (fun h1=> ?_)
 ·have h2:n < 2:=by omega
  simp(disch:=omega) [splitAt,h2,VY]
 ·have h2:¬n < 2:=by omega
  simp(disch:=omega) [VY]
  refine bd (σ:=Nat) (f1:=_) (es0:=_) (by simp(disch:=omega) [VY];rfl) (by simp(disch:=omega) [VY];rfl) (fun k=> [(3, .val false [.int .i64 k])]) (fun _=> []) (fun k g=>g+k=n∧0 < k∧I9 n k=splitAt n) 1 (n - 1) (by simp(disch:=omega) [VY]) (by simp(disch:=omega) [VY]) ⟨by omega,by omega,by rw[splitAt,if_neg h2]⟩ ?_
  rintro k v g ⟨hg,h0,hk⟩
  simp(disch:=omega) [VY]
  refine ab (fun h3=> ?_) (fun h3=> ?_)
  ·simp(disch:=omega) [VY]
   exact⟨2 * k,n - 2 * k,by omega,⟨by omega,by omega,by rw[←hk];conv=>rhs;rw[I9,dif_pos ⟨h0,by omega⟩]⟩,by omega⟩
  ·simp(disch:=omega) [VY]
   rw[I9,dif_neg (by omega)]at hk
   rw[hk]
abbrev pV:Nat:=323
def oR:AF:=⟨1,4,[.tmp 2],(.seq (.ops [.i (.mov 2 (qi 0))]) (.seq (.seq (.ops [qm 4 0, .i (.bin 5 .lss (.s 4) (qi 2))]) (.cond (.s 5) (.seq (.ops [.i (.mov 2 (qi 0))]) .ret) .skip)) (.seq (.ops [.i (.mov 3 (qi 1))]) (.seq (.block 0 (.loop [12,11,10,9,8,7,6] (.seq (.seq (.ops [qm 6 3,qm 7 0,qm 8 3,qd 9 .sub 7 8,qd 10 .lss 6 9]) (.cond (.s 10) .skip (.exit 0))) (.block 1 (.ops [qm 11 3, .i (.bin 12 .mul (qi 2) (.s 11)),qm 3 12]))))) (.seq (.ops [qm 13 3,qm 2 13]) .ret)))))⟩
theorem yS:cd pV=some oR:=by kernel_rfl
theorem la (n:Nat) (hn:n≤1073741824):VC cd pV (aH [(false,[.int .i64 (n:Int)])]) (fun rs _=>rs=it (splitAt n)):=by
 refine aa yS rfl ?_
 simp(disch:=omega) [oR,VY]
 refine ab (fun h1=> ?_) (fun h1=> ?_)
 ·have h2:n < 2:=by omega
  simp(disch:=omega) [splitAt,h2,VY]
 ·have h2:¬n < 2:=by omega
  simp(disch:=omega) [VY]
  refine bd (σ:=Nat) (f1:=_) (es0:=_) (by simp(disch:=omega) [VY];rfl) (by simp(disch:=omega) [VY];rfl) (fun k=> [(3, .val false [.int .i64 k])]) (fun _=> []) (fun k g=>g+k=n∧0 < k∧I9 n k=splitAt n) 1 (n - 1) (by simp(disch:=omega) [VY]) (by simp(disch:=omega) [VY]) ⟨by omega,by omega,by rw[splitAt,if_neg h2]⟩ ?_
  rintro k v g ⟨hg,h0,hk⟩
  simp(disch:=omega) [VY]
  refine ab (fun h3=> ?_) (fun h3=> ?_)
  ·simp(disch:=omega) [VY]
   exact⟨2 * k,n - 2 * k,by omega,⟨by omega,by omega,by rw[←hk];conv=>rhs;rw[I9,dif_pos ⟨h0,by omega⟩]⟩,by omega⟩
  ·simp(disch:=omega) [VY]
   rw[I9,dif_neg (by omega)]at hk
   rw[hk]
theorem Oc (n:Nat):∀(g k:Nat),g=n - k→0 < k→k < n→k≤I9 n k∧I9 n k < n:=by
 intro g
 induction g using Nat.strongRecOn with
 |ind g ih=>
 intro k hg h0 hk
 rw[I9]
 split
 ·rename_i h
  have:=ih (n - 2 * k) (by omega) (2 * k) rfl (by omega) (by omega)
  omega
 ·omega
theorem ej {n:Nat} (h:2≤n):0 < splitAt n∧splitAt n < n:=by
 rw[splitAt,if_neg (by omega)]
 have:=Oc n _ 1 rfl (by omega) (by omega)
 omega
def aW (l:List Bytes):Bytes:=match l with
 | []=>Hh []
 | [x]=>Hh (0::x)
 |a::b::r=>Hh (1::aW ((a::b::r).take (splitAt (a::b::r).length))++aW ((a::b::r).drop (splitAt (a::b::r).length)))
termination_by l.length
decreasing_by
 all_goals
  have:=ej (n:=(a::b::r).length) (by simp)
  simp only[List.length_take,List.length_drop,List.length_cons]at *
  omega
theorem yn (b:Bytes):(Hh b).length=32:=by
 have h:=D6 (hs b ((pad b).length / 64)) 8 (by rw[wo];omega)
 rw[List.take_of_length_le (by rw[wo];omega)]at h
 exact h
theorem uE:aW []=Hh []:=by rw[aW]
theorem uc {l:List Bytes} (h:l.length=1):aW l=Hh (0::l[0]):=by
 match l,h with
 | [x],_=>rw[aW];rfl
theorem ru {l:List Bytes} (h:2≤l.length):aW l=Hh (1::aW (l.take (splitAt l.length))++aW (l.drop (splitAt l.length))):=by
 match l,h with
 |a::b::r,_=>rw[aW]
theorem eP (l:List Bytes):(aW l).length=32:=by
 match l with
 | []=>rw[aW];exact yn _
 | [x]=>rw[aW];exact yn _
 |a::b::r=>rw[aW];exact yn _
abbrev lL:Nat:=176
def lV:AF:=⟨1,5,[.tmp 2],(.seq (.ops [.i (.mov 2 (.c (.val false [.nils])))]) (.seq (.seq (.ops [qm 4 0,qn 5 4]) (.block 0 (.seq (.ops [.i (.bin 7 .eql (.s 5) (qi 0)),qm 6 7]) (.cond (.s 6) (.seq (.ops [.i (.call 9 112 false [(.c (.val false [.nils]))]),qm 2 8]) .ret) (.seq (.ops [.i (.bin 10 .eql (.s 5) (qi 1)),qm 9 10]) (.cond (.s 9) (.seq (.ops [qm 11 0, .i (.iad 12 (.s 11) (qi 0) 1), .i (.ldh 13 (.s 12) 1 false),qk 15 252 13,qm 2 14]) .ret) .skip)))))) (.seq (.ops [qm 15 0,qn 16 15,qk 18 253 16,qm 3 17]) (.seq (.ops [qm 18 0,qm 19 3, .i (.dQ 20 1 (.s 18) none (some (.s 19))),qk 22 176 20,qm 22 0,qm 23 3, .i (.dQ 24 1 (.s 22) (some (.s 23)) none),qk 26 176 24, .i (.call 27 254 false [(.s 21),(.s 25)]),qm 2 26]) .ret))))⟩
theorem xo:cd lL=some lV:=by kernel_rfl
theorem vl:∀(n:Nat) (l:List Bytes),l.length=n→l.length≤1073741824→(∀x∈l,x.length≤1073741823)→VC cd lL (aH [(false,[.sl (bz l)])]) (fun rs _=>rs= [(false,[.o true (some (5,1)) (bytes (aW l))])]):=by
 intro n
 induction n using Nat.strongRecOn with
 |ind n ih=>
 intro l hn hl hx
 refine aa xo rfl ?_
 simp(disch:=omega) [lV,aB,VY]
 refine ab (fun h1=> ?_) (fun h1=> ?_)
 ·have h2:l= []:=h1
  subst h2
  simp(disch:=omega) [VY]
  refine ah (mO [] (by simp)) rfl rfl ?_
  simp(disch:=omega) [uE,VY]
 ·have h0:0 < l.length:=List.length_pos_iff.2 h1
  simp(disch:=omega) [aB,VY]
  refine ab (fun h2=> ?_) (fun h2=> ?_)
  ·have h3:0 < l.length:=by omega
   simp(disch:=omega) [fN h3,aB,VY]
   refine ah (vH l[0] (hx _ (List.getElem_mem h3))) rfl rfl ?_
   simp(disch:=omega) [VY]
   rw[uc (by omega)]
  ·have h3:2≤l.length:=by omega
   obtain⟨k1,k2⟩:=ej h3
   simp(disch:=omega) [aB,VY]
   refine ah (kX l.length (by omega)) rfl rfl ?_
   have t1:(bz l).take (splitAt l.length)=bz (l.take (splitAt l.length)):=by simp[bz]
   have t2:(bz l).drop (splitAt l.length)=bz (l.drop (splitAt l.length)):=by simp[bz]
   have t3:((splitAt l.length:Nat):Int)≤(l.length:Int):=by omega
   have t4:splitAt l.length≤l.length:=by omega
   have t5:((l.length:Int) - (splitAt l.length:Int)).toNat=l.length - splitAt l.length:=by omega
   have t6:(bz (l.drop (splitAt l.length))).take (l.length - splitAt l.length)=bz (l.drop (splitAt l.length)):=List.take_of_length_le (by rw[aB];simp)
   simp(disch:=omega) [aB,yg,t1,t2,t3,t4,t5,t6,VY]
   refine ah (ih (splitAt l.length) (by omega) (l.take (splitAt l.length)) (by simp;omega) (by simp;omega) (fun x h=>hx x (List.mem_of_mem_take h))) rfl rfl ?_
   simp(disch:=omega) [aB,yg,t1,t2,t3,t4,t5,t6,VY]
   refine ah (ih (l.length - splitAt l.length) (by omega) (l.drop (splitAt l.length)) (by simp) (by simp;omega) (fun x h=>hx x (List.mem_of_mem_drop h))) rfl rfl ?_
   simp(disch:=omega) [VY]
   refine ah (v8 (aW (l.take (splitAt l.length))) (aW (l.drop (splitAt l.length))) (by rw[eP];omega) (by rw[eP];omega)) rfl rfl ?_
   simp(disch:=omega) [VY]
   rw[ru h3]
   rfl
abbrev lg:Nat:=319
def mj:AF:=⟨1,5,[.tmp 2],(.seq (.ops [.i (.mov 2 (.c (.val false [.nils])))]) (.seq (.seq (.ops [qm 4 0,qn 5 4, .i (.bin 6 .eql (.s 5) (qi 0))]) (.cond (.s 6) (.seq (.ops [.i (.call 8 321 false [(.c (.val false [.nils]))]),qm 2 7]) .ret) .skip)) (.seq (.seq (.ops [qm 8 0,qn 9 8, .i (.bin 10 .eql (.s 9) (qi 1))]) (.cond (.s 10) (.seq (.ops [qm 11 0, .i (.iad 12 (.s 11) (qi 0) 1), .i (.ldh 13 (.s 12) 1 false),qk 15 343 13,qm 2 14]) .ret) .skip)) (.seq (.ops [qm 15 0,qn 16 15,qk 18 323 16,qm 3 17]) (.seq (.ops [qm 18 0,qm 19 3, .i (.dQ 20 1 (.s 18) none (some (.s 19))),qk 22 319 20,qm 22 0,qm 23 3, .i (.dQ 24 1 (.s 22) (some (.s 23)) none),qk 26 319 24, .i (.call 27 344 false [(.s 21),(.s 25)]),qm 2 26]) .ret)))))⟩
theorem xX:cd lg=some mj:=by kernel_rfl
theorem js:∀(n:Nat) (l:List Bytes),l.length=n→l.length≤1073741824→(∀x∈l,x.length≤1073741823)→VC cd lg (aH [(false,[.sl (bz l)])]) (fun rs _=>rs= [(false,[.o true (some (5,1)) (bytes (aW l))])]):=by
 intro n
 induction n using Nat.strongRecOn with
 |ind n ih=>
 intro l hn hl hx
 refine aa xX rfl ?_
 simp(disch:=omega) [mj,aB,VY]
 refine ab (fun h1=> ?_) (fun h1=> ?_)
 ·have h2:l= []:=h1
  subst h2
  simp(disch:=omega) [VY]
  refine ah (iz [] (by simp)) rfl rfl ?_
  simp(disch:=omega) [uE,VY]
 ·have h0:0 < l.length:=List.length_pos_iff.2 h1
  simp(disch:=omega) [aB,VY]
  refine ab (fun h2=> ?_) (fun h2=> ?_)
  ·have h3:0 < l.length:=by omega
   simp(disch:=omega) [fN h3,aB,VY]
   refine ah (u5 l[0] (hx _ (List.getElem_mem h3))) rfl rfl ?_
   simp(disch:=omega) [VY]
   rw[uc (by omega)]
  ·have h3:2≤l.length:=by omega
   obtain⟨k1,k2⟩:=ej h3
   simp(disch:=omega) [aB,VY]
   refine ah (la l.length (by omega)) rfl rfl ?_
   have t1:(bz l).take (splitAt l.length)=bz (l.take (splitAt l.length)):=by simp[bz]
   have t2:(bz l).drop (splitAt l.length)=bz (l.drop (splitAt l.length)):=by simp[bz]
   have t3:((splitAt l.length:Nat):Int)≤(l.length:Int):=by omega
   have t4:splitAt l.length≤l.length:=by omega
   have t5:((l.length:Int) - (splitAt l.length:Int)).toNat=l.length - splitAt l.length:=by omega
   have t6:(bz (l.drop (splitAt l.length))).take (l.length - splitAt l.length)=bz (l.drop (splitAt l.length)):=List.take_of_length_le (by rw[aB];simp)
   simp(disch:=omega) [aB,yg,t1,t2,t3,t4,t5,t6,VY]
   refine ah (ih (splitAt l.length) (by omega) (l.take (splitAt l.length)) (by simp;omega) (by simp;omega) (fun x h=>hx x (List.mem_of_mem_take h))) rfl rfl ?_
   simp(disch:=omega) [aB,yg,t1,t2,t3,t4,t5,t6,VY]
   refine ah (ih (l.length - splitAt l.length) (by omega) (l.drop (splitAt l.length)) (by simp) (by simp;omega) (fun x h=>hx x (List.mem_of_mem_drop h))) rfl rfl ?_
   simp(disch:=omega) [VY]
   refine ah (vz (aW (l.take (splitAt l.length))) (aW (l.drop (splitAt l.length))) (by rw[eP];omega) (by rw[eP];omega)) rfl rfl ?_
   simp(disch:=omega) [VY]
   rw[ru h3]
   rfl
end Go.Eng.F
namespace Go.Eng.F
def bo (n:Nat):Bytes:=if n < 128 then [UInt8.ofNat n]else UInt8.ofNat (n % 128+128)::bo (n / 128)
termination_by n
decreasing_by omega
theorem C3 {n:Nat} (h:n < 128):bo n= [UInt8.ofNat n]:=by rw[bo,if_pos h]
theorem HE {n:Nat} (h:¬n < 128):bo n=UInt8.ofNat (n % 128+128)::bo (n / 128):=by rw[bo,if_neg h]
theorem Fo:∀(k n:Nat),n < 128 ^ (k+1)→(bo n).length≤k+1
 |0,n,h=>by rw[C3 (by simpa using h)];simp
 |k+1,n,h=>by
  by_cases h1:n < 128
  ·rw[C3 h1];simp
  ·rw[HE h1]
   have:=Fo k (n / 128) (by rw[Nat.div_lt_iff_lt_mul (by omega)];rw[Nat.pow_succ]at h;exact h)
   simp only[List.length_cons];omega
theorem dh {n:Nat} (h:n≤1152921504606846975):(bo n).length≤9:=Fo 8 n (by simp;omega)
theorem PG {k:Nat} (h:k < 256):IntKind.u8.wrap (k:Int)=((UInt8.ofNat k).toNat:Int):=by
 simp only[UInt8.toNat_ofNat',IntKind.wrap,IntKind.bits,IntKind.signed]
 simp
def yt (b:Bytes) (n:Int):List (Bool×List E):=
 if isNum n then [(false,[.o true (some (5,1)) (bytes (b++bo n.toNat))]),(false,[.p (.bool true)])]else [(false,[.p .nils]),(false,[.p (.bool false)])]
theorem v9 {n:Int} (h:isNum n=true):∃m:Nat,n=(m:Int)∧m≤1152921504606846975:=⟨n.toNat,by have:=dv h;omega⟩
abbrev iP:Nat:=338
def rV:AF:=⟨2,5,[.tmp 4, .tmp 5],(.seq (.ops [.i (.mov 4 (.c (.val false [.nils]))), .i (.mov 5 (qb false))]) (.seq (.seq (.ops [qm 7 1,qk 9 211 7, .i (.not 9 (.s 8))]) (.cond (.s 9) (.seq (.ops [.i (.mov 4 (.c (.val false [.nils]))), .i (.mov 5 (qb false))]) .ret) .skip)) (.seq (.ops [qm 10 0,qk 12 143 10,qm 6 11]) (.seq (.block 0 (.loop [22,21,20,19,18,17,16,15,14,13,12] (.seq (.seq (.ops [qm 12 1, .i (.bin 13 .gtr (.s 12) (qi 127))]) (.cond (.s 13) .skip (.exit 0))) (.block 1 (.seq (.ops [qm 14 6,qm 15 1, .i (.bin 16 .rem (.s 15) (qi 128)), .i (.bin 17 .add (qi 128) (.s 16)), .i (.cvi 18 .u8 (.s 17)), .i (.lsl 19 1 1 [.int .u8 0] [(0,1,(.s 18))]), .i (.app 20 5 1 1 (.s 14) (.s 19)),qm 6 20]) (.ops [qm 21 1, .i (.bin 22 .quo (.s 21) (qi 128)),qm 1 22])))))) (.seq (.ops [qm 23 6,qm 24 1, .i (.cvi 25 .u8 (.s 24)), .i (.lsl 26 1 1 [.int .u8 0] [(0,1,(.s 25))]), .i (.app 27 5 1 1 (.s 23) (.s 26)),qm 4 27, .i (.mov 5 (qb true))]) .ret)))))⟩
theorem Bw:cd iP=some rV:=by kernel_rfl
theorem zG (b:Bytes) (n:Int) (hb:b.length≤1073741824):VC cd iP (aH [(false,[.sl (bytes b)]),(false,[.int .i64 n])]) (fun rs _=>rs=yt b n):=by
 refine aa Bw rfl ?_
 simp(disch:=omega) [rV,VY]
 refine ah (ep n) rfl rfl ?_
 simp(disch:=omega) [VY]
 refine aA (fun h1=> ?_) (fun h1=> ?_)
 case refine_2=>simp(disch:=omega) [yt,h1,VY]
 simp(disch:=omega) [h1,VY]
 refine ah (aY b (by omega)) rfl rfl ?_
 obtain⟨m,rfl,hm⟩:=v9 h1
 have hl:=dh hm
 simp(disch:=omega) [VY]
 refine bd (σ:=Nat×Bytes×Nat) (f1:=_) (es0:=_) (by simp(disch:=omega) [VY];rfl) (by simp(disch:=omega) [VY];rfl) (fun p=> [(1, .val false [.int .i64 (p.1:Int)]),(6, .val false [.ow 106496 p.2.2])]) (fun p=> [(106496, .sl p.2.2 true true (some (5,1)) (bytes p.2.1))])
  (fun p g=>g=p.1∧p.1≤m∧p.2.1++bo p.1=b++bo m) (m,b,_) m (by simp(disch:=omega) [VY];rfl) (by simp(disch:=omega) [VY]) ⟨rfl,Nat.le_refl _,rfl⟩ ?_
 rintro⟨k,a,v⟩ n g ⟨hg,hk,ha⟩
 simp only at hg hk ha
 have hla:a.length≤b.length+9:=by
  have:=congrArg List.length ha
  simp only[List.length_append]at this
  omega
 simp(disch:=omega) [VY]
 refine ab (fun h2=> ?_) (fun h2=> ?_)
 ·have e1:Int.tmod (k:Int) 128=(k:Int) % 128:=Int.tmod_eq_emod_of_nonneg (by omega)
  have e2:Int.tdiv (k:Int) 128=(k:Int) / 128:=Int.tdiv_eq_ediv_of_nonneg (by omega)
  have e3:IntKind.u8.wrap (128+(k:Int) % 128)=((UInt8.ofNat (k % 128+128)).toNat:Int):=by rw[←PG (by omega)];congr 1;omega
  have e4:bytes a++ [[.int .u8 ((UInt8.ofNat (k % 128+128)).toNat:Int)]]=bytes (a++ [UInt8.ofNat (k % 128+128)]):=by simp[bytes]
  simp(disch:=omega) [e1,e2,e3,e4,ae,VY]
  refine⟨k / 128,a++ [UInt8.ofNat (k % 128+128)],_,k / 128,by omega,⟨rfl,by omega,?_⟩,⟨rfl,by omega⟩,rfl,by simp[bytes]⟩
  rw[←ha,HE (n:=k) (by omega)]
  simp
 ·have e3:IntKind.u8.wrap (k:Int)=((UInt8.ofNat k).toNat:Int):=PG (by omega)
  have e4:bytes a++ [[.int .u8 ((UInt8.ofNat k).toNat:Int)]]=bytes (a++ [UInt8.ofNat k]):=by simp[bytes]
  rw[C3 (n:=k) (by omega)]at ha
  simp(disch:=omega) [e3,e4,ae,yt,h1,VY]
  rw[←ha]
  simp[bytes]
theorem tZ {n:Nat} (h:n≤1152921504606846975):isNum (n:Int)=true:=by simp[isNum,cw];omega
theorem sr (b:Bytes) (n:Nat) (hn:n≤1152921504606846975) (hb:b.length≤1073741824):VC cd iP (aH [(false,[.sl (bytes b)]),(false,[.int .i64 (n:Int)])]) (fun rs _=>rs= [(false,[.o true (some (5,1)) (bytes (b++bo n))]),(false,[.p (.bool true)])]):=
 (zG b n hb).mono fun rs ps h=>by rw[h,yt,if_pos (tZ hn)];rfl
abbrev rj:Nat:=308
def qV:AF:=⟨2,4,[.tmp 4],(.seq (.ops [.i (.mov 4 (.c (.val false [.nils])))]) (.seq (.ops [qm 8 0,qm 9 1, .i (.call 11 338 false [(.s 8),(.s 9)]),qm 7 10, .i (.ext 11 (.s 7) 0), .i (.ext 12 (.s 7) 1),qm 5 11,qm 6 12]) (.seq (.ops [qm 13 5,qm 4 13]) .ret)))⟩
theorem BS:cd rj=some qV:=by kernel_rfl
theorem bG (b:Bytes) (n:Int) (hn:isNum n=true) (hb:b.length≤1073741824):VC cd rj (aH [(false,[.sl (bytes b)]),(false,[.int .i64 n])]) (fun rs _=>rs= [(false,[.o true (some (5,1)) (bytes (b++bo n.toNat))])]):=by
 obtain⟨m,rfl,hm⟩:=v9 hn
 refine aa BS rfl ?_
 simp(disch:=omega) [qV,VY]
 refine ah (sr b m hm hb) rfl rfl ?_
 simp(disch:=omega) [VY]
def MY (q:Qc):Bytes:=bo q.view.toNat++bo q.height.toNat++q.block++q.bits++q.tags.flatten
def gB (h:Head):Bytes:=bo h.view.toNat++bo h.height.toNat++bo h.proposer.toNat++h.parent++h.root++MY h.qc
theorem aQ {n:Int} (h:isNum n=true):(bo n.toNat).length≤9:=by
 obtain⟨m,rfl,hm⟩:=v9 h
 simpa using dh hm
theorem tt {n:Int} (h:1≤n∧n≤10):tY n≤2:=by unfold tY;split <;>omega
structure IA (q:Qc):Prop where
 view:isNum q.view=true
 height:isNum q.height=true
 block:q.block.length=32
 bits:q.bits.length≤2
 tags:q.tags.length≤16
 tag:∀t∈q.tags,t.length=32
theorem yp {l:aj} {q:Qc} (h:mz l q=true):IA q:=by
 simp only[mz,Bool.and_eq_true,decide_eq_true_eq]at h
 obtain⟨⟨⟨⟨⟨⟨h0,h1⟩,h2⟩,h3⟩,h4⟩,h5⟩,h6⟩:=h
 simp only[dN,Bool.and_eq_true,decide_eq_true_eq]at h4
 have hb:=tt (dv h4.1.1)
 have hl:=da q.bits
 refine⟨h1,h2,by simpa[hash]using h3,by omega,by omega,fun t ht=> ?_⟩
 simp only[hashes,List.all_eq_true]at h6
 simpa[hash]using h6 t ht
theorem qD {l:List Bytes} (h:∀t∈l,t.length=32) {i:Nat} (hi:i≤l.length):(l.take i).flatten.length=32 * i:=by
 induction i generalizing l with
 |zero=>simp
 |succ i ih=>
  cases l with
  |nil=>simp at hi
  |cons a l=>
   simp only[List.take_succ_cons,List.flatten_cons,List.length_append]
   rw[ih (fun t ht=>h t (by simp[ht])) (by simpa using hi),h a (by simp)]
   omega
theorem Cz {l:List Bytes} {i:Nat} (h:i < l.length):(l.take (i+1)).flatten=(l.take i).flatten++l[i]:=by
 rw[List.take_add_one,List.getElem?_eq_getElem h,List.flatten_append]
 simp only[Option.toList_some,List.flatten_cons,List.flatten_nil,List.append_nil]
theorem D2 {q:Qc} (h:IA q):(MY q).length≤600:=by
 have h1:=aQ h.view
 have h2:=aQ h.height
 have h3:=qD h.tag (Nat.le_refl _)
 rw[List.take_length]at h3
 have:=h.block
 have:=h.bits
 have:=h.tags
 simp only[MY,List.length_append]
 omega
def c5 (ok:Bool) (b:Bytes):List (Bool×List E):=
 if ok then [(false,[.o true (some (5,1)) (bytes b)]),(false,[.p (.bool true)])]else [(false,[.p .nils]),(false,[.p (.bool false)])]
theorem cQ {ok:Bool} {b:Bytes} (h:ok=true):c5 ok b= [(false,[.o true (some (5,1)) (bytes b)]),(false,[.p (.bool true)])]:=by subst h;rfl
theorem dR {ok:Bool} {b:Bytes} (h:ok=false):c5 ok b= [(false,[.p .nils]),(false,[.p (.bool false)])]:=by subst h;rfl
theorem _root_.Go.Eng.VC.re {cd:Nat→Option AF} {g:Nat} {al:List (Bool×List E)} {rs rt:List (Bool×List E)} (h:VC cd g al (fun r _=>r=rs)) (e:rs=rt):VC cd g al (fun r _=>r=rt):=by subst e;exact h
abbrev sY:Nat:=258
def ui:AF:=⟨3,6,[.tmp 6, .tmp 7],(.seq (.ops [.i (.lbox 3 (.s 0)), .i (.lbox 5 (.s 2)), .i (.mov 6 (.c (.val false [.nils]))), .i (.mov 7 (qb false))]) (.seq (.seq (.ops [ql 11 3 3 5 true,ql 12 5 5 5 true, .i (.call 14 309 false [(.s 11),(.s 12)]), .i (.not 14 (.s 13))]) (.cond (.s 14) (.seq (.ops [.i (.mov 6 (.c (.val false [.nils]))), .i (.mov 7 (qb false))]) .ret) .skip)) (.seq (.ops [qm 15 1,qf 16 5 0,ql 17 5 16 1 false, .i (.call 19 308 false [(.s 15),(.s 17)]),qf 19 5 1,ql 20 5 19 1 false, .i (.call 22 308 false [(.s 18),(.s 20)]),qf 22 5 2,ql 23 5 22 1 false, .i (.app 24 5 1 1 (.s 21) (.s 23)),qm 8 24]) (.seq (.ops [qm 25 8,qf 26 5 3,ql 27 5 26 1 false, .i (.app 28 5 1 1 (.s 25) (.s 27)),qm 8 28]) (.seq (.seq (.ops [qf 29 5 4,ql 30 5 29 1 false,qn 31 30, .i (.mov 32 (qi 0))]) (.block 0 (.loop [39,38,37,36,35,34,33,10] (.seq (.ops [qd 33 .lss 32 31]) (.seq (.cond (.s 33) .skip (.exit 0)) (.seq (.block 1 (.seq (.ops [.i (.iad 34 (.s 30) (.s 32) 1), .i (.ldh 35 (.s 34) 1 false),qm 10 35]) (.ops [qm 36 8,qm 37 10, .i (.app 38 5 1 1 (.s 36) (.s 37)),qm 8 38]))) (.ops [.i (.bin 39 .add (.s 32) (qi 1)),qm 32 39]))))))) (.seq (.ops [qm 40 8,qm 6 40, .i (.mov 7 (qb true))]) .ret))))))⟩
theorem DU:cd sY=some ui:=by kernel_rfl
theorem fM (l:aj) (b:Bytes) (q:Qc) (hw:q.wf) (hb:b.length≤1000000000):VC cd sY (aH [(true,l.c),(false,[.sl (bytes b)]),(true,q.c)]) (fun rs _=>rs=c5 (mz l q) (b++MY q)):=by
 refine aa DU rfl ?_
 simp(disch:=omega) [ui,Qc.c,aj.c,VY]
 refine ah (kv l q hw) rfl rfl ?_
 simp(disch:=omega) [VY]
 refine aA (fun h0=> ?_) (fun h0=> ?_)
 case refine_2=>simp(disch:=omega) [h0,c5,VY]
 have hq:=yp h0
 have h1:=aQ hq.view
 have h2:=aQ hq.height
 have h4:=hq.block
 have h5:=hq.bits
 have h6:=hq.tags
 simp(disch:=omega) [h0,VY]
 refine ah (bG b q.view hq.view (by omega)) rfl rfl ?_
 simp(disch:=omega) [VY]
 refine ah (bG (b++bo q.view.toNat) q.height hq.height (by simp only[List.length_append];omega)) rfl rfl ?_
 simp(disch:=omega) [br,ae,VY]
 have e1:List.length b+(List.length (bo q.view.toNat)+(List.length (bo q.height.toNat)+List.length q.block))≤1073741824:=by omega
 simp(disch:=omega) [br,ae,aB,VY]
 refine bd (σ:=Nat×Nat) (f1:=_) (es0:=_) (by simp(disch:=omega) [VY];rfl) (by simp(disch:=omega) [VY];rfl) (fun p=> [(32, .val false [.int .i64 (p.1:Int)]),(8, .val false [.ow 188416 p.2])]) (fun p=> [(188416, .sl p.2 true true (some (5,1)) (bytes (b++(bo q.view.toNat++(bo q.height.toNat++(q.block++(q.bits++(q.tags.take p.1).flatten)))))))])
  (fun p g=>g+p.1=q.tags.length) (0,_) q.tags.length (by simp(disch:=omega) [VY];rfl) (by simp(disch:=omega) [VY]) (by omega) ?_
 rintro⟨i,v⟩ n g hg
 simp only at hg
 simp(disch:=omega) [VY]
 refine ab (fun h7=> ?_) (fun h7=> ?_)
 ·have hi:i < q.tags.length:=by omega
  have hx:=hq.tag _ (List.getElem_mem hi)
  have hf:=qD hq.tag (i:=i) (by omega)
  simp(disch:=omega) [fN hi,br,ae,hf,VY]
  exact⟨i+1,_,g - 1,by omega,by omega,⟨by omega,rfl⟩,rfl,by rw[Cz hi]⟩
 ·have hi:i=q.tags.length:=by omega
  subst hi
  rw[List.take_length]
  simp(disch:=omega) [MY,c5,h0,VY]
structure Gz (h:Head):Prop where
 view:isNum h.view=true
 height:isNum h.height=true
 proposer:isNum h.proposer=true
 parent:h.parent.length=32
 root:h.root.length=32
 qc:IA h.qc
theorem vP {l:aj} {h:Head} (hk:cE l h=true):mz l h.qc=true:=by
 simp only[cE,Bool.and_eq_true]at hk
 exact hk.1.1.1.1.1.1
theorem fv {l:aj} {h:Head} (hk:cE l h=true):Gz h:=by
 have hq:=vP hk
 have hn:=xd (uI hq)
 simp only[cE,Bool.and_eq_true,decide_eq_true_eq]at hk
 obtain⟨⟨⟨⟨⟨⟨h0,h1⟩,h2⟩,h3⟩,h4⟩,h5⟩,h6⟩:=hk
 have h2':=dv h2
 have h3':=dv h3
 exact⟨h1,by simp[isNum,cw];omega,by simp[isNum,cw];omega,by simpa[hash]using h4,by simpa[hash]using h5,yp hq⟩
theorem jJ {h:Head} (hs:Gz h):(gB h).length≤1000:=by
 have h1:=aQ hs.view
 have h2:=aQ hs.height
 have h3:=aQ hs.proposer
 have h4:=hs.parent
 have h5:=hs.root
 have h6:=D2 hs.qc
 simp only[gB,List.length_append]
 omega
abbrev nK:Nat:=259
def pI:AF:=⟨3,6,[.tmp 6, .tmp 7],(.seq (.ops [.i (.lbox 3 (.s 0)), .i (.lbox 5 (.s 2)), .i (.mov 6 (.c (.val false [.nils]))), .i (.mov 7 (qb false))]) (.seq (.seq (.ops [ql 9 3 3 5 true,ql 10 5 5 10 true, .i (.call 12 310 false [(.s 9),(.s 10)]), .i (.not 12 (.s 11))]) (.cond (.s 12) (.seq (.ops [.i (.mov 6 (.c (.val false [.nils]))), .i (.mov 7 (qb false))]) .ret) .skip)) (.seq (.ops [qm 13 1,qf 14 5 0,ql 15 5 14 1 false, .i (.call 17 308 false [(.s 13),(.s 15)]),qf 17 5 1,ql 18 5 17 1 false, .i (.call 20 308 false [(.s 16),(.s 18)]),qf 20 5 2,ql 21 5 20 1 false, .i (.call 23 308 false [(.s 19),(.s 21)]),qm 8 22]) (.seq (.ops [qm 23 8,qf 24 5 3,ql 25 5 24 1 false, .i (.app 26 5 1 1 (.s 23) (.s 25)),qf 27 5 4,ql 28 5 27 1 false, .i (.app 29 5 1 1 (.s 26) (.s 28)),qm 8 29]) (.seq (.ops [ql 30 3 3 5 true,qm 31 8,qf 32 5 5,ql 33 5 32 5 true, .i (.call 35 258 false [(.s 30),(.s 31),(.s 33)]), .i (.ext 35 (.s 34) 0), .i (.ext 36 (.s 34) 1),qm 6 35,qm 7 36]) .ret)))))⟩
theorem z3:cd nK=some pI:=by kernel_rfl
theorem cL (l:aj) (b:Bytes) (h:Head) (hw:h.wf) (hb:b.length≤900000000):VC cd nK (aH [(true,l.c),(false,[.sl (bytes b)]),(true,h.c)]) (fun rs _=>rs=c5 (cE l h) (b++gB h)):=by
 refine aa z3 rfl ?_
 simp(disch:=omega) [pI,Head.c,aj.c,VY]
 refine ah (gW l h hw) rfl rfl ?_
 simp(disch:=omega) [VY]
 refine aA (fun h0=> ?_) (fun h0=> ?_)
 case refine_2=>simp(disch:=omega) [h0,c5,VY]
 have hs:=fv h0
 have h1:=aQ hs.view
 have h2:=aQ hs.height
 have h3:=aQ hs.proposer
 have h4:=hs.parent
 have h5:=hs.root
 simp(disch:=omega) [h0,VY]
 refine ah (bG b h.view hs.view (by omega)) rfl rfl ?_
 simp(disch:=omega) [VY]
 refine ah (bG (b++bo h.view.toNat) h.height hs.height (by simp only[List.length_append];omega)) rfl rfl ?_
 simp(disch:=omega) [VY]
 refine ah (bG (b++(bo h.view.toNat++bo h.height.toNat)) h.proposer hs.proposer (by simp only[List.length_append];omega)) rfl rfl ?_
 simp(disch:=omega) [br,ae,VY]
 refine av ((fM l (b++(bo h.view.toNat++(bo h.height.toNat++(bo h.proposer.toNat++(h.parent++h.root))))) h.qc hw.2.2.2.2.2 (by simp only[List.length_append];omega)).re (cQ (vP h0))) ?_
 simp(disch:=omega) [c5,h0,gB,VY]
def lO (l:aj) (h:Head):Bytes:=if cE l h then Hh (72::gB h)else []
def DW (l:aj) (h:Head):List (Bool×List E):=if cE l h then [(false,[.o true (some (5,1)) (bytes (Hh (72::gB h)))])]else [(false,[.p .nils])]
abbrev gh:Nat:=274
def lS:AF:=⟨2,5,[.tmp 4],(.seq (.ops [.i (.lbox 2 (.s 0)), .i (.lbox 3 (.s 1)), .i (.mov 4 (.c (.val false [.nils])))]) (.seq (.ops [ql 8 2 2 5 true, .i (.bsl 9 5 1 1 [.int .u8 0] [(0,1,(.c (.val false [.int .u8 72])))]),ql 10 3 3 10 true, .i (.call 12 259 false [(.s 8),(.s 9),(.s 10)]),qm 7 11, .i (.ext 12 (.s 7) 0), .i (.ext 13 (.s 7) 1),qm 5 12,qm 6 13]) (.seq (.seq (.ops [qm 14 6, .i (.not 15 (.s 14))]) (.cond (.s 15) (.seq (.ops [.i (.mov 4 (.c (.val false [.nils])))]) .ret) .skip)) (.seq (.ops [qm 16 5,qk 18 321 16,qm 4 17]) .ret))))⟩
theorem xz:cd gh=some lS:=by kernel_rfl
theorem vY (l:aj) (h:Head) (hw:h.wf):VC cd gh (aH [(true,l.c),(true,h.c)]) (fun rs _=>rs=DW l h):=by
 have e: [[D.int .u8 72]]=bytes [72]:=rfl
 refine aa xz rfl ?_
 simp(disch:=omega) [lS,Head.c,aj.c,e,VY]
 cases h0:cE l h with
 |false=>
  refine av ((cL l [72] h hw (by simp)).re (dR h0)) ?_
  simp(disch:=omega) [DW,h0,VY]
 |true=>
  have hs:=jJ (fv h0)
  refine av ((cL l [72] h hw (by simp)).re (cQ h0)) ?_
  simp(disch:=omega) [VY]
  refine av (iz (72::gB h) (by simp;omega)) ?_
  simp(disch:=omega) [DW,h0,VY]
end Go.Eng.F
namespace Go.Eng.F
open Go.Eng.U (Fi df cO fZ)
theorem dz {n:Int} (h:IntKind.i64.min≤n∧n≤IntKind.i64.max):mq n:=by
 have h1:IntKind.i64.min= -9223372036854775808:=rfl
 have h2:IntKind.i64.max=9223372036854775807:=rfl
 unfold mq
 omega
theorem dZ (l:List Bytes):enc (.sl (.sl (.int .u8))) (wq l)= [.sl (bz l)]:=LS l
theorem d7 (k:IntKind) (n:Int):enc (.int k) (.i n)= [.int k n]:=rfl
theorem eK (b:Bool):enc .bool (.b b)= [.bool b]:=rfl
theorem eh (ts:List Ty) (vs:List Tv):enc (.st ts) (.r vs)=uP ts vs:=rfl
theorem bW (t:Ty) (ts:List Ty) (v:Tv) (vs:List Tv):uP (t::ts) (v::vs)=enc t v++uP ts vs:=rfl
theorem cG:uP [] []= []:=rfl
theorem Ed (t:Ty) (xs:List Tv):enc (.sl t) (.l xs)= [.sl (xs.map (enc t))]:=rfl
theorem cH {t:Ty} {ts:List Ty} {v:Tv} {vs:List Tv}:du (t::ts) (v::vs)↔aG t v∧du ts vs:=by simp only[du]
theorem fY {ts:List Ty} {vs:List Tv}:aG (.st ts) (.r vs)↔du ts vs:=by simp only[aG]
theorem ok_int {k:IntKind} {n:Int}:aG (.int k) (.i n)↔k.min≤n∧n≤k.max:=by simp only[aG]
theorem Kt {t:Ty} {xs:List Tv}:aG (.sl t) (.l xs)↔xs.length≤maxLen∧∀x∈xs,aG t x:=by simp only[aG]
theorem rB {x:Bytes} (h:wt (A9 x)≤1048576):Sz x.length:=by rw[Jm]at h;unfold Sz;omega
theorem Gs {l:List Bytes} (h:wt (wq l)≤1048576):Sz l.length∧∀x∈l,Sz x.length:=by
 obtain⟨h1,h2⟩:=J0 l
 unfold Sz
 exact⟨by omega,fun x hx=>by have:=h2 x hx;omega⟩
theorem fU (l:List Int):enc (.sl (.int .i64)) (MV l)= [.sl (l.map fun n=> [.int .i64 n])]:=by
 simp only[MV,Ed,List.map_map]
 congr 2
theorem iF (s:ByteArray):enc .str (.s s)= [.str s]:=rfl
def aj.tv (l:aj):Tv:= .r [.i l.n, .i l.tx, .i l.txs, .i l.frame, .i l.heads]
theorem aj.enc (l:aj):enc cO l.tv=l.c:=rfl
theorem aj.ex {v:Tv} (h:aG cO v):∃l:aj,v=l.tv:=by
 obtain⟨vs,rfl,h⟩:=h.st
 obtain⟨v0,_,rfl,h0,h⟩:=h.step
 obtain⟨v1,_,rfl,h1,h⟩:=h.step
 obtain⟨v2,_,rfl,h2,h⟩:=h.step
 obtain⟨v3,_,rfl,h3,h⟩:=h.step
 obtain⟨v4,_,rfl,h4,h⟩:=h.step
 obtain rfl:=h.fin
 obtain⟨n0,rfl,_⟩:=h0.int
 obtain⟨n1,rfl,_⟩:=h1.int
 obtain⟨n2,rfl,_⟩:=h2.int
 obtain⟨n3,rfl,_⟩:=h3.int
 obtain⟨n4,rfl,_⟩:=h4.int
 exact⟨⟨n0,n1,n2,n3,n4⟩,rfl⟩
def Qc.tv (q:Qc):Tv:= .r [.i q.view, .i q.height,A9 q.block,A9 q.bits,wq q.tags]
theorem Qc.enc (q:Qc):enc Fi q.tv=q.c:=by simp only[Qc.tv,eh,bW,cG,d7,f7,dZ,Qc.c,List.cons_append,List.nil_append]
theorem Qc.ex {v:Tv} (h:aG Fi v):∃q:Qc,v=q.tv:=by
 obtain⟨vs,rfl,h⟩:=h.st
 obtain⟨v0,_,rfl,h0,h⟩:=h.step
 obtain⟨v1,_,rfl,h1,h⟩:=h.step
 obtain⟨v2,_,rfl,h2,h⟩:=h.step
 obtain⟨v3,_,rfl,h3,h⟩:=h.step
 obtain⟨v4,_,rfl,h4,h⟩:=h.step
 obtain rfl:=h.fin
 obtain⟨n0,rfl,_⟩:=h0.int
 obtain⟨n1,rfl,_⟩:=h1.int
 obtain⟨n2,rfl⟩:=f8 h2
 obtain⟨n3,rfl⟩:=f8 h3
 obtain⟨n4,rfl⟩:=Dq h4
 exact⟨⟨n0,n1,n2,n3,n4⟩,rfl⟩
theorem Qc.of {q:Qc} (h:aG Fi q.tv) (hw:wt q.tv≤1048576):q.wc:=by
 simp only[Qc.tv,fY,cH,ok_int]at h
 simp only[Qc.tv,wt,xN]at hw
 obtain⟨h0,h1,_⟩:=h
 have h4:=Gs (l:=q.tags) (by omega)
 exact⟨⟨dz h0,dz h1,rB (by omega),rB (by omega),h4.1⟩,h4.2⟩
theorem Qc.rs (q:Qc):Eh q.o (Go.Eng.enc Fi q.tv):=by
 rw[Qc.enc]
 simp only[Qc.o,Qc.c,Eh,D.leaf,and_self]
def Head.tv (h:Head):Tv:= .r [.i h.view, .i h.height, .i h.proposer,A9 h.parent,A9 h.root,h.qc.tv]
theorem Head.enc (h:Head):enc df h.tv=h.c:=by simp only[Head.tv,Qc.enc,eh,bW,cG,d7,f7,dZ,Head.c,Qc.c,List.cons_append,List.nil_append]
theorem Head.ex {v:Tv} (h:aG df v):∃q:Head,v=q.tv:=by
 obtain⟨vs,rfl,h⟩:=h.st
 obtain⟨v0,_,rfl,h0,h⟩:=h.step
 obtain⟨v1,_,rfl,h1,h⟩:=h.step
 obtain⟨v2,_,rfl,h2,h⟩:=h.step
 obtain⟨v3,_,rfl,h3,h⟩:=h.step
 obtain⟨v4,_,rfl,h4,h⟩:=h.step
 obtain⟨v5,_,rfl,h5,h⟩:=h.step
 obtain rfl:=h.fin
 obtain⟨n0,rfl,_⟩:=h0.int
 obtain⟨n1,rfl,_⟩:=h1.int
 obtain⟨n2,rfl,_⟩:=h2.int
 obtain⟨n3,rfl⟩:=f8 h3
 obtain⟨n4,rfl⟩:=f8 h4
 obtain⟨n5,rfl⟩:=Qc.ex h5
 exact⟨⟨n0,n1,n2,n3,n4,n5⟩,rfl⟩
theorem Head.of {q:Head} (h:aG df q.tv) (hw:wt q.tv≤1048576):q.wc:=by
 simp only[Head.tv,fY,cH]at h
 simp only[Head.tv,wt,xN]at hw
 obtain⟨h0,h1,h2,_,_,h5,_⟩:=h
 have h4:=Qc.of h5 (by omega)
 exact⟨⟨dz (ok_int.1 h0),dz (ok_int.1 h1),dz (ok_int.1 h2),rB (by omega),rB (by omega),h4.1⟩,h4.2⟩
theorem Head.rs (q:Head):Eh q.o (Go.Eng.enc df q.tv):=by
 rw[Head.enc]
 simp only[Head.o,Head.c,Eh,D.leaf,and_self]
def xu (l:List Head):Tv:= .l (l.map Head.tv)
theorem yv (l:List Head):enc (.sl df) (xu l)= [.sl (fT l)]:=by
 simp only[xu,Ed,List.map_map,fT]
 congr 2
 exact List.map_congr_left fun x _=>Head.enc x
theorem yi {v:Tv} (h:aG (.sl df) v):∃l,v=xu l:=by
 obtain⟨xs,rfl,_,h2⟩:=h.sl
 obtain⟨ys,rfl⟩:=qx (f:=Head.tv) (P:=aG df) (fun v hv=>Head.ex hv) h2
 exact⟨ys,rfl⟩
theorem Dv {l:List Head} (h:aG (.sl df) (xu l)) (hw:wt (xu l)≤1048576):Sz l.length∧∀x∈l,x.wc:=by
 unfold xu at h hw
 rw[JZ]at hw
 have h2:=(Kt.1 h).2
 simp only[List.length_map]at hw
 refine⟨by unfold Sz;omega,fun x hx=>Head.of (h2 _ (List.mem_map_of_mem hx)) ?_⟩
 have:=tE (f:=Head.tv) hx
 omega
def Proof.tv (p:Proof):Tv:= .r [xu p.heads,p.qc.tv]
theorem Proof.enc (p:Proof):enc fZ p.tv=p.c:=by simp only[Proof.tv,Qc.enc,yv,eh,bW,cG,d7,Proof.c,Qc.c,List.cons_append,List.nil_append]
theorem Proof.ex {v:Tv} (h:aG fZ v):∃q:Proof,v=q.tv:=by
 obtain⟨vs,rfl,h⟩:=h.st
 obtain⟨v0,_,rfl,h0,h⟩:=h.step
 obtain⟨v1,_,rfl,h1,h⟩:=h.step
 obtain rfl:=h.fin
 obtain⟨n0,rfl⟩:=yi h0
 obtain⟨n1,rfl⟩:=Qc.ex h1
 exact⟨⟨n0,n1⟩,rfl⟩
theorem Proof.of {q:Proof} (h:aG fZ q.tv) (hw:wt q.tv≤1048576):q.wf∧(∀h∈q.heads,h.wc)∧q.qc.wc:=by
 simp only[Proof.tv,fY,cH]at h
 simp only[Proof.tv,wt,xN]at hw
 obtain⟨h0,h1,_⟩:=h
 have h4:=Qc.of h1 (by omega)
 have h5:=Dv h0 (by omega)
 exact⟨⟨⟨h5.1,fun h hh=>(h5.2 h hh).1⟩,h4.1⟩,h5.2,h4⟩
end Go.Eng.F
namespace Go.Eng.F
open Go.Eng.U (Fi df cO fZ EU mQ)
theorem Je {l:List Head} {i:Nat} (h:i < l.length):fT (l.take i)++ [l[i].c]=fT (l.take (i+1)):=by
 have e:fT (l.take (i+1))=fT (l.take i)++fT [l[i]]:=by
  rw[List.take_add_one,List.getElem?_eq_getElem h];exact List.map_append
 rw[e];rfl
abbrev lp:Nat:=320
def mg:AF:=⟨1,5,[.tmp 2],(.seq (.ops [.i (.mov 2 (.c (.val false [.nils])))]) (.seq (.ops [.i (.bse 6),qm 3 6]) (.seq (.seq (.ops [qm 7 0,qn 8 7, .i (.mov 9 (qi 0))]) (.block 0 (.loop [18,17,16,15,14,13,12,11,10,5] (.seq (.ops [qd 10 .lss 9 8]) (.seq (.cond (.s 10) .skip (.exit 0)) (.seq (.block 1 (.seq (.ops [.i (.iad 11 (.s 7) (.s 9) 10), .i (.ldh 12 (.s 11) 10 true), .i (.lal 5 qz),qs 5 5 12 10]) (.ops [qm 13 3,ql 14 5 5 10 true,qk 16 267 14, .i (.lsl 16 10 1 qz [(0,10,(.s 15))]), .i (.app 17 45 10 160 (.s 13) (.s 16)),qm 3 17]))) (.ops [.i (.bin 18 .add (.s 9) (qi 1)),qm 9 18]))))))) (.seq (.ops [qm 19 3,qm 2 19]) .ret))))⟩
theorem xj:cd lp=some mg:=by kernel_rfl
theorem EV (l:List Head) (h0:Sz l.length) (hw:∀h∈l,h.wc):VC cd lp (aH [(false,[.sl (fT l)])]) (fun rs _=>rs= [(false,[.o true (some (45,10)) (fT l)])]):=by
 simp only[Sz]at h0
 refine aa xj rfl ?_
 simp(disch:=omega) [mg,dq,VY]
 refine bd (σ:=Nat×Nat) (f1:=_) (es0:=_) (by simp(disch:=omega) [VY];rfl) (by simp(disch:=omega) [VY];rfl) (fun p=> [(9, .val false [.int .i64 p.1]),(3, .val false [.ow 6 p.2])]) (fun p=> [(6, .sl p.2 true true (some (45,10)) (fT (l.take p.1)))])
  (fun p g=>g+p.1=l.length) (0,1) l.length (by simp(disch:=omega) [VY]) (by simp(disch:=omega) [fT,VY]) (by omega) ?_
 rintro⟨i,v⟩ n g hg
 simp only at hg
 simp(disch:=omega) [VY]
 refine ab (fun h1=> ?_) (fun h1=> ?_)
 ·have hx:i < l.length:=by omega
  simp(disch:=omega) [kF hx,Head.c,VY]
  refine ah (kr l[i] (hw _ (List.getElem_mem hx))) rfl rfl ?_
  have hl:(fT (l.take i)).length=i:=by rw[dq];simp;omega
  have hs:=Je hx
  simp only[Head.c]at hs
  simp(disch:=omega) [hl,Head.o,hs,VY]
  exact⟨i+1,n+10,g - 1,by omega,by omega,⟨by omega,by omega⟩,by omega,rfl⟩
 ·simp(disch:=omega) [VY]
  have:i=l.length:=by omega
  subst this
  rw[List.take_length]
def Proof.wc (p:Proof):Prop:=p.wf∧(∀h∈p.heads,h.wc)∧p.qc.wc
def Proof.o (p:Proof):List E:= [.o true (some (45,10)) (fT p.heads), .p (.int .i64 p.qc.view), .p (.int .i64 p.qc.height), .o true (some (5,1)) (bytes p.qc.block), .o true (some (5,1)) (bytes p.qc.bits), .o true (some (22,1)) (bz p.qc.tags)]
abbrev nc:Nat:=272
def mK:AF:=⟨1,4,[.cell 2 6 true],(.seq (.ops [.i (.lbox 1 (.s 0)), .i (.lal 2 [.nils, .int .i64 0, .int .i64 0, .nils, .nils, .nils])]) (.seq (.ops [qf 3 1 0,ql 4 1 3 1 false,qk 6 320 4,qf 6 1 1,ql 7 1 6 5 true,qk 9 264 7, .i (.bld 9 [.nils, .int .i64 0, .int .i64 0, .nils, .nils, .nils] [(0,1,(.s 5)),(1,5,(.s 8))]),qs 2 2 9 6]) .ret))⟩
theorem zF:cd nc=some mK:=by kernel_rfl
theorem G7 (p:Proof) (hw:p.wc):VC cd nc (aH [(true,p.c)]) (fun rs _=>rs= [(true,p.o)]):=by
 refine aa zF rfl ?_
 simp(disch:=omega) [mK,Proof.c,VY]
 refine ah (EV p.heads hw.1.1.1 hw.2.1) rfl rfl ?_
 simp(disch:=omega) [VY]
 refine ah (sH p.qc hw.2.2) rfl rfl ?_
 simp(disch:=omega) [Proof.o,Qc.o,VY]
def j0 (p:Proof):List (Bool×List E):= [(true,[.p (.int .i64 6), .p (.int .i64 0), .p (.int .i64 0), .p .nils, .p (.int .i64 0), .p .nils, .p (.int .i64 0), .p (.int .i64 0), .p .nils, .p .nils, .p .nils, .p (.int .i64 0), .p (.int .i64 0), .p (.int .i64 0), .p .nils, .p .nils, .p (.int .i64 0), .p (.int .i64 0), .p .nils, .p .nils, .p .nils, .p (.int .i64 0), .p (.int .i64 0), .p (.int .i64 0), .p .nils, .p .nils, .p (.int .i64 0), .p (.int .i64 0), .p .nils, .p .nils, .p .nils, .p .nils, .p (.int .i64 0), .p .nils, .o true (some (45,10)) (fT p.heads), .p (.int .i64 p.qc.view), .p (.int .i64 p.qc.height), .o true (some (5,1)) (bytes p.qc.block), .o true (some (5,1)) (bytes p.qc.bits), .o true (some (22,1)) (bz p.qc.tags), .p (.int .i64 0), .p (.int .i64 0), .p (.int .i64 0), .p .nils, .p .nils])]
abbrev nA:Nat:=192
def pC:AF:=⟨1,3,[.cell 2 45 true],(.seq (.ops [.i (.lbox 1 (.s 0)), .i (.lal 2 [.int .i64 0, .int .i64 0, .int .i64 0, .nils, .int .i64 0, .nils, .int .i64 0, .int .i64 0, .nils, .nils, .nils, .int .i64 0, .int .i64 0, .int .i64 0, .nils, .nils, .int .i64 0, .int .i64 0, .nils, .nils, .nils, .int .i64 0, .int .i64 0, .int .i64 0, .nils, .nils, .int .i64 0, .int .i64 0, .nils, .nils, .nils, .nils, .int .i64 0, .nils, .nils, .int .i64 0, .int .i64 0, .nils, .nils, .nils, .int .i64 0, .int .i64 0, .int .i64 0, .nils, .nils])]) (.seq (.ops [ql 3 1 1 6 true,qk 5 272 3, .i (.bld 5 [.int .i64 0, .int .i64 0, .int .i64 0, .nils, .int .i64 0, .nils, .int .i64 0, .int .i64 0, .nils, .nils, .nils, .int .i64 0, .int .i64 0, .int .i64 0, .nils, .nils, .int .i64 0, .int .i64 0, .nils, .nils, .nils, .int .i64 0, .int .i64 0, .int .i64 0, .nils, .nils, .int .i64 0, .int .i64 0, .nils, .nils, .nils, .nils, .int .i64 0, .nils, .nils, .int .i64 0, .int .i64 0, .nils, .nils, .nils, .int .i64 0, .int .i64 0, .int .i64 0, .nils, .nils] [(0,1,(qi 6)),(34,6,(.s 4))]),qs 2 2 5 45]) .ret))⟩
theorem As:cd nA=some pC:=by kernel_rfl
theorem ly (p:Proof) (hw:p.wc):VC cd nA (aH [(true,p.c)]) (fun rs _=>rs=j0 p):=by
 refine aa As rfl ?_
 simp(disch:=omega) [pC,Proof.c,VY]
 refine ah (G7 p hw) rfl rfl ?_
 simp(disch:=omega) [j0,Proof.o,VY]
theorem Proof.P1 {q:Proof} (h:aG fZ q.tv) (hw:wt q.tv≤1048576):q.wc:=Proof.of h hw
structure Block where
 head:Head
 txs:List Bytes
def Block.c (x:Block):List D:=x.head.c++ [.sl (bz x.txs)]
def Block.wc (x:Block):Prop:=x.head.wc∧oE x.txs
def Block.o (x:Block):List E:= [.p (.int .i64 x.head.view), .p (.int .i64 x.head.height), .p (.int .i64 x.head.proposer), .o true (some (5,1)) (bytes x.head.parent), .o true (some (5,1)) (bytes x.head.root), .p (.int .i64 x.head.qc.view), .p (.int .i64 x.head.qc.height), .o true (some (5,1)) (bytes x.head.qc.block), .o true (some (5,1)) (bytes x.head.qc.bits), .o true (some (22,1)) (bz x.head.qc.tags), .o true (some (22,1)) (bz x.txs)]
abbrev oo:Nat:=268
def nB:AF:=⟨1,4,[.cell 2 11 true],(.seq (.ops [.i (.lbox 1 (.s 0)), .i (.lal 2 [.int .i64 0, .int .i64 0, .int .i64 0, .nils, .nils, .int .i64 0, .int .i64 0, .nils, .nils, .nils, .nils])]) (.seq (.ops [qf 3 1 0,ql 4 1 3 10 true,qk 6 267 4,qf 6 1 10,ql 7 1 6 1 false,qk 9 316 7, .i (.bld 9 [.int .i64 0, .int .i64 0, .int .i64 0, .nils, .nils, .int .i64 0, .int .i64 0, .nils, .nils, .nils, .nils] [(0,10,(.s 5)),(10,1,(.s 8))]),qs 2 2 9 11]) .ret))⟩
theorem z4:cd oo=some nB:=by kernel_rfl
theorem Hj (x:Block) (hw:x.wc):VC cd oo (aH [(true,x.c)]) (fun rs _=>rs= [(true,x.o)]):=by
 refine aa z4 rfl ?_
 simp(disch:=omega) [nB,Block.c,Head.c,List.cons_append,List.nil_append,VY]
 refine ah (kr x.head hw.1) rfl rfl ?_
 simp(disch:=omega) [Head.o,VY]
 refine ah (ke x.txs hw.2) rfl rfl ?_
 simp(disch:=omega) [Block.o,VY]
def iY (x:Block):List (Bool×List E):= [(true,[.p (.int .i64 4), .p (.int .i64 0), .p (.int .i64 0), .p .nils, .p (.int .i64 0), .p .nils, .p (.int .i64 0), .p (.int .i64 0), .p .nils, .p .nils, .p .nils, .p (.int .i64 0), .p (.int .i64 0), .p (.int .i64 0), .p .nils, .p .nils, .p (.int .i64 0), .p (.int .i64 0), .p .nils, .p .nils, .p .nils, .p (.int .i64 x.head.view), .p (.int .i64 x.head.height), .p (.int .i64 x.head.proposer), .o true (some (5,1)) (bytes x.head.parent), .o true (some (5,1)) (bytes x.head.root), .p (.int .i64 x.head.qc.view), .p (.int .i64 x.head.qc.height), .o true (some (5,1)) (bytes x.head.qc.block), .o true (some (5,1)) (bytes x.head.qc.bits), .o true (some (22,1)) (bz x.head.qc.tags), .o true (some (22,1)) (bz x.txs), .p (.int .i64 0), .p .nils, .p .nils, .p (.int .i64 0), .p (.int .i64 0), .p .nils, .p .nils, .p .nils, .p (.int .i64 0), .p (.int .i64 0), .p (.int .i64 0), .p .nils, .p .nils])]
abbrev mJ:Nat:=188
def n8:AF:=⟨1,3,[.cell 2 45 true],(.seq (.ops [.i (.lbox 1 (.s 0)), .i (.lal 2 [.int .i64 0, .int .i64 0, .int .i64 0, .nils, .int .i64 0, .nils, .int .i64 0, .int .i64 0, .nils, .nils, .nils, .int .i64 0, .int .i64 0, .int .i64 0, .nils, .nils, .int .i64 0, .int .i64 0, .nils, .nils, .nils, .int .i64 0, .int .i64 0, .int .i64 0, .nils, .nils, .int .i64 0, .int .i64 0, .nils, .nils, .nils, .nils, .int .i64 0, .nils, .nils, .int .i64 0, .int .i64 0, .nils, .nils, .nils, .int .i64 0, .int .i64 0, .int .i64 0, .nils, .nils])]) (.seq (.ops [ql 3 1 1 11 true,qk 5 268 3, .i (.bld 5 [.int .i64 0, .int .i64 0, .int .i64 0, .nils, .int .i64 0, .nils, .int .i64 0, .int .i64 0, .nils, .nils, .nils, .int .i64 0, .int .i64 0, .int .i64 0, .nils, .nils, .int .i64 0, .int .i64 0, .nils, .nils, .nils, .int .i64 0, .int .i64 0, .int .i64 0, .nils, .nils, .int .i64 0, .int .i64 0, .nils, .nils, .nils, .nils, .int .i64 0, .nils, .nils, .int .i64 0, .int .i64 0, .nils, .nils, .nils, .int .i64 0, .int .i64 0, .int .i64 0, .nils, .nils] [(0,1,(qi 4)),(21,11,(.s 4))]),qs 2 2 5 45]) .ret))⟩
theorem yC:cd mJ=some n8:=by kernel_rfl
theorem ma (x:Block) (hw:x.wc):VC cd mJ (aH [(true,x.c)]) (fun rs _=>rs=iY x):=by
 refine aa yC rfl ?_
 simp(disch:=omega) [n8,Block.c,Head.c,List.cons_append,List.nil_append,VY]
 refine ah (Hj x hw) rfl rfl ?_
 simp(disch:=omega) [iY,Block.o,VY]
def Block.tv (x:Block):Tv:= .r [x.head.tv,wq x.txs]
theorem Block.enc (x:Block):enc mQ x.tv=x.c:=by simp only[Block.tv,Head.enc,eh,bW,cG,d7,eK,iF,f7,dZ,fU,Block.c,Head.c,Head.c,Qc.c,List.cons_append,List.nil_append,List.append_assoc]
theorem Block.ex {v:Tv} (h:aG mQ v):∃x:Block,v=x.tv:=by
 obtain⟨vs,rfl,h⟩:=h.st
 obtain⟨v0,_,rfl,h0,h⟩:=h.step
 obtain⟨v1,_,rfl,h1,h⟩:=h.step
 obtain rfl:=h.fin
 obtain⟨n0,rfl⟩:=Head.ex h0
 obtain⟨n1,rfl⟩:=Dq h1
 exact⟨⟨n0,n1⟩,rfl⟩
theorem Block.of {x:Block} (h:aG mQ x.tv) (hw:wt x.tv≤1048576):x.wc:=by
 simp only[Block.tv,fY,cH]at h
 simp only[Block.tv,wt,xN]at hw
 obtain⟨h0,h1,_⟩:=h
 exact⟨Head.of h0 (by omega),Gs (by omega)⟩
theorem Block.P1 {q:Block} (h:aG mQ q.tv) (hw:wt q.tv≤1048576):q.wc:=Block.of h hw
end Go.Eng.F
namespace Go.Eng.F
structure cJ where
 l:aj
 heads:List Head
def cJ.c (f:cJ):List D:=f.l.c++ [.sl (fT f.heads)]
def cJ.wf (f:cJ):Prop:=Eg f.heads
def cJ.wc (f:cJ):Prop:=Sz f.heads.length∧∀h∈f.heads,h.wc
theorem cJ.wc.wf {f:cJ} (h:f.wc):f.wf:=⟨h.1,fun x hx=>(h.2 x hx).1⟩
def hh (l:aj) (hs:List Head) (i:Nat):Bytes:=match hs[i]? with|some h=>lO l h|none=> []
theorem ag:bytes []= []:=rfl
def cJ.o (f:cJ):List E:= [.p (.int .i64 f.l.n), .p (.int .i64 f.l.tx), .p (.int .i64 f.l.txs), .p (.int .i64 f.l.frame), .p (.int .i64 f.l.heads), .o true (some (45,10)) (fT f.heads)]
end Go.Eng.F
