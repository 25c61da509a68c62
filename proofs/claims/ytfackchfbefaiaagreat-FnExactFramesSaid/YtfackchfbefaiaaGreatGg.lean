import Derived.Test.YtfackchfbefaiaaGreatProg
import Derived.KernelRfl
import Derived.Test.YtfackchfbefaiaaGreatGe
set_option maxRecDepth 100000
set_option linter.unusedSimpArgs false
set_option linter.unusedVariables false
namespace Go.Eng.F
def qi (n:Int):X:= .c (.val false [.int .i64 n])
def qb (b:Bool):X:= .c (.val false [.bool b])
def qm (a b:Nat):IT:= .i (.mov a (.s b))
def qf (a b n:Nat):IT:= .i (.fad a (.s b) n)
def ql (a b c n:Nat) (g:Bool):IT:= .i (.ldl a b (.s c) n g)
def qs (a b c n:Nat):IT:= .i (.stl a (.s b) (.s c) n)
def qn (a b:Nat):IT:= .i (.len a false (.s b))
def qd (a:Nat) (o:B2) (b c:Nat):IT:= .i (.bin a o (.s b) (.s c))
def qk (a b c:Nat):IT:= .i (.call a b false [(.s c)])
def qz:List C:= [.int .i64 0, .int .i64 0, .int .i64 0, .nils, .nils, .int .i64 0, .int .i64 0, .nils, .nils, .nils]
theorem VY:type_of% (And.intro @VW (And.intro @qi.eq_1 (And.intro @qb.eq_1 (And.intro @qm.eq_1 (And.intro @qf.eq_1 (And.intro @ql.eq_1 (And.intro @qs.eq_1 (And.intro @qn.eq_1 (And.intro @qd.eq_1 (And.intro @qk.eq_1 @qz.eq_1)))))))))):=And.intro @VW (And.intro @qi.eq_1 (And.intro @qb.eq_1 (And.intro @qm.eq_1 (And.intro @qf.eq_1 (And.intro @ql.eq_1 (And.intro @qs.eq_1 (And.intro @qn.eq_1 (And.intro @qd.eq_1 (And.intro @qk.eq_1 @qz.eq_1)))))))))
theorem VZ:type_of% (And.intro @VY @VQ):=And.intro @VY @VQ
noncomputable abbrev cd:=code Proofs.Tryz.prog
def cS (l:List Bytes):List (List D):=l.map fun x=> [.sl (bytes x)]
theorem aw (l:List Bytes):(cS l).length=l.length:=by simp[cS]
theorem cT {l:List Bytes} {i:Nat} (h:i < l.length):(cS l)[i]? =some [.sl (bytes l[i])]:=by simp[cS,h]
theorem jN {x:Bytes} {i:Nat} (h:i < x.length):(bytes x)[i]? =some [.int .u8 (x[i].toNat:Int)]:=by simp[bytes,h]
theorem gV {α:Type} {p:α→Prop} {l:List α} {i:Nat} (h:∀x∈l.take i,p x) (hi:i < l.length) (hx:p l[i]):∀x∈l.take (i+1),p x:=by
 intro x hm
 rw[List.take_add_one,List.getElem?_eq_getElem hi]at hm
 rcases List.mem_append.1 hm with hm|hm
 ·exact h x hm
 ·simp at hm;subst hm;exact hx
def eb (n lo hi:Int):Bool:=decide (lo≤n∧n≤hi)
abbrev rI:Nat:=103
def qj:AF:=⟨3,4,[.tmp 6],(.seq (.ops [.i (.mov 6 (qb false))]) (.seq (.ops [qm 7 1,qm 8 0,qd 9 .leq 7 8,qm 10 9, .g 10 true 12 (.mov 11 (.s 0)), .g 10 true 13 (.mov 12 (.s 2)), .g 10 true 14 (.bin 13 .leq (.s 11) (.s 12)), .i (.pick 14 (.s 10) (.s 13) (qb false)),qm 6 14]) .ret))⟩
theorem Ap:cd rI=some qj:=by kernel_rfl
theorem aQ (n lo hi:Int):VC cd rI (aJ [(false,[.int .i64 n]),(false,[.int .i64 lo]),(false,[.int .i64 hi])]) (fun rs _=>rs=bl (eb n lo hi)):=by
 refine aa Ap rfl ?_
 simp(disch:=omega) [qj,VY]
 refine ab (fun h1=> ?_) (fun h1=> ?_) <;>simp(disch:=omega) [h1,eb,VY]
abbrev sW:Nat:=67
def sQ:AF:=⟨3,4,[.tmp 6],(.seq (.ops [.i (.mov 6 (qb false))]) (.seq (.ops [qm 7 0,qm 8 1,qd 9 .geq 7 8,qm 10 9, .g 10 true 12 (.mov 11 (.s 0)), .g 10 true 13 (.mov 12 (.s 2)), .g 10 true 14 (.bin 13 .leq (.s 11) (.s 12)), .i (.pick 14 (.s 10) (.s 13) (qb false)),qm 6 14]) .ret))⟩
theorem Df:cd sW=some sQ:=by kernel_rfl
theorem bq (n lo hi:Int):VC cd sW (aJ [(false,[.int .i64 n]),(false,[.int .i64 lo]),(false,[.int .i64 hi])]) (fun rs _=>rs=bl (eb n lo hi)):=by
 refine aa Df rfl ?_
 simp(disch:=omega) [sQ,VY]
 refine ab (fun h1=> ?_) (fun h1=> ?_) <;>simp(disch:=omega) [h1,eb,VY]
structure ax where
 n:Int
 tx:Int
 txs:Int
 frame:Int
 heads:Int
def ax.c (l:ax):List D:= [.int .i64 l.n, .int .i64 l.tx, .int .i64 l.txs, .int .i64 l.frame, .int .i64 l.heads]
def ax.ok (l:ax):Bool:=eb l.n 1 10 && eb l.tx 0 40 && eb l.txs 0 8 && eb l.frame 1 4000 && eb l.heads 3 5
abbrev kZ:Nat:=70
def lG:AF:=⟨1,5,[.tmp 2],(.seq (.ops [.i (.lbox 1 (.s 0)), .i (.mov 2 (qb false))]) (.seq (.ops [qf 3 1 0,ql 4 1 3 1 false, .i (.call 6 103 false [(.s 4),(qi 1),(qi 10)]),qm 6 5, .g 6 true 8 (.fad 7 (.s 1) 1), .g 6 true 9 (.ldl 8 1 (.s 7) 1 false), .g 6 true 10 (.call 10 103 false [(.s 8),(qi 0),(qi 40)]), .i (.pick 10 (.s 6) (.s 9) (qb false)),qm 11 10, .g 11 true 13 (.fad 12 (.s 1) 2), .g 11 true 14 (.ldl 13 1 (.s 12) 1 false), .g 11 true 15 (.call 15 103 false [(.s 13),(qi 0),(qi 8)]), .i (.pick 15 (.s 11) (.s 14) (qb false)),qm 16 15, .g 16 true 18 (.fad 17 (.s 1) 3), .g 16 true 19 (.ldl 18 1 (.s 17) 1 false), .g 16 true 20 (.call 20 103 false [(.s 18),(qi 1),(qi 4000)]), .i (.pick 20 (.s 16) (.s 19) (qb false)),qm 21 20, .g 21 true 23 (.fad 22 (.s 1) 4), .g 21 true 24 (.ldl 23 1 (.s 22) 1 false), .g 21 true 25 (.call 25 103 false [(.s 23),(qi 3),(qi 5)]), .i (.pick 25 (.s 21) (.s 24) (qb false)),qm 2 25]) .ret))⟩
theorem wJ:cd kZ=some lG:=by kernel_rfl
theorem cM (l:ax):VC cd kZ (aJ [(true,l.c)]) (fun rs _=>rs=bl l.ok):=by
 refine aa wJ rfl ?_
 simp(disch:=omega) [lG,ax.c,VY]
 refine ah (aQ _ _ _) rfl rfl ?_
 simp(disch:=omega) [VY]
 refine ak (fun h1=> ?_) (fun h1=> ?_) <;>simp(disch:=omega) [h1,ax.ok,VY]
 refine ah (aQ _ _ _) rfl rfl ?_
 simp(disch:=omega) [h1,VY]
 refine ak (fun h2=> ?_) (fun h2=> ?_) <;>simp(disch:=omega) [h1,h2,VY]
 refine ah (aQ _ _ _) rfl rfl ?_
 simp(disch:=omega) [h1,h2,VY]
 refine ak (fun h3=> ?_) (fun h3=> ?_) <;>simp(disch:=omega) [h1,h2,h3,VY]
 refine ah (aQ _ _ _) rfl rfl ?_
 simp(disch:=omega) [h1,h2,h3,VY]
 refine ak (fun h4=> ?_) (fun h4=> ?_) <;>simp(disch:=omega) [h1,h2,h3,h4,VY]
 refine ah (aQ _ _ _) rfl rfl ?_
 simp(disch:=omega) [h1,h2,h3,h4,VY]
abbrev iD:Nat:=118
def ik:AF:=⟨1,3,[.tmp 2],(.seq (.ops [.i (.mov 2 (qb false))]) (.seq (.ops [qm 3 0, .i (.call 5 67 false [(.s 3),(qi 1),(qi 10)]),qm 2 4]) .ret))⟩
theorem ti:cd iD=some ik:=by kernel_rfl
theorem gR (n:Int):VC cd iD (aJ [(false,[.int .i64 n])]) (fun rs _=>rs=bl (eb n 1 10)):=by
 refine aa ti rfl ?_
 simp(disch:=omega) [ik,VY]
 refine ah (bq _ _ _) rfl rfl ?_
 simp(disch:=omega) [VY]
abbrev lW:Nat:=66
def kv:AF:=⟨1,5,[.tmp 2],(.seq (.ops [.i (.lbox 1 (.s 0)), .i (.mov 2 (qb false))]) (.seq (.ops [qf 3 1 0,ql 4 1 3 1 false,qk 6 118 4,qm 6 5, .g 6 true 8 (.fad 7 (.s 1) 1), .g 6 true 9 (.ldl 8 1 (.s 7) 1 false), .g 6 true 10 (.call 10 67 false [(.s 8),(qi 0),(qi 40)]), .i (.pick 10 (.s 6) (.s 9) (qb false)),qm 11 10, .g 11 true 13 (.fad 12 (.s 1) 2), .g 11 true 14 (.ldl 13 1 (.s 12) 1 false), .g 11 true 15 (.call 15 67 false [(.s 13),(qi 0),(qi 8)]), .i (.pick 15 (.s 11) (.s 14) (qb false)),qm 16 15, .g 16 true 18 (.fad 17 (.s 1) 3), .g 16 true 19 (.ldl 18 1 (.s 17) 1 false), .g 16 true 20 (.call 20 67 false [(.s 18),(qi 1),(qi 4000)]), .i (.pick 20 (.s 16) (.s 19) (qb false)),qm 21 20, .g 21 true 23 (.fad 22 (.s 1) 4), .g 21 true 24 (.ldl 23 1 (.s 22) 1 false), .g 21 true 25 (.call 25 67 false [(.s 23),(qi 3),(qi 5)]), .i (.pick 25 (.s 21) (.s 24) (qb false)),qm 2 25]) .ret))⟩
theorem xv:cd lW=some kv:=by kernel_rfl
theorem bO (l:ax):VC cd lW (aJ [(true,l.c)]) (fun rs _=>rs=bl l.ok):=by
 refine aa xv rfl ?_
 simp(disch:=omega) [kv,ax.c,VY]
 refine ah (gR _) rfl rfl ?_
 simp(disch:=omega) [VY]
 refine ak (fun h1=> ?_) (fun h1=> ?_) <;>simp(disch:=omega) [h1,ax.ok,VY]
 refine ah (bq _ _ _) rfl rfl ?_
 simp(disch:=omega) [h1,VY]
 refine ak (fun h2=> ?_) (fun h2=> ?_) <;>simp(disch:=omega) [h1,h2,VY]
 refine ah (bq _ _ _) rfl rfl ?_
 simp(disch:=omega) [h1,h2,VY]
 refine ak (fun h3=> ?_) (fun h3=> ?_) <;>simp(disch:=omega) [h1,h2,h3,VY]
 refine ah (bq _ _ _) rfl rfl ?_
 simp(disch:=omega) [h1,h2,h3,VY]
 refine ak (fun h4=> ?_) (fun h4=> ?_) <;>simp(disch:=omega) [h1,h2,h3,h4,VY]
 refine ah (bq _ _ _) rfl rfl ?_
 simp(disch:=omega) [h1,h2,h3,h4,VY]
def isNum (n:Int):Bool:=eb n 0 1152921504606846975
abbrev sC:Nat:=81
def tJ:AF:=⟨1,3,[.tmp 2],(.seq (.ops [.i (.mov 2 (qb false))]) (.seq (.ops [qm 3 0, .i (.call 5 103 false [(.s 3),(qi 0),(qi 1152921504606846975)]),qm 2 4]) .ret))⟩
theorem Cy:cd sC=some tJ:=by kernel_rfl
theorem fb (n:Int):VC cd sC (aJ [(false,[.int .i64 n])]) (fun rs _=>rs=bl (isNum n)):=by
 refine aa Cy rfl ?_
 simp(disch:=omega) [tJ,VY]
 refine ah (aQ _ _ _) rfl rfl ?_
 simp(disch:=omega) [isNum,VY]
abbrev pW:Nat:=78
def qW:AF:=⟨1,3,[.tmp 2],(.seq (.ops [.i (.mov 2 (qb false))]) (.seq (.ops [qm 3 0, .i (.call 5 67 false [(.s 3),(qi 0),(qi 1152921504606846975)]),qm 2 4]) .ret))⟩
theorem AP:cd pW=some qW:=by kernel_rfl
theorem eJ (n:Int):VC cd pW (aJ [(false,[.int .i64 n])]) (fun rs _=>rs=bl (isNum n)):=by
 refine aa AP rfl ?_
 simp(disch:=omega) [qW,VY]
 refine ah (bq _ _ _) rfl rfl ?_
 simp(disch:=omega) [isNum,VY]
def hash (x:Bytes):Bool:=x.length==32
def hashes (l:List Bytes):Bool:=l.all hash
theorem B3 {l:List Bytes} (h:∀x∈l.take l.length,hash x=true):hashes l=true:=by
 rw[List.take_length]at h
 simpa[hashes]using h
theorem BI {l:List Bytes} {i:Nat} (hi:i < l.length) (h:hash l[i]=false):hashes l=false:=by
 simp only[hashes,List.all_eq_false]
 exact⟨l[i],List.getElem_mem hi,by simp[h]⟩
abbrev iV:Nat:=295
def ja:AF:=⟨1,4,[.tmp 2],(.seq (.ops [.i (.mov 2 (qb false))]) (.seq (.seq (.ops [qm 5 0,qn 6 5, .i (.mov 7 (qi 0))]) (.block 0 (.loop [14,13,12,11,10,9,8,4] (.seq (.ops [qd 8 .lss 7 6]) (.seq (.cond (.s 8) .skip (.exit 0)) (.seq (.block 1 (.seq (.ops [.i (.iad 9 (.s 5) (.s 7) 1), .i (.ldh 10 (.s 9) 1 false),qm 4 10]) (.seq (.ops [qm 11 4,qn 12 11, .i (.bin 13 .neq (.s 12) (qi 32))]) (.cond (.s 13) (.seq (.ops [.i (.mov 2 (qb false))]) .ret) .skip)))) (.ops [.i (.bin 14 .add (.s 7) (qi 1)),qm 7 14]))))))) (.seq (.ops [.i (.mov 2 (qb true))]) .ret)))⟩
theorem uQ:cd iV=some ja:=by kernel_rfl
theorem cI (l:List Bytes) (hl:l.length≤1099511627776):VC cd iV (aJ [(false,[.sl (cS l)])]) (fun rs _=>rs=bl (hashes l)):=by
 refine aa uQ rfl ?_
 simp(disch:=omega) [ja,aw,VY]
 refine jH (σ:=Nat) (f1:=_) (by simp(disch:=omega) [VY];rfl) (fun i=> [(7, .val false [.int .i64 i])]) (fun _=> []) (fun i g=>g+i=l.length∧∀x∈l.take i,hash x=true) 0 l.length (by simp(disch:=omega) [VY]) trivial ⟨by omega,by simp⟩ ?_
 rintro i n g ⟨hg,hi⟩
 simp(disch:=omega) [aw,VY]
 refine ab (fun h1=> ?_) (fun h1=> ?_)
 ·simp(disch:=omega) [cT h1,VY]
  refine ab (fun h2=> ?_) (fun h2=> ?_)
  ·simp(disch:=omega) [VY]
   exact⟨i+1,g - 1,by omega,⟨by omega,gV hi h1 (by simp[hash];omega)⟩,by simp⟩
  ·simp(disch:=omega) [VY]
   exact BI h1 (by simp[hash];omega)
 ·simp(disch:=omega) [VY]
  have:i=l.length:=by omega
  subst this
  exact B3 hi
abbrev od:Nat:=286
def nz:AF:=⟨1,3,[.tmp 2],(.seq (.ops [.i (.mov 2 (qb false))]) (.seq (.ops [qm 3 0,qn 4 3, .i (.bin 5 .eql (.s 4) (qi 32)),qm 2 5]) .ret))⟩
theorem zX:cd od=some nz:=by kernel_rfl
theorem eB (x:Bytes):VC cd od (aJ [(false,[.sl (bytes x)])]) (fun rs _=>rs=bl (hash x)):=by
 refine aa zX rfl ?_
 simp(disch:=omega) [nz,hash,VY]
 rw[Bool.eq_iff_iff]
 simp only[decide_eq_true_eq,beq_iff_eq]
 omega
abbrev i3:Nat:=288
def jY:AF:=⟨1,4,[.tmp 2],(.seq (.ops [.i (.mov 2 (qb false))]) (.seq (.seq (.ops [qm 5 0,qn 6 5, .i (.mov 7 (qi 0))]) (.block 0 (.loop [14,13,12,11,10,9,8,4] (.seq (.ops [qd 8 .lss 7 6]) (.seq (.cond (.s 8) .skip (.exit 0)) (.seq (.block 1 (.seq (.ops [.i (.iad 9 (.s 5) (.s 7) 1), .i (.ldh 10 (.s 9) 1 false),qm 4 10]) (.seq (.ops [qm 11 4,qk 13 286 11, .i (.not 13 (.s 12))]) (.cond (.s 13) (.seq (.ops [.i (.mov 2 (qb false))]) .ret) .skip)))) (.ops [.i (.bin 14 .add (.s 7) (qi 1)),qm 7 14]))))))) (.seq (.ops [.i (.mov 2 (qb true))]) .ret)))⟩
theorem vw:cd i3=some jY:=by kernel_rfl
theorem sF (l:List Bytes) (hl:l.length≤1099511627776):VC cd i3 (aJ [(false,[.sl (cS l)])]) (fun rs _=>rs=bl (hashes l)):=by
 refine aa vw rfl ?_
 simp(disch:=omega) [jY,aw,VY]
 refine jH (σ:=Nat) (f1:=_) (by simp(disch:=omega) [VY];rfl) (fun i=> [(7, .val false [.int .i64 i])]) (fun _=> []) (fun i g=>g+i=l.length∧∀x∈l.take i,hash x=true) 0 l.length (by simp(disch:=omega) [VY]) trivial ⟨by omega,by simp⟩ ?_
 rintro i n g ⟨hg,hi⟩
 simp(disch:=omega) [aw,VY]
 refine ab (fun h1=> ?_) (fun h1=> ?_)
 ·simp(disch:=omega) [cT h1,VY]
  refine ah (eB _) rfl rfl ?_
  simp(disch:=omega) [VY]
  refine ak (fun h2=> ?_) (fun h2=> ?_)
  ·simp(disch:=omega) [VY]
   exact⟨i+1,g - 1,by omega,⟨by omega,gV hi h1 h2⟩,by simp⟩
  ·simp(disch:=omega) [VY]
   exact BI h1 h2
 ·simp(disch:=omega) [VY]
  have:i=l.length:=by omega
  subst this
  exact B3 hi
def Ln (n:Int):Int:=if n < 1 then 0 else(n - 1) / 8+1
abbrev lA:Nat:=308
def kV:AF:=⟨1,4,[.tmp 2],(.seq (.ops [.i (.mov 2 (qi 0))]) (.seq (.seq (.ops [qm 3 0, .i (.bin 4 .lss (.s 3) (qi 1))]) (.cond (.s 4) (.seq (.ops [.i (.mov 2 (qi 0))]) .ret) .skip)) (.seq (.ops [qm 5 0, .i (.bin 6 .sub (.s 5) (qi 1)), .i (.bin 7 .quo (.s 6) (qi 8)), .i (.bin 8 .add (.s 7) (qi 1)),qm 2 8]) .ret)))⟩
theorem wQ:cd lA=some kV:=by kernel_rfl
theorem uS (n:Int) (h1: -9223372036854775808≤n) (h2:n < 9223372036854775808):VC cd lA (aJ [(false,[.int .i64 n])]) (fun rs _=>rs=it (Ln n)):=by
 refine aa wQ rfl ?_
 simp(disch:=omega) [kV,VY]
 refine ab (fun h3=> ?_) (fun h3=> ?_)
 ·simp(disch:=omega) [Ln,h3,VY]
 ·have e:(n - 1).tdiv 8=(n - 1) / 8:=Int.tdiv_eq_ediv_of_nonneg (by omega)
  simp(disch:=omega) [Ln,e,VY]
  omega
abbrev lB:Nat:=265
def kI:AF:=⟨1,4,[.tmp 2],(.seq (.ops [.i (.mov 2 (qi 0))]) (.seq (.seq (.ops [qm 3 0, .i (.bin 4 .lss (.s 3) (qi 1))]) (.cond (.s 4) (.seq (.ops [.i (.mov 2 (qi 0))]) .ret) .skip)) (.seq (.ops [qm 5 0, .i (.bin 6 .sub (.s 5) (qi 1)), .i (.bin 7 .quo (.s 6) (qi 8)), .i (.bin 8 .add (.s 7) (qi 1)),qm 2 8]) .ret)))⟩
theorem xt:cd lB=some kI:=by kernel_rfl
theorem uH (n:Int) (h1: -9223372036854775808≤n) (h2:n < 9223372036854775808):VC cd lB (aJ [(false,[.int .i64 n])]) (fun rs _=>rs=it (Ln n)):=by
 refine aa xt rfl ?_
 simp(disch:=omega) [kI,VY]
 refine ab (fun h3=> ?_) (fun h3=> ?_)
 ·simp(disch:=omega) [Ln,h3,VY]
 ·have e:(n - 1).tdiv 8=(n - 1) / 8:=Int.tdiv_eq_ediv_of_nonneg (by omega)
  simp(disch:=omega) [Ln,e,VY]
  omega
def dZ (b:Bytes) (i:Nat):Bool:=match b[i / 8]? with|some x=>x.toNat.testBit (i % 8)|none=>false
theorem Jl:∀x < 256,∀s < 8,decide (aF .and .u8 (Int.fdiv (x:Nat) (2 ^ (min s 8))) 1=1)=Nat.testBit x s:=by decide+kernel
theorem IX:∀x < 256,∀s < 8,decide (Int.tmod (Int.fdiv (x:Nat) (2 ^ (min s 64))) 2=1)=Nat.testBit x s:=by decide+kernel
theorem J6 (i:Nat):Int.tdiv (i:Int) 8=((i / 8:Nat):Int):=by rw[Int.tdiv_eq_ediv_of_nonneg (by omega)];omega
theorem NU (i:Nat):Int.tmod (i:Int) 8=((i % 8:Nat):Int):=by rw[Int.tmod_eq_emod_of_nonneg (by omega)];omega
theorem Eg (x:UInt8):x.toNat < 256:=x.toNat_lt
theorem u3 {b:Bytes} {i:Nat} (h:i / 8 < b.length):dZ b i=b[i / 8].toNat.testBit (i % 8):=by simp[dZ,h]
theorem za {b:Bytes} {i:Nat} (h:¬i / 8 < b.length):dZ b i=false:=by
 unfold dZ
 rw[List.getElem?_eq_none (by omega)]
theorem QA (i:Nat):(0:Int)≤(i:Int) / 8∧((i:Int) / 8).toNat=i / 8∧¬(i:Int) % 8 < 0∧((i:Int) % 8).toNat=i % 8:=by omega
abbrev oi:Nat:=324
def og:AF:=⟨2,5,[.tmp 4],(.seq (.ops [.i (.mov 4 (qb false))]) (.seq (.ops [qm 5 1,qm 6 0,qn 7 6, .i (.bin 8 .mul (qi 8) (.s 7)), .i (.bin 9 .sub (.s 8) (qi 1)), .i (.call 11 103 false [(.s 5),(qi 0),(.s 9)]),qm 11 10, .g 11 true 13 (.mov 12 (.s 0)), .g 11 true 14 (.mov 13 (.s 1)), .g 11 true 15 (.bin 14 .quo (.s 13) (qi 8)), .g 11 true 16 (.iad 15 (.s 12) (.s 14) 1), .g 11 true 17 (.ldh 16 (.s 15) 1 false), .g 11 true 18 (.mov 17 (.s 1)), .g 11 true 19 (.bin 18 .rem (.s 17) (qi 8)), .g 11 true 20 (.bin 19 .shr (.s 16) (.s 18)), .g 11 true 21 (.bin 20 .and (.s 19) (.c (.val false [.int .u8 1]))), .g 11 true 22 (.bin 21 .eql (.s 20) (.c (.val false [.int .u8 1]))), .i (.pick 22 (.s 11) (.s 21) (qb false)),qm 4 22]) .ret))⟩
theorem yp:cd oi=some og:=by kernel_rfl
theorem wG (b:Bytes) (i:Nat) (hb:b.length≤1099511627776) (hi:i≤1099511627776):VC cd oi (aJ [(false,[.sl (bytes b)]),(false,[.int .i64 i])]) (fun rs _=>rs=bl (dZ b i)):=by
 refine aa yp rfl ?_
 simp(disch:=omega) [og,VY]
 refine ah (aQ _ _ _) rfl rfl ?_
 simp(disch:=omega) [VY]
 refine ak (fun h1=> ?_) (fun h1=> ?_)
 ·have hx:i / 8 < b.length:=by simp[eb]at h1;omega
  have e:=Jl b[i / 8].toNat (Eg _) (i % 8) (Nat.mod_lt _ (by omega))
  rw[u3 hx,←e]
  simp(disch:=omega) [h1,J6,NU,jN hx,QA i,IntKind.bits,VY]
 ·simp(disch:=omega) [h1,VY]
  refine za ?_
  simp[eb]at h1
  omega
abbrev nu:Nat:=302
def m8:AF:=⟨2,5,[.tmp 4],(.seq (.ops [.i (.mov 4 (qb false))]) (.seq (.ops [qm 5 1, .i (.bin 6 .geq (.s 5) (qi 0)),qm 7 6, .g 7 true 9 (.mov 8 (.s 1)), .g 7 true 10 (.bin 9 .quo (.s 8) (qi 8)), .g 7 true 11 (.mov 10 (.s 0)), .g 7 true 12 (.len 11 false (.s 10)), .g 7 true 13 (.bin 12 .lss (.s 9) (.s 11)), .i (.pick 13 (.s 7) (.s 12) (qb false)),qm 14 13, .g 14 true 16 (.mov 15 (.s 0)), .g 14 true 17 (.mov 16 (.s 1)), .g 14 true 18 (.bin 17 .quo (.s 16) (qi 8)), .g 14 true 19 (.iad 18 (.s 15) (.s 17) 1), .g 14 true 20 (.ldh 19 (.s 18) 1 false), .g 14 true 21 (.cvi 20 .i64 (.s 19)), .g 14 true 22 (.mov 21 (.s 1)), .g 14 true 23 (.bin 22 .rem (.s 21) (qi 8)), .g 14 true 24 (.bin 23 .shr (.s 20) (.s 22)), .g 14 true 25 (.bin 24 .rem (.s 23) (qi 2)), .g 14 true 26 (.bin 25 .eql (.s 24) (qi 1)), .i (.pick 26 (.s 14) (.s 25) (qb false)),qm 4 26]) .ret))⟩
theorem zJ:cd nu=some m8:=by kernel_rfl
theorem wD (b:Bytes) (i:Nat) (hb:b.length≤1099511627776) (hi:i≤1099511627776):VC cd nu (aJ [(false,[.sl (bytes b)]),(false,[.int .i64 i])]) (fun rs _=>rs=bl (dZ b i)):=by
 refine aa zJ rfl ?_
 simp(disch:=omega) [m8,J6,VY]
 refine ab (fun h1=> ?_) (fun h1=> ?_)
 ·have hx:i / 8 < b.length:=by omega
  have e:=IX b[i / 8].toNat (Eg _) (i % 8) (Nat.mod_lt _ (by omega))
  have hw:IntKind.i64.wrap (b[i / 8].toNat:Int)=b[i / 8].toNat:=au (by omega) (by have:=Eg b[i / 8];omega)
  rw[u3 hx,←e]
  simp(disch:=omega) [h1,J6,NU,jN hx,QA i,hw,IntKind.bits,VY]
 ·simp(disch:=omega) [h1,VY]
  exact za (by omega)
def bg (b:Bytes):List Nat:=(List.range (8 * b.length)).filter (dZ b)
def nk (l:List Nat):List (List D):=l.map fun(n:Nat)=> [.int .i64 (n:Int)]
theorem iS (l:List Nat):(nk l).length=l.length:=by simp[nk]
theorem Bk (l:List Nat):flat (nk l)=true:=by
 induction l with
 |nil=>rfl
 |cons n l ih=>simp only[nk,List.map_cons,flat,bT,D.leaf]at ih⊢;simpa using ih
theorem D3 (l:List Nat):wid 1 (nk l)=true:=by
 induction l with
 |nil=>rfl
 |cons n l ih=>simp only[nk,List.map_cons,wid]at ih⊢;simpa using ih
theorem Bw (l:List Nat) (n:Nat):nk l++ [[.int .i64 (n:Int)]]=nk (l++ [n]):=by simp[nk]
theorem E7 {l:List Nat} {i:Nat} (h:i < l.length):(nk l)[i]? =some [.int .i64 (l[i]:Int)]:=by simp[nk,h]
theorem ix (p:Nat→Bool) (i:Nat):(List.range (i+1)).filter p=(List.range i).filter p++(if p i=true then [i]else []):=by
 rw[List.range_succ,List.filter_append]
 congr 1
 cases h:p i <;>simp[h]
theorem filter_le (p:Nat→Bool) (i:Nat):((List.range i).filter p).length≤i:=by
 have:=List.length_filter_le p (List.range i)
 simpa using this
abbrev lI:Nat:=317
def lq:AF:=⟨1,5,[.tmp 2],(.seq (.ops [.i (.mov 2 (.c (.val false [.nils])))]) (.seq (.ops [.i (.bse 5),qm 3 5]) (.seq (.seq (.ops [qm 6 0,qn 7 6, .i (.bin 8 .mul (qi 8) (.s 7)), .i (.mov 9 (qi 0))]) (.block 0 (.loop [19,18,17,16,15,14,13,12,11,10,4] (.seq (.ops [qd 10 .lss 9 8]) (.seq (.cond (.s 10) .skip (.exit 0)) (.seq (.block 1 (.seq (.ops [qm 11 9,qm 4 11]) (.seq (.ops [qm 12 0,qm 13 4, .i (.call 15 324 false [(.s 12),(.s 13)])]) (.cond (.s 14) (.ops [qm 15 3,qm 16 4, .i (.lsl 17 1 1 [.int .i64 0] [(0,1,(.s 16))]), .i (.app 18 3 1 8 (.s 15) (.s 17)),qm 3 18]) .skip)))) (.ops [.i (.bin 19 .add (.s 9) (qi 1)),qm 9 19]))))))) (.seq (.ops [qm 20 3,qm 2 20]) .ret))))⟩
theorem xi:cd lI=some lq:=by kernel_rfl
theorem uw (b:Bytes) (hb:b.length≤1073741824):VC cd lI (aJ [(false,[.sl (bytes b)])]) (fun rs _=>rs= [(false,[.o true (some (3,1)) (nk (bg b))])]):=by
 refine aa xi rfl ?_
 simp(disch:=omega) [lq,VY]
 refine jH (σ:=Nat×Nat) (f1:=_) (by simp(disch:=omega) [VY];rfl) (fun p=> [(9, .val false [.int .i64 p.1]),(3, .val false [.ow 5 p.2])]) (fun p=> [(5, .sl p.2 true true (some (3,1)) (nk ((List.range p.1).filter (dZ b))))])
  (fun p g=>g+p.1=8 * b.length) (0,1) (8 * b.length) (by simp(disch:=omega) [VY]) (by simp(disch:=omega) [nk,VY]) (by omega) ?_
 rintro⟨i,v⟩ n g hg
 simp only at hg
 simp(disch:=omega) [VY]
 refine ab (fun h1=> ?_) (fun h1=> ?_)
 ·simp(disch:=omega) [VY]
  refine ah (wG b i (by omega) (by omega)) rfl rfl ?_
  simp(disch:=omega) [VY]
  refine ak (fun h2=> ?_) (fun h2=> ?_)
  ·have hl:=filter_le (dZ b) i
   simp(disch:=omega) [iS,D3,Bk,VY]
   exact⟨i+1,n+1,g - 1,by omega,by omega,⟨rfl,by omega⟩,rfl,by rw[ix,h2,if_pos rfl,←Bw]⟩
  ·simp(disch:=omega) [VY]
   exact⟨i+1,v,g - 1,by omega,by omega,⟨rfl,by omega⟩,rfl,by rw[ix,h2];simp⟩
 ·simp(disch:=omega) [VY]
  have:i=8 * b.length:=by omega
  subst this
  rfl
abbrev kz:Nat:=267
def kX:AF:=⟨1,5,[.tmp 2],(.seq (.ops [.i (.mov 2 (.c (.val false [.nils])))]) (.seq (.ops [.i (.bse 5),qm 3 5]) (.seq (.seq (.ops [.i (.mov 4 (qi 0))]) (.block 0 (.loop [19,18,17,16,15,14,13,12,11,10,9,8,7,6] (.seq (.seq (.ops [qm 6 4,qm 7 0,qn 8 7, .i (.bin 9 .mul (qi 8) (.s 8)),qd 10 .lss 6 9]) (.cond (.s 10) .skip (.exit 0))) (.seq (.block 1 (.seq (.ops [qm 13 0,qm 14 4, .i (.call 16 302 false [(.s 13),(.s 14)])]) (.cond (.s 15) (.ops [qm 16 3,qm 17 4, .i (.lsl 18 1 1 [.int .i64 0] [(0,1,(.s 17))]), .i (.app 19 3 1 8 (.s 16) (.s 18)),qm 3 19]) .skip))) (.ops [qm 11 4, .i (.bin 12 .add (.s 11) (qi 1)),qm 4 12])))))) (.seq (.ops [qm 20 3,qm 2 20]) .ret))))⟩
theorem wE:cd kz=some kX:=by kernel_rfl
theorem jb (b:Bytes) (hb:b.length≤1073741824):VC cd kz (aJ [(false,[.sl (bytes b)])]) (fun rs _=>rs= [(false,[.o true (some (3,1)) (nk (bg b))])]):=by
 refine aa wE rfl ?_
 simp(disch:=omega) [kX,VY]
 refine jH (σ:=Nat×Nat) (f1:=_) (by simp(disch:=omega) [VY];rfl) (fun p=> [(4, .val false [.int .i64 p.1]),(3, .val false [.ow 5 p.2])]) (fun p=> [(5, .sl p.2 true true (some (3,1)) (nk ((List.range p.1).filter (dZ b))))])
  (fun p g=>g+p.1=8 * b.length) (0,1) (8 * b.length) (by simp(disch:=omega) [VY]) (by simp(disch:=omega) [nk,VY]) (by omega) ?_
 rintro⟨i,v⟩ n g hg
 simp only at hg
 simp(disch:=omega) [VY]
 refine ab (fun h1=> ?_) (fun h1=> ?_)
 ·simp(disch:=omega) [VY]
  refine ah (wD b i (by omega) (by omega)) rfl rfl ?_
  simp(disch:=omega) [VY]
  refine ak (fun h2=> ?_) (fun h2=> ?_)
  ·have hl:=filter_le (dZ b) i
   simp(disch:=omega) [iS,D3,Bk,VY]
   exact⟨i+1,n+1,g - 1,by omega,by omega,⟨by omega,rfl⟩,rfl,by rw[ix,h2,if_pos rfl,←Bw]⟩
  ·simp(disch:=omega) [VY]
   exact⟨i+1,v,g - 1,by omega,by omega,⟨by omega,rfl⟩,rfl,by rw[ix,h2];simp⟩
 ·simp(disch:=omega) [VY]
  have:i=8 * b.length:=by omega
  subst this
  rfl
def fW (l:List Nat) (n:Int):Bool:=l.all fun i=>decide ((i:Int) < n)
def fv (b:Bytes) (n:Int):Bool:=eb n 1 10 && decide ((b.length:Int)=Ln n) && fW (bg b) n
theorem eS (b:Bytes):(bg b).length≤8 * b.length:=filter_le _ _
theorem fg {n lo hi:Int} (h:eb n lo hi=true):lo≤n∧n≤hi:=by simpa[eb]using h
theorem Ld {l:List Nat} {n:Int} (h:∀x∈l.take l.length,(x:Int) < n):fW l n=true:=by
 rw[List.take_length]at h
 simpa[fW]using h
theorem Kw {l:List Nat} {n:Int} {i:Nat} (hi:i < l.length) (h:n≤(l[i]:Int)):fW l n=false:=by
 simp only[fW,List.all_eq_false]
 exact⟨l[i],List.getElem_mem hi,by simpa using h⟩
abbrev rP:Nat:=297
def qx:AF:=⟨2,5,[.tmp 4],(.seq (.ops [.i (.mov 4 (qb false))]) (.seq (.seq (.ops [qm 7 1, .i (.call 9 103 false [(.s 7),(qi 1),(qi 10)]), .i (.not 9 (.s 8)),qm 10 9, .g 10 false 12 (.mov 11 (.s 0)), .g 10 false 13 (.len 12 false (.s 11)), .g 10 false 14 (.mov 13 (.s 1)), .g 10 false 15 (.call 15 308 false [(.s 13)]), .g 10 false 16 (.bin 15 .neq (.s 12) (.s 14)), .i (.pick 16 (.s 10) (qb true) (.s 15))]) (.cond (.s 16) (.seq (.ops [.i (.mov 4 (qb false))]) .ret) .skip)) (.seq (.seq (.ops [qm 17 0,qk 19 317 17,qn 19 18, .i (.mov 20 (qi 0))]) (.block 0 (.loop [27,26,25,24,23,22,21,6] (.seq (.ops [qd 21 .lss 20 19]) (.seq (.cond (.s 21) .skip (.exit 0)) (.seq (.block 1 (.seq (.ops [.i (.iad 22 (.s 18) (.s 20) 1), .i (.ldh 23 (.s 22) 1 false),qm 6 23]) (.seq (.ops [qm 24 6,qm 25 1,qd 26 .geq 24 25]) (.cond (.s 26) (.seq (.ops [.i (.mov 4 (qb false))]) .ret) .skip)))) (.ops [.i (.bin 27 .add (.s 20) (qi 1)),qm 20 27]))))))) (.seq (.ops [.i (.mov 4 (qb true))]) .ret))))⟩
theorem AB:cd rP=some qx:=by kernel_rfl
theorem z9 (b:Bytes) (n:Int) (hb:b.length≤1073741824) (hn: -9223372036854775808≤n∧n < 9223372036854775808):VC cd rP (aJ [(false,[.sl (bytes b)]),(false,[.int .i64 n])]) (fun rs _=>rs=bl (fv b n)):=by
 refine aa AB rfl ?_
 simp(disch:=omega) [qx,VY]
 refine ah (aQ _ _ _) rfl rfl ?_
 simp(disch:=omega) [VY]
 refine ak (fun h1=> ?_) (fun h1=> ?_)
 ·simp(disch:=omega) [h1,VY]
  refine ah (uS _ hn.1 hn.2) rfl rfl ?_
  simp(disch:=omega) [h1,VY]
  refine ab (fun h2=> ?_) (fun h2=> ?_)
  ·simp(disch:=omega) [h1,h2,VY]
   refine ah (uw b hb) rfl rfl ?_
   simp(disch:=omega) [iS,VY]
   have hl:=eS b
   refine aO (σ:=Nat) (f1:=_) (es0:=_) (by simp(disch:=omega) [VY];rfl) (by simp(disch:=omega) [VY];rfl) (fun i=> [(20, .val false [.int .i64 i])]) (fun _=> []) (fun i g=>g+i=(bg b).length∧∀x∈(bg b).take i,(x:Int) < n) 0 (bg b).length (by simp(disch:=omega) [VY]) (by simp(disch:=omega) [VY]) ⟨by omega,by simp⟩ ?_
   rintro i m g ⟨hg,hi⟩
   simp(disch:=omega) [VY]
   refine ab (fun h3=> ?_) (fun h3=> ?_)
   ·have hx:i < (bg b).length:=by omega
    simp(disch:=omega) [E7 hx,VY]
    refine ab (fun h4=> ?_) (fun h4=> ?_)
    ·simp(disch:=omega) [VY]
     simp[fv,h1,h2,Kw hx h4]
    ·simp(disch:=omega) [VY]
     exact⟨i+1,g - 1,by omega,⟨by omega,gV hi hx (by omega)⟩,by simp⟩
   ·simp(disch:=omega) [VY]
    have:i=(bg b).length:=by omega
    subst this
    simp[fv,h1,h2,Ld hi]
  ·simp(disch:=omega) [h1,h2,fv,VY]
 ·simp(disch:=omega) [h1,fv,VY]
theorem A0 {l:List Nat} {n:Int} (hp:l.Pairwise (· < ·)) (hl:0 < l.length):fW l n=decide ((l[l.length - 1]:Int) < n):=by
 rw[Bool.eq_iff_iff]
 simp only[fW,List.all_eq_true,decide_eq_true_eq]
 constructor
 ·intro h;exact h _ (List.getElem_mem _)
 ·intro h x hx
  obtain⟨i,hi,rfl⟩:=List.getElem_of_mem hx
  by_cases he:i=l.length - 1
  ·subst he;exact h
  ·have:=List.pairwise_iff_getElem.1 hp i (l.length - 1) hi (by omega) (by omega)
   omega
theorem xk (b:Bytes):(bg b).Pairwise (· < ·):=List.Pairwise.filter _ List.pairwise_lt_range
abbrev rN:Nat:=266
def qP:AF:=⟨2,5,[.tmp 4],(.seq (.ops [.i (.mov 4 (qb false))]) (.seq (.seq (.ops [qm 6 1,qk 8 118 6, .i (.not 8 (.s 7)),qm 9 8, .g 9 false 11 (.mov 10 (.s 0)), .g 9 false 12 (.len 11 false (.s 10)), .g 9 false 13 (.mov 12 (.s 1)), .g 9 false 14 (.call 14 265 false [(.s 12)]), .g 9 false 15 (.bin 14 .neq (.s 11) (.s 13)), .i (.pick 15 (.s 9) (qb true) (.s 14))]) (.cond (.s 15) (.seq (.ops [.i (.mov 4 (qb false))]) .ret) .skip)) (.seq (.ops [qm 16 0,qk 18 267 16,qm 5 17]) (.seq (.ops [qm 18 5,qn 19 18, .i (.bin 20 .eql (.s 19) (qi 0)),qm 21 20, .g 21 false 23 (.mov 22 (.s 5)), .g 21 false 24 (.mov 23 (.s 5)), .g 21 false 25 (.len 24 false (.s 23)), .g 21 false 26 (.bin 25 .sub (.s 24) (qi 1)), .g 21 false 27 (.iad 26 (.s 22) (.s 25) 1), .g 21 false 28 (.ldh 27 (.s 26) 1 false), .g 21 false 29 (.mov 28 (.s 1)), .g 21 false 30 (.bin 29 .lss (.s 27) (.s 28)), .i (.pick 30 (.s 21) (qb true) (.s 29)),qm 4 30]) .ret))))⟩
theorem AH:cd rN=some qP:=by kernel_rfl
theorem yK (b:Bytes) (n:Int) (hb:b.length≤1073741824) (hn: -9223372036854775808≤n∧n < 9223372036854775808):VC cd rN (aJ [(false,[.sl (bytes b)]),(false,[.int .i64 n])]) (fun rs _=>rs=bl (fv b n)):=by
 refine aa AH rfl ?_
 simp(disch:=omega) [qP,VY]
 refine ah (gR _) rfl rfl ?_
 simp(disch:=omega) [VY]
 refine ak (fun h1=> ?_) (fun h1=> ?_)
 ·simp(disch:=omega) [h1,VY]
  refine ah (uH _ hn.1 hn.2) rfl rfl ?_
  simp(disch:=omega) [h1,VY]
  refine ab (fun h2=> ?_) (fun h2=> ?_)
  ·simp(disch:=omega) [h1,h2,VY]
   refine ah (jb b hb) rfl rfl ?_
   have hl:=eS b
   simp(disch:=omega) [iS,VY]
   refine ab (fun h3=> ?_) (fun h3=> ?_)
   ·simp(disch:=omega) [h3,VY]
    simp[fv,h1,h2,h3,fW]
   ·have h4:=List.length_pos_iff.2 h3
    have e3:(1:Int)≤((bg b).length:Int):=by omega
    have hx:(bg b).length - 1 < (bg b).length:=by omega
    have e1:((bg b).length - 1:Int).toNat=(bg b).length - 1:=by omega
    have e2:(0:Int)≤((bg b).length:Int) - 1:=by omega
    simp(disch:=omega) [h3,iS,e1,e2,e3,E7 hx,VY]
    simp[fv,h1,h2,A0 (xk b) h4]
  ·simp(disch:=omega) [h1,h2,fv,VY]
 ·simp(disch:=omega) [h1,fv,VY]
def vE (x:Nat):Nat:=((List.range 8).filter (x.testBit)).length
theorem EU:∀x < 256,((⟨#[0,1,1,2,1,2,2,3,1,2,2,3,2,3,3,4,1,2,2,3,2,3,3,4,2,3,3,4,3,4,4,5,1,2,2,3,2,3,3,4,2,3,3,4,3,4,4,5,2,3,3,4,3,4,4,5,3,4,4,5,4,5,5,6,1,2,2,3,2,3,3,4,2,3,3,4,3,4,4,5,2,3,3,4,3,4,4,5,3,4,4,5,4,5,5,6,2,3,3,4,3,4,4,5,3,4,4,5,4,5,5,6,3,4,4,5,4,5,5,6,4,5,5,6,5,6,6,7,1,2,2,3,2,3,3,4,2,3,3,4,3,4,4,5,2,3,3,4,3,4,4,5,3,4,4,5,4,5,5,6,2,3,3,4,3,4,4,5,3,4,4,5,4,5,5,6,3,4,4,5,4,5,5,6,4,5,5,6,5,6,6,7,2,3,3,4,3,4,4,5,3,4,4,5,4,5,5,6,3,4,4,5,4,5,5,6,4,5,5,6,5,6,6,7,3,4,4,5,4,5,5,6,4,5,5,6,5,6,6,7,4,5,5,6,5,6,6,7,5,6,6,7,6,7,7,8]⟩:ByteArray).data.toList)[x]? =some (UInt8.ofNat (vE x))∧vE x≤8:=by decide+kernel
abbrev eZ:Nat:=309
def eN:AF:=⟨1,3,[.tmp 2],(.seq (.ops [.i (.mov 2 (.c (.val false [.int .i64 0])))]) (.seq (.ops [.i (.mov 3 (.s 0)), .i (.ids 4 (.c (.val false [.str ⟨#[0,1,1,2,1,2,2,3,1,2,2,3,2,3,3,4,1,2,2,3,2,3,3,4,2,3,3,4,3,4,4,5,1,2,2,3,2,3,3,4,2,3,3,4,3,4,4,5,2,3,3,4,3,4,4,5,3,4,4,5,4,5,5,6,1,2,2,3,2,3,3,4,2,3,3,4,3,4,4,5,2,3,3,4,3,4,4,5,3,4,4,5,4,5,5,6,2,3,3,4,3,4,4,5,3,4,4,5,4,5,5,6,3,4,4,5,4,5,5,6,4,5,5,6,5,6,6,7,1,2,2,3,2,3,3,4,2,3,3,4,3,4,4,5,2,3,3,4,3,4,4,5,3,4,4,5,4,5,5,6,2,3,3,4,3,4,4,5,3,4,4,5,4,5,5,6,3,4,4,5,4,5,5,6,4,5,5,6,5,6,6,7,2,3,3,4,3,4,4,5,3,4,4,5,4,5,5,6,3,4,4,5,4,5,5,6,4,5,5,6,5,6,6,7,3,4,4,5,4,5,5,6,4,5,5,6,5,6,6,7,4,5,5,6,5,6,6,7,5,6,6,7,6,7,7,8]⟩])) (.s 3)), .i (.cvi 5 .i64 (.s 4)), .i (.mov 2 (.s 5))]) .ret))⟩
theorem ka:cd eZ=some eN:=by kernel_rfl
theorem Bi (x:UInt8):VC cd eZ (aJ [(false,[.int .u8 x.toNat])]) (fun rs _=>rs=it (vE x.toNat)):=by
 obtain⟨e1,e2⟩:=EU x.toNat (Eg x)
 have e3:(UInt8.ofNat (vE x.toNat)).toNat=vE x.toNat:=by simp;omega
 refine aa ka rfl ?_
 simp(disch:=omega) only[eN,VE,Q6,VP,VB,PO,List.map_cons,List.map_nil,Int.toNat_natCast,e1,e3,simprocAttr,Int.natCast_nonneg,if_true,it]
theorem Gt (b:Bytes) (i:Nat) (hi:i < b.length):((List.range (8 * (i+1))).filter (dZ b)).length=((List.range (8 * i)).filter (dZ b)).length+vE b[i].toNat:=by
 have h8:∀j < 8,dZ b (8 * i+j)=b[i].toNat.testBit j:=by
  intro j hj
  have e:(8 * i+j) / 8=i:=by omega
  have e2:(8 * i+j) % 8=j:=by omega
  have:=u3 (b:=b) (i:=8 * i+j) (by rw[e];exact hi)
  rw[this,e2]
  simp only[e]
 have e:8 * (i+1)=8 * i+8:=by omega
 rw[e,List.range_add,List.filter_append,List.length_append]
 congr 1
 unfold vE
 rw[List.filter_map,List.length_map]
 congr 1
 refine List.filter_congr fun j hj=> ?_
 simp only[List.mem_range]at hj
 exact h8 j hj
abbrev jL:Nat:=278
def jy:AF:=⟨1,5,[.tmp 2],(.seq (.ops [.i (.mov 2 (qi 0))]) (.seq (.ops [.i (.mov 3 (qi 0))]) (.seq (.seq (.ops [qm 6 0,qn 7 6, .i (.mov 8 (qi 0))]) (.block 0 (.loop [16,15,14,13,12,11,10,9,5] (.seq (.ops [qd 9 .lss 8 7]) (.seq (.cond (.s 9) .skip (.exit 0)) (.seq (.block 1 (.seq (.ops [.i (.iad 10 (.s 6) (.s 8) 1), .i (.ldh 11 (.s 10) 1 false),qm 5 11]) (.ops [qm 12 3,qm 13 5,qk 15 309 13,qd 15 .add 12 14,qm 3 15]))) (.ops [.i (.bin 16 .add (.s 8) (qi 1)),qm 8 16]))))))) (.seq (.ops [qm 17 3,qm 2 17]) .ret))))⟩
theorem vc:cd jL=some jy:=by kernel_rfl
theorem tj (b:Bytes) (hb:b.length≤1073741824):VC cd jL (aJ [(false,[.sl (bytes b)])]) (fun rs _=>rs=it (bg b).length):=by
 refine aa vc rfl ?_
 simp(disch:=omega) [jy,VY]
 refine aO (σ:=Nat) (f1:=_) (es0:=_) (by simp(disch:=omega) [VY];rfl) (by simp(disch:=omega) [VY];rfl) (fun i=> [(8, .val false [.int .i64 i]),(3, .val false [.int .i64 ((List.range (8 * i)).filter (dZ b)).length])]) (fun _=> []) (fun i g=>g+i=b.length) 0 b.length (by simp(disch:=omega) [VY]) (by simp(disch:=omega) [VY]) (by omega) ?_
 rintro i n g hg
 simp(disch:=omega) [VY]
 refine ab (fun h1=> ?_) (fun h1=> ?_)
 ·have hx:i < b.length:=by omega
  simp(disch:=omega) [jN hx,VY]
  refine ah (Bi _) rfl rfl ?_
  have hl:=filter_le (dZ b) (8 * i)
  have ho:=(EU b[i].toNat (Eg _)).2
  simp(disch:=omega) [VY]
  exact⟨i+1,g - 1,by omega,by omega,by rw[Gt b i hx];omega,by omega⟩
 ·simp(disch:=omega) [VY]
  have:i=b.length:=by omega
  subst this
  rfl
abbrev iX:Nat:=187
def jI:AF:=⟨1,3,[.tmp 2],(.seq (.ops [.i (.mov 2 (qi 0))]) (.seq (.ops [qm 3 0,qk 5 267 3,qn 5 4,qm 2 5]) .ret))⟩
theorem vd:cd iX=some jI:=by kernel_rfl
theorem tf (b:Bytes) (hb:b.length≤1073741824):VC cd iX (aJ [(false,[.sl (bytes b)])]) (fun rs _=>rs=it (bg b).length):=by
 refine aa vd rfl ?_
 simp(disch:=omega) [jI,VY]
 refine ah (jb b hb) rfl rfl ?_
 simp(disch:=omega) [iS,VY]
end Go.Eng.F
namespace Go.Eng.F
def ma (n:Int):Prop:= -9223372036854775808≤n∧n < 9223372036854775808
def Sz (n:Nat):Prop:=n≤1073741824
theorem yS (x:Bytes):xp (bytes x)=some ⟨x.toArray⟩:=by
 induction x with
 |nil=>rfl
 |cons b x ih=>
  have:bytes (b::x)= [.int .u8 (b.toNat:Int)]::bytes x:=rfl
  rw[this]
  simp only[xp,ih,Int.toNat_natCast]
  congr 1
  simp
theorem Jk (a b:Bytes):((⟨a.toArray⟩:ByteArray)=⟨b.toArray⟩)=(a=b):=by
 apply propext
 constructor
 ·intro h;injection h with h;exact Array.toList_inj.2 h|> fun h=>by simpa using h
 ·rintro rfl;rfl
abbrev jC:Nat:=120
def i1:AF:=⟨2,4,[.tmp 4],(.seq (.ops [.i (.mov 4 (qb false))]) (.seq (.ops [qm 5 0, .i (.cbs 6 (.s 5)),qm 7 1, .i (.cbs 8 (.s 7)),qd 9 .eql 6 8,qm 4 9]) .ret))⟩
theorem u6:cd jC=some i1:=by kernel_rfl
theorem aU (a b:Bytes):VC cd jC (aJ [(false,[.sl (bytes a)]),(false,[.sl (bytes b)])]) (fun rs _=>rs=bl (decide (a=b))):=by
 refine aa u6 rfl ?_
 simp(disch:=omega) [i1,yS,Jk,VY]
abbrev jR:Nat:=190
def jG:AF:=⟨2,4,[.tmp 4],(.seq (.ops [.i (.mov 4 (qb false))]) (.seq (.ops [qm 5 0, .i (.cbs 6 (.s 5)),qm 7 1, .i (.cbs 8 (.s 7)),qd 9 .eql 6 8,qm 4 9]) .ret))⟩
theorem uy:cd jR=some jG:=by kernel_rfl
theorem aS (a b:Bytes):VC cd jR (aJ [(false,[.sl (bytes a)]),(false,[.sl (bytes b)])]) (fun rs _=>rs=bl (decide (a=b))):=by
 refine aa uy rfl ?_
 simp(disch:=omega) [jG,yS,Jk,VY]
structure Qc where
 view:Int
 height:Int
 block:Bytes
 bits:Bytes
 tags:List Bytes
def Qc.c (q:Qc):List D:= [.int .i64 q.view, .int .i64 q.height, .sl (bytes q.block), .sl (bytes q.bits), .sl (cS q.tags)]
def Qc.wf (q:Qc):Prop:=ma q.view∧ma q.height∧Sz q.block.length∧Sz q.bits.length∧Sz q.tags.length
def gU (l:ax) (q:Qc):Bool:=l.ok && isNum q.view && isNum q.height && hash q.block && fv q.bits l.n && decide (q.tags.length=(bg q.bits).length) && hashes q.tags
theorem jU {l:ax} (h:l.ok=true):1≤l.n∧l.n≤10:=by
 simp only[ax.ok,Bool.and_eq_true]at h
 exact fg h.1.1.1.1
theorem hH (x:Bytes):hashes [x]=hash x:=by simp[hashes]
abbrev wu:Nat:=238
def vT:AF:=⟨2,6,[.tmp 4],(.seq (.ops [.i (.lbox 2 (.s 0)), .i (.lbox 3 (.s 1)), .i (.mov 4 (qb false))]) (.seq (.ops [ql 5 2 2 5 true,qk 7 70 5,qm 7 6, .g 7 true 9 (.fad 8 (.s 3) 0), .g 7 true 10 (.ldl 9 3 (.s 8) 1 false), .g 7 true 11 (.call 11 81 false [(.s 9)]), .i (.pick 11 (.s 7) (.s 10) (qb false)),qm 12 11, .g 12 true 14 (.fad 13 (.s 3) 1), .g 12 true 15 (.ldl 14 3 (.s 13) 1 false), .g 12 true 16 (.call 16 81 false [(.s 14)]), .i (.pick 16 (.s 12) (.s 15) (qb false)),qm 17 16, .g 17 true 19 (.fad 18 (.s 3) 2), .g 17 true 20 (.ldl 19 3 (.s 18) 1 false), .g 17 true 21 (.bsl 20 24 1 1 [.nils] [(0,1,(.s 19))]), .g 17 true 22 (.call 22 295 false [(.s 20)]), .i (.pick 22 (.s 17) (.s 21) (qb false)),qm 23 22, .g 23 true 25 (.fad 24 (.s 3) 3), .g 23 true 26 (.ldl 25 3 (.s 24) 1 false), .g 23 true 27 (.fad 26 (.s 2) 0), .g 23 true 28 (.ldl 27 2 (.s 26) 1 false), .g 23 true 29 (.call 29 297 false [(.s 25),(.s 27)]), .i (.pick 29 (.s 23) (.s 28) (qb false)),qm 30 29, .g 30 true 32 (.fad 31 (.s 3) 4), .g 30 true 33 (.ldl 32 3 (.s 31) 1 false), .g 30 true 34 (.len 33 false (.s 32)), .g 30 true 35 (.fad 34 (.s 3) 3), .g 30 true 36 (.ldl 35 3 (.s 34) 1 false), .g 30 true 37 (.call 37 278 false [(.s 35)]), .g 30 true 38 (.bin 37 .eql (.s 33) (.s 36)), .i (.pick 38 (.s 30) (.s 37) (qb false)),qm 39 38, .g 39 true 41 (.fad 40 (.s 3) 4), .g 39 true 42 (.ldl 41 3 (.s 40) 1 false), .g 39 true 43 (.call 43 295 false [(.s 41)]), .i (.pick 43 (.s 39) (.s 42) (qb false)),qm 4 43]) .ret))⟩
theorem Ee:cd wu=some vT:=by kernel_rfl
theorem j9 (l:ax) (q:Qc) (hq:q.wf):VC cd wu (aJ [(true,l.c),(true,q.c)]) (fun rs _=>rs=bl (gU l q)):=by
 obtain⟨w1,w2,w3,w4,w5⟩:=hq
 simp only[ma,Sz]at w1 w2 w3 w4 w5
 refine aa Ee rfl ?_
 simp(disch:=omega) [vT,ax.c,Qc.c,VY]
 refine ah (cM l) rfl rfl ?_
 simp(disch:=omega) [VY]
 refine ak (fun h1=> ?_) (fun h1=> ?_) <;>simp(disch:=omega) [h1,gU,VY]
 have hn:=jU h1
 refine ah (fb _) rfl rfl ?_
 simp(disch:=omega) [h1,VY]
 refine ak (fun h2=> ?_) (fun h2=> ?_) <;>simp(disch:=omega) [h1,h2,VY]
 refine ah (fb _) rfl rfl ?_
 simp(disch:=omega) [h1,h2,VY]
 refine ak (fun h3=> ?_) (fun h3=> ?_) <;>simp(disch:=omega) [h1,h2,h3,VY]
 refine ah (cI [q.block] (by simp)) rfl rfl ?_
 simp(disch:=omega) [h1,h2,h3,hH,VY]
 refine ak (fun h4=> ?_) (fun h4=> ?_) <;>simp(disch:=omega) [h1,h2,h3,h4,VY]
 refine ah (z9 q.bits l.n (by omega) (by omega)) rfl rfl ?_
 simp(disch:=omega) [h1,h2,h3,h4,VY]
 refine ak (fun h5=> ?_) (fun h5=> ?_) <;>simp(disch:=omega) [h1,h2,h3,h4,h5,VY]
 refine ah (tj q.bits (by omega)) rfl rfl ?_
 have hl:=eS q.bits
 simp(disch:=omega) [h1,h2,h3,h4,h5,aw,VY]
 refine ab (fun h6=> ?_) (fun h6=> ?_)
 ·simp(disch:=omega) [h1,h2,h3,h4,h5,h6,aw,VY]
  refine ah (cI q.tags (by omega)) rfl rfl ?_
  have h7:q.tags.length=(bg q.bits).length:=by omega
  simp(disch:=omega) [h1,h2,h3,h4,h5,h6,h7,VY]
 ·have h7:¬q.tags.length=(bg q.bits).length:=by omega
  simp(disch:=omega) [h1,h2,h3,h4,h5,h6,h7,aw,VY]
abbrev vO:Nat:=220
def wi:AF:=⟨2,6,[.tmp 4],(.seq (.ops [.i (.lbox 2 (.s 0)), .i (.lbox 3 (.s 1)), .i (.mov 4 (qb false))]) (.seq (.ops [ql 5 2 2 5 true,qk 7 66 5,qm 7 6, .g 7 true 9 (.fad 8 (.s 3) 0), .g 7 true 10 (.ldl 9 3 (.s 8) 1 false), .g 7 true 11 (.call 11 78 false [(.s 9)]), .i (.pick 11 (.s 7) (.s 10) (qb false)),qm 12 11, .g 12 true 14 (.fad 13 (.s 3) 1), .g 12 true 15 (.ldl 14 3 (.s 13) 1 false), .g 12 true 16 (.call 16 78 false [(.s 14)]), .i (.pick 16 (.s 12) (.s 15) (qb false)),qm 17 16, .g 17 true 19 (.fad 18 (.s 3) 2), .g 17 true 20 (.ldl 19 3 (.s 18) 1 false), .g 17 true 21 (.call 21 286 false [(.s 19)]), .i (.pick 21 (.s 17) (.s 20) (qb false)),qm 22 21, .g 22 true 24 (.fad 23 (.s 3) 3), .g 22 true 25 (.ldl 24 3 (.s 23) 1 false), .g 22 true 26 (.fad 25 (.s 2) 0), .g 22 true 27 (.ldl 26 2 (.s 25) 1 false), .g 22 true 28 (.call 28 266 false [(.s 24),(.s 26)]), .i (.pick 28 (.s 22) (.s 27) (qb false)),qm 29 28, .g 29 true 31 (.fad 30 (.s 3) 4), .g 29 true 32 (.ldl 31 3 (.s 30) 1 false), .g 29 true 33 (.len 32 false (.s 31)), .g 29 true 34 (.fad 33 (.s 3) 3), .g 29 true 35 (.ldl 34 3 (.s 33) 1 false), .g 29 true 36 (.call 36 187 false [(.s 34)]), .g 29 true 37 (.bin 36 .eql (.s 32) (.s 35)), .i (.pick 37 (.s 29) (.s 36) (qb false)),qm 38 37, .g 38 true 40 (.fad 39 (.s 3) 4), .g 38 true 41 (.ldl 40 3 (.s 39) 1 false), .g 38 true 42 (.call 42 288 false [(.s 40)]), .i (.pick 42 (.s 38) (.s 41) (qb false)),qm 4 42]) .ret))⟩
theorem Er:cd vO=some wi:=by kernel_rfl
theorem j3 (l:ax) (q:Qc) (hq:q.wf):VC cd vO (aJ [(true,l.c),(true,q.c)]) (fun rs _=>rs=bl (gU l q)):=by
 obtain⟨w1,w2,w3,w4,w5⟩:=hq
 simp only[ma,Sz]at w1 w2 w3 w4 w5
 refine aa Er rfl ?_
 simp(disch:=omega) [wi,ax.c,Qc.c,VY]
 refine ah (bO l) rfl rfl ?_
 simp(disch:=omega) [VY]
 refine ak (fun h1=> ?_) (fun h1=> ?_) <;>simp(disch:=omega) [h1,gU,VY]
 have hn:=jU h1
 refine ah (eJ _) rfl rfl ?_
 simp(disch:=omega) [h1,VY]
 refine ak (fun h2=> ?_) (fun h2=> ?_) <;>simp(disch:=omega) [h1,h2,VY]
 refine ah (eJ _) rfl rfl ?_
 simp(disch:=omega) [h1,h2,VY]
 refine ak (fun h3=> ?_) (fun h3=> ?_) <;>simp(disch:=omega) [h1,h2,h3,VY]
 refine ah (eB _) rfl rfl ?_
 simp(disch:=omega) [h1,h2,h3,VY]
 refine ak (fun h4=> ?_) (fun h4=> ?_) <;>simp(disch:=omega) [h1,h2,h3,h4,VY]
 refine ah (yK q.bits l.n (by omega) (by omega)) rfl rfl ?_
 simp(disch:=omega) [h1,h2,h3,h4,VY]
 refine ak (fun h5=> ?_) (fun h5=> ?_) <;>simp(disch:=omega) [h1,h2,h3,h4,h5,VY]
 refine ah (tf q.bits (by omega)) rfl rfl ?_
 have hl:=eS q.bits
 simp(disch:=omega) [h1,h2,h3,h4,h5,aw,VY]
 refine ab (fun h6=> ?_) (fun h6=> ?_)
 ·simp(disch:=omega) [h1,h2,h3,h4,h5,h6,aw,VY]
  refine ah (sF q.tags (by omega)) rfl rfl ?_
  have h7:q.tags.length=(bg q.bits).length:=by omega
  simp(disch:=omega) [h1,h2,h3,h4,h5,h6,h7,VY]
 ·have h7:¬q.tags.length=(bg q.bits).length:=by omega
  simp(disch:=omega) [h1,h2,h3,h4,h5,h6,h7,aw,VY]
structure Head where
 view:Int
 height:Int
 proposer:Int
 parent:Bytes
 root:Bytes
 qc:Qc
def Head.c (h:Head):List D:= [.int .i64 h.view, .int .i64 h.height, .int .i64 h.proposer, .sl (bytes h.parent), .sl (bytes h.root), .int .i64 h.qc.view, .int .i64 h.qc.height, .sl (bytes h.qc.block), .sl (bytes h.qc.bits), .sl (cS h.qc.tags)]
def Head.wf (h:Head):Prop:=ma h.view∧ma h.height∧ma h.proposer∧Sz h.parent.length∧Sz h.root.length∧h.qc.wf
def fits (h:Head):Bool:=decide (h.qc.view < h.view) && decide (h.qc.height=h.height - 1) && decide (h.qc.block=h.parent)
abbrev gr:Nat:=280
def gd:AF:=⟨1,5,[.tmp 2],(.seq (.ops [.i (.lbox 1 (.s 0)), .i (.mov 2 (qb false))]) (.seq (.ops [qf 3 1 5,qf 4 3 0,ql 5 1 4 1 false,qf 6 1 0,ql 7 1 6 1 false,qd 8 .lss 5 7,qm 9 8, .g 9 true 11 (.fad 10 (.s 1) 5), .g 9 true 12 (.fad 11 (.s 10) 1), .g 9 true 13 (.ldl 12 1 (.s 11) 1 false), .g 9 true 14 (.fad 13 (.s 1) 1), .g 9 true 15 (.ldl 14 1 (.s 13) 1 false), .g 9 true 16 (.bin 15 .sub (.s 14) (qi 1)), .g 9 true 17 (.bin 16 .eql (.s 12) (.s 15)), .i (.pick 17 (.s 9) (.s 16) (qb false)),qm 18 17, .g 18 true 20 (.fad 19 (.s 1) 5), .g 18 true 21 (.fad 20 (.s 19) 2), .g 18 true 22 (.ldl 21 1 (.s 20) 1 false), .g 18 true 23 (.fad 22 (.s 1) 3), .g 18 true 24 (.ldl 23 1 (.s 22) 1 false), .g 18 true 25 (.call 25 120 false [(.s 21),(.s 23)]), .i (.pick 25 (.s 18) (.s 24) (qb false)),qm 2 25]) .ret))⟩
theorem pL:cd gr=some gd:=by kernel_rfl
theorem F7 (h:Head) (h1:1≤h.height) (h2:ma h.height):VC cd gr (aJ [(true,h.c)]) (fun rs _=>rs=bl (fits h)):=by
 simp only[ma]at h2
 refine aa pL rfl ?_
 simp(disch:=omega) [gd,Head.c,VY]
 refine ab (fun g1=> ?_) (fun g1=> ?_) <;>simp(disch:=omega) [g1,fits,VY]
 refine ab (fun g2=> ?_) (fun g2=> ?_) <;>simp(disch:=omega) [g1,g2,VY]
 refine ah (aU _ _) rfl rfl ?_
 simp(disch:=omega) [g1,g2,VY]
abbrev nj:Nat:=188
def oq:AF:=⟨1,5,[.tmp 2],(.seq (.ops [.i (.lbox 1 (.s 0)), .i (.mov 2 (qb false))]) (.seq (.ops [qf 3 1 5,qf 4 3 0,ql 5 1 4 1 false,qf 6 1 0,ql 7 1 6 1 false,qd 8 .lss 5 7,qm 9 8, .g 9 true 11 (.fad 10 (.s 1) 5), .g 9 true 12 (.fad 11 (.s 10) 1), .g 9 true 13 (.ldl 12 1 (.s 11) 1 false), .g 9 true 14 (.fad 13 (.s 1) 1), .g 9 true 15 (.ldl 14 1 (.s 13) 1 false), .g 9 true 16 (.bin 15 .sub (.s 14) (qi 1)), .g 9 true 17 (.bin 16 .eql (.s 12) (.s 15)), .i (.pick 17 (.s 9) (.s 16) (qb false)),qm 18 17, .g 18 true 20 (.fad 19 (.s 1) 5), .g 18 true 21 (.fad 20 (.s 19) 2), .g 18 true 22 (.ldl 21 1 (.s 20) 1 false), .g 18 true 23 (.fad 22 (.s 1) 3), .g 18 true 24 (.ldl 23 1 (.s 22) 1 false), .g 18 true 25 (.call 25 190 false [(.s 21),(.s 23)]), .i (.pick 25 (.s 18) (.s 24) (qb false)),qm 2 25]) .ret))⟩
theorem yu:cd nj=some oq:=by kernel_rfl
theorem FY (h:Head) (h1:1≤h.height) (h2:ma h.height):VC cd nj (aJ [(true,h.c)]) (fun rs _=>rs=bl (fits h)):=by
 simp only[ma]at h2
 refine aa yu rfl ?_
 simp(disch:=omega) [oq,Head.c,VY]
 refine ab (fun g1=> ?_) (fun g1=> ?_) <;>simp(disch:=omega) [g1,fits,VY]
 refine ab (fun g2=> ?_) (fun g2=> ?_) <;>simp(disch:=omega) [g1,g2,VY]
 refine ah (aS _ _) rfl rfl ?_
 simp(disch:=omega) [g1,g2,VY]
def cf (l:ax) (h:Head):Bool:=gU l h.qc && isNum h.view && eb h.height 1 1152921504606846975 && eb h.proposer 0 (l.n - 1) && hash h.parent && hash h.root && fits h
theorem m0 {l:ax} {q:Qc} (h:gU l q=true):l.ok=true:=by
 simp only[gU,Bool.and_eq_true]at h
 exact h.1.1.1.1.1.1
theorem si (x y:Bytes):hashes [x,y]=(hash x && hash y):=by simp[hashes]
abbrev qK:Nat:=240
def rB:AF:=⟨2,6,[.tmp 4],(.seq (.ops [.i (.lbox 2 (.s 0)), .i (.lbox 3 (.s 1)), .i (.mov 4 (qb false))]) (.seq (.ops [ql 5 2 2 5 true,qf 6 3 5,ql 7 3 6 5 true, .i (.call 9 238 false [(.s 5),(.s 7)]),qm 9 8, .g 9 true 11 (.fad 10 (.s 3) 0), .g 9 true 12 (.ldl 11 3 (.s 10) 1 false), .g 9 true 13 (.call 13 81 false [(.s 11)]), .i (.pick 13 (.s 9) (.s 12) (qb false)),qm 14 13, .g 14 true 16 (.fad 15 (.s 3) 1), .g 14 true 17 (.ldl 16 3 (.s 15) 1 false), .g 14 true 18 (.call 18 103 false [(.s 16),(qi 1),(qi 1152921504606846975)]), .i (.pick 18 (.s 14) (.s 17) (qb false)),qm 19 18, .g 19 true 21 (.fad 20 (.s 3) 2), .g 19 true 22 (.ldl 21 3 (.s 20) 1 false), .g 19 true 23 (.fad 22 (.s 2) 0), .g 19 true 24 (.ldl 23 2 (.s 22) 1 false), .g 19 true 25 (.bin 24 .sub (.s 23) (qi 1)), .g 19 true 26 (.call 26 103 false [(.s 21),(qi 0),(.s 24)]), .i (.pick 26 (.s 19) (.s 25) (qb false)),qm 27 26, .g 27 true 29 (.fad 28 (.s 3) 3), .g 27 true 30 (.ldl 29 3 (.s 28) 1 false), .g 27 true 31 (.fad 30 (.s 3) 4), .g 27 true 32 (.ldl 31 3 (.s 30) 1 false), .g 27 true 33 (.bsl 32 24 1 2 [.nils] [(0,1,(.s 29)),(1,1,(.s 31))]), .g 27 true 34 (.call 34 295 false [(.s 32)]), .i (.pick 34 (.s 27) (.s 33) (qb false)),qm 35 34, .g 35 true 37 (.ldl 36 3 (.s 3) 10 true), .g 35 true 38 (.call 38 280 false [(.s 36)]), .i (.pick 38 (.s 35) (.s 37) (qb false)),qm 4 38]) .ret))⟩
theorem AL:cd qK=some rB:=by kernel_rfl
theorem gK (l:ax) (h:Head) (hw:h.wf):VC cd qK (aJ [(true,l.c),(true,h.c)]) (fun rs _=>rs=bl (cf l h)):=by
 obtain⟨w1,w2,w3,w4,w5,w6⟩:=hw
 have w2':=w2
 simp only[ma,Sz]at w1 w2 w3 w4 w5
 refine aa AL rfl ?_
 simp(disch:=omega) [rB,ax.c,Head.c,VY]
 refine ah (j9 l h.qc w6) rfl rfl ?_
 simp(disch:=omega) [VY]
 refine ak (fun h1=> ?_) (fun h1=> ?_) <;>simp(disch:=omega) [h1,cf,VY]
 have hn:=jU (m0 h1)
 refine ah (fb _) rfl rfl ?_
 simp(disch:=omega) [h1,VY]
 refine ak (fun h2=> ?_) (fun h2=> ?_) <;>simp(disch:=omega) [h1,h2,VY]
 refine ah (aQ _ _ _) rfl rfl ?_
 simp(disch:=omega) [h1,h2,VY]
 refine ak (fun h3=> ?_) (fun h3=> ?_) <;>simp(disch:=omega) [h1,h2,h3,VY]
 refine ah (aQ _ _ _) rfl rfl ?_
 simp(disch:=omega) [h1,h2,h3,VY]
 refine ak (fun h4=> ?_) (fun h4=> ?_) <;>simp(disch:=omega) [h1,h2,h3,h4,VY]
 refine ah (cI [h.parent,h.root] (by simp)) rfl rfl ?_
 simp(disch:=omega) [h1,h2,h3,h4,VY]
 refine ak (fun h5=> ?_) (fun h5=> ?_)
 ·have h6:hash h.parent=true∧hash h.root=true:=by simpa[si]using h5
  simp(disch:=omega) [h1,h2,h3,h4,h5,VY]
  refine ah (F7 h (fg h3).1 w2') rfl rfl ?_
  simp(disch:=omega) [h1,h2,h3,h4,h5,h6,VY]
 ·simp(disch:=omega) [h1,h2,h3,h4,h5,VY]
  rw[si]at h5
  simp only[Bool.and_eq_false_iff]at h5
  rcases h5 with h5|h5 <;>simp[h5]
abbrev qJ:Nat:=221
def rf:AF:=⟨2,6,[.tmp 4],(.seq (.ops [.i (.lbox 2 (.s 0)), .i (.lbox 3 (.s 1)), .i (.mov 4 (qb false))]) (.seq (.ops [ql 5 2 2 5 true,qk 7 66 5,qm 7 6, .g 7 true 9 (.fad 8 (.s 3) 0), .g 7 true 10 (.ldl 9 3 (.s 8) 1 false), .g 7 true 11 (.call 11 78 false [(.s 9)]), .i (.pick 11 (.s 7) (.s 10) (qb false)),qm 12 11, .g 12 true 14 (.fad 13 (.s 3) 1), .g 12 true 15 (.ldl 14 3 (.s 13) 1 false), .g 12 true 16 (.call 16 67 false [(.s 14),(qi 1),(qi 1152921504606846975)]), .i (.pick 16 (.s 12) (.s 15) (qb false)),qm 17 16, .g 17 true 19 (.fad 18 (.s 3) 2), .g 17 true 20 (.ldl 19 3 (.s 18) 1 false), .g 17 true 21 (.fad 20 (.s 2) 0), .g 17 true 22 (.ldl 21 2 (.s 20) 1 false), .g 17 true 23 (.bin 22 .sub (.s 21) (qi 1)), .g 17 true 24 (.call 24 67 false [(.s 19),(qi 0),(.s 22)]), .i (.pick 24 (.s 17) (.s 23) (qb false)),qm 25 24, .g 25 true 27 (.fad 26 (.s 3) 3), .g 25 true 28 (.ldl 27 3 (.s 26) 1 false), .g 25 true 29 (.call 29 286 false [(.s 27)]), .i (.pick 29 (.s 25) (.s 28) (qb false)),qm 30 29, .g 30 true 32 (.fad 31 (.s 3) 4), .g 30 true 33 (.ldl 32 3 (.s 31) 1 false), .g 30 true 34 (.call 34 286 false [(.s 32)]), .i (.pick 34 (.s 30) (.s 33) (qb false)),qm 35 34, .g 35 true 37 (.ldl 36 2 (.s 2) 5 true), .g 35 true 38 (.fad 37 (.s 3) 5), .g 35 true 39 (.ldl 38 3 (.s 37) 5 true), .g 35 true 40 (.call 40 220 false [(.s 36),(.s 38)]), .i (.pick 40 (.s 35) (.s 39) (qb false)),qm 41 40, .g 41 true 43 (.ldl 42 3 (.s 3) 10 true), .g 41 true 44 (.call 44 188 false [(.s 42)]), .i (.pick 44 (.s 41) (.s 43) (qb false)),qm 4 44]) .ret))⟩
theorem Be:cd qJ=some rf:=by kernel_rfl
theorem hU (l:ax) (h:Head) (hw:h.wf):VC cd qJ (aJ [(true,l.c),(true,h.c)]) (fun rs _=>rs=bl (cf l h)):=by
 obtain⟨w1,w2,w3,w4,w5,w6⟩:=hw
 have w2':=w2
 simp only[ma,Sz]at w1 w2 w3 w4 w5
 have hlim:l.ok=false→gU l h.qc=false:=fun e=>by simp[gU,e]
 refine aa Be rfl ?_
 simp(disch:=omega) [rf,ax.c,Head.c,VY]
 refine ah (bO l) rfl rfl ?_
 simp(disch:=omega) [VY]
 refine ak (fun h0=> ?_) (fun h0=> ?_)
 case refine_2=>simp(disch:=omega) [h0,cf,hlim h0,VY]
 simp(disch:=omega) [h0,VY]
 have hn:=jU h0
 refine ah (eJ _) rfl rfl ?_
 simp(disch:=omega) [h0,VY]
 refine ak (fun h2=> ?_) (fun h2=> ?_) <;>simp(disch:=omega) [h0,h2,cf,VY]
 refine ah (bq _ _ _) rfl rfl ?_
 simp(disch:=omega) [h0,h2,VY]
 refine ak (fun h3=> ?_) (fun h3=> ?_) <;>simp(disch:=omega) [h0,h2,h3,VY]
 refine ah (bq _ _ _) rfl rfl ?_
 simp(disch:=omega) [h0,h2,h3,VY]
 refine ak (fun h4=> ?_) (fun h4=> ?_) <;>simp(disch:=omega) [h0,h2,h3,h4,VY]
 refine ah (eB _) rfl rfl ?_
 simp(disch:=omega) [h0,h2,h3,h4,VY]
 refine ak (fun h5=> ?_) (fun h5=> ?_) <;>simp(disch:=omega) [h0,h2,h3,h4,h5,VY]
 refine ah (eB _) rfl rfl ?_
 simp(disch:=omega) [h0,h2,h3,h4,h5,VY]
 refine ak (fun h6=> ?_) (fun h6=> ?_) <;>simp(disch:=omega) [h0,h2,h3,h4,h5,h6,VY]
 refine ah (j3 l h.qc w6) rfl rfl ?_
 simp(disch:=omega) [h0,h2,h3,h4,h5,h6,VY]
 refine ak (fun h1=> ?_) (fun h1=> ?_) <;>simp(disch:=omega) [h0,h1,h2,h3,h4,h5,h6,VY]
 refine ah (FY h (fg h3).1 w2') rfl rfl ?_
 simp(disch:=omega) [h0,h1,h2,h3,h4,h5,h6,VY]
def gD (l:List Head):List (List D):=l.map Head.c
theorem cL (l:List Head):(gD l).length=l.length:=by simp[gD]
theorem ew {l:List Head} {i:Nat} (h:i < l.length):(gD l)[i]? =some l[i].c:=by simp[gD,h]
def ke (l:ax) (hs:List Head):Bool:=hs.all (cf l)
theorem xX {l:ax} {hs:List Head} (h:∀x∈hs.take hs.length,cf l x=true):ke l hs=true:=by
 rw[List.take_length]at h
 simpa[ke]using h
theorem y9 {l:ax} {hs:List Head} {i:Nat} (hi:i < hs.length) (h:cf l hs[i]=false):ke l hs=false:=by
 simp only[ke,List.all_eq_false]
 exact⟨hs[i],List.getElem_mem hi,by simp[h]⟩
def pE (hs:List Head):Prop:=Sz hs.length∧∀h∈hs,h.wf
abbrev kU:Nat:=298
def kL:AF:=⟨2,5,[.tmp 4],(.seq (.ops [.i (.lbox 2 (.s 0)), .i (.mov 4 (qb false))]) (.seq (.seq (.ops [qm 7 1,qn 8 7, .i (.mov 9 (qi 0))]) (.block 0 (.loop [17,16,15,14,13,12,11,10,6] (.seq (.ops [qd 10 .lss 9 8]) (.seq (.cond (.s 10) .skip (.exit 0)) (.seq (.block 1 (.seq (.ops [.i (.iad 11 (.s 7) (.s 9) 10), .i (.ldh 12 (.s 11) 10 true), .i (.lal 6 qz),qs 6 6 12 10]) (.seq (.ops [ql 13 2 2 5 true,ql 14 6 6 10 true, .i (.call 16 240 false [(.s 13),(.s 14)]), .i (.not 16 (.s 15))]) (.cond (.s 16) (.seq (.ops [.i (.mov 4 (qb false))]) .ret) .skip)))) (.ops [.i (.bin 17 .add (.s 9) (qi 1)),qm 9 17]))))))) (.seq (.ops [.i (.mov 4 (qb true))]) .ret)))⟩
theorem wI:cd kU=some kL:=by kernel_rfl
theorem Ec (l:ax) (hs:List Head) (hw:pE hs):VC cd kU (aJ [(true,l.c),(false,[.sl (gD hs)])]) (fun rs _=>rs=bl (ke l hs)):=by
 obtain⟨w1,w2⟩:=hw
 simp only[Sz]at w1
 refine aa wI rfl ?_
 simp(disch:=omega) [kL,ax.c,cL,VY]
 refine aO (σ:=Nat) (f1:=_) (es0:=_) (by simp(disch:=omega) [VY];rfl) (by simp(disch:=omega) [VY];rfl) (fun i=> [(9, .val false [.int .i64 i])]) (fun _=> []) (fun i g=>g+i=hs.length∧∀x∈hs.take i,cf l x=true) 0 hs.length (by simp(disch:=omega) [VY]) (by simp(disch:=omega) [VY]) ⟨by omega,by simp⟩ ?_
 rintro i n g ⟨hg,hi⟩
 simp(disch:=omega) [VY]
 refine ab (fun h1=> ?_) (fun h1=> ?_)
 ·have hx:i < hs.length:=by omega
  simp(disch:=omega) [ew hx,Head.c,VY]
  refine ah (gK l hs[i] (w2 _ (List.getElem_mem hx))) rfl rfl ?_
  simp(disch:=omega) [VY]
  refine ak (fun h2=> ?_) (fun h2=> ?_)
  ·simp(disch:=omega) [VY]
   exact⟨i+1,g - 1,by omega,⟨by omega,gV hi hx h2⟩,by simp⟩
  ·simp(disch:=omega) [VY]
   exact y9 hx h2
 ·simp(disch:=omega) [VY]
  have:i=hs.length:=by omega
  subst this
  exact xX hi
end Go.Eng.F
namespace Go.Eng.F
structure Proof where
 heads:List Head
 qc:Qc
def Proof.c (p:Proof):List D:= [.sl (gD p.heads), .int .i64 p.qc.view, .int .i64 p.qc.height, .sl (bytes p.qc.block), .sl (bytes p.qc.bits), .sl (cS p.qc.tags)]
def Proof.wf (p:Proof):Prop:=pE p.heads∧p.qc.wf
def uK (p:Proof):Bool:=match p.heads[p.heads.length - 1]? with|some h=>decide (p.qc.view=h.view) && decide (p.qc.height=h.height)|none=>false
theorem BE {p:Proof} (h:p.heads.length - 1 < p.heads.length):uK p=(decide (p.qc.view=p.heads[p.heads.length - 1].view) && decide (p.qc.height=p.heads[p.heads.length - 1].height)):=by simp[uK,h]
abbrev gf:Nat:=283
def gp:AF:=⟨1,5,[.tmp 2],(.seq (.ops [.i (.lbox 1 (.s 0)), .i (.mov 2 (qb false))]) (.seq (.ops [qf 4 1 0,ql 5 1 4 1 false,qf 6 1 0,ql 7 1 6 1 false,qn 8 7, .i (.bin 9 .sub (.s 8) (qi 1)), .i (.iad 10 (.s 5) (.s 9) 10), .i (.ldh 11 (.s 10) 10 true), .i (.lal 3 qz),qs 3 3 11 10]) (.seq (.ops [qf 12 1 1,qf 13 12 0,ql 14 1 13 1 false,qf 15 3 0,ql 16 3 15 1 false,qd 17 .eql 14 16,qm 18 17, .g 18 true 20 (.fad 19 (.s 1) 1), .g 18 true 21 (.fad 20 (.s 19) 1), .g 18 true 22 (.ldl 21 1 (.s 20) 1 false), .g 18 true 23 (.fad 22 (.s 3) 1), .g 18 true 24 (.ldl 23 3 (.s 22) 1 false), .g 18 true 25 (.bin 24 .eql (.s 21) (.s 23)), .i (.pick 25 (.s 18) (.s 24) (qb false)),qm 2 25]) .ret)))⟩
theorem pS:cd gf=some gp:=by kernel_rfl
theorem Im (p:Proof) (h0:0 < p.heads.length) (hw:p.wf):VC cd gf (aJ [(true,p.c)]) (fun rs _=>rs=bl (uK p)):=by
 have w1:p.heads.length≤1073741824:=hw.1.1
 have hx:p.heads.length - 1 < p.heads.length:=by omega
 have e1:((p.heads.length:Int) - 1).toNat=p.heads.length - 1:=by omega
 have e2:(1:Int)≤(p.heads.length:Int):=by omega
 rw[BE hx]
 refine aa pS rfl ?_
 simp(disch:=omega) [gp,Proof.c,cL,e1,e2,ew hx,Head.c,VY]
 refine ab (fun h1=> ?_) (fun h1=> ?_) <;>simp(disch:=omega) [h1,VY]
abbrev mJ:Nat:=192
def oF:AF:=⟨1,5,[.tmp 2],(.seq (.ops [.i (.lbox 1 (.s 0)), .i (.mov 2 (qb false))]) (.seq (.ops [qf 4 1 0,ql 5 1 4 1 false,qf 6 1 0,ql 7 1 6 1 false,qn 8 7, .i (.bin 9 .sub (.s 8) (qi 1)), .i (.iad 10 (.s 5) (.s 9) 10), .i (.ldh 11 (.s 10) 10 true), .i (.lal 3 qz),qs 3 3 11 10]) (.seq (.ops [qf 12 1 1,qf 13 12 0,ql 14 1 13 1 false,qf 15 3 0,ql 16 3 15 1 false,qd 17 .eql 14 16,qm 18 17, .g 18 true 20 (.fad 19 (.s 1) 1), .g 18 true 21 (.fad 20 (.s 19) 1), .g 18 true 22 (.ldl 21 1 (.s 20) 1 false), .g 18 true 23 (.fad 22 (.s 3) 1), .g 18 true 24 (.ldl 23 3 (.s 22) 1 false), .g 18 true 25 (.bin 24 .eql (.s 21) (.s 23)), .i (.pick 25 (.s 18) (.s 24) (qb false)),qm 2 25]) .ret)))⟩
theorem yJ:cd mJ=some oF:=by kernel_rfl
theorem Gg (p:Proof) (h0:0 < p.heads.length) (hw:p.wf):VC cd mJ (aJ [(true,p.c)]) (fun rs _=>rs=bl (uK p)):=by
 have w1:p.heads.length≤1073741824:=hw.1.1
 have hx:p.heads.length - 1 < p.heads.length:=by omega
 have e1:((p.heads.length:Int) - 1).toNat=p.heads.length - 1:=by omega
 have e2:(1:Int)≤(p.heads.length:Int):=by omega
 rw[BE hx]
 refine aa yJ rfl ?_
 simp(disch:=omega) [oF,Proof.c,cL,e1,e2,ew hx,Head.c,VY]
 refine ab (fun h1=> ?_) (fun h1=> ?_) <;>simp(disch:=omega) [h1,VY]
def de (l:ax) (p:Proof):Bool:=eb p.heads.length 3 l.heads && ke l p.heads && gU l p.qc && uK p
abbrev mK:Nat:=245
def oK:AF:=⟨2,5,[.tmp 4],(.seq (.ops [.i (.lbox 2 (.s 0)), .i (.lbox 3 (.s 1)), .i (.mov 4 (qb false))]) (.seq (.ops [qf 5 3 0,ql 6 3 5 1 false,qn 7 6,qf 8 2 4,ql 9 2 8 1 false, .i (.call 11 103 false [(.s 7),(qi 3),(.s 9)]),qm 11 10, .g 11 true 13 (.ldl 12 2 (.s 2) 5 true), .g 11 true 14 (.fad 13 (.s 3) 0), .g 11 true 15 (.ldl 14 3 (.s 13) 1 false), .g 11 true 16 (.call 16 298 false [(.s 12),(.s 14)]), .i (.pick 16 (.s 11) (.s 15) (qb false)),qm 17 16, .g 17 true 19 (.ldl 18 2 (.s 2) 5 true), .g 17 true 20 (.fad 19 (.s 3) 1), .g 17 true 21 (.ldl 20 3 (.s 19) 5 true), .g 17 true 22 (.call 22 238 false [(.s 18),(.s 20)]), .i (.pick 22 (.s 17) (.s 21) (qb false)),qm 23 22, .g 23 true 25 (.ldl 24 3 (.s 3) 6 true), .g 23 true 26 (.call 26 283 false [(.s 24)]), .i (.pick 26 (.s 23) (.s 25) (qb false)),qm 4 26]) .ret))⟩
theorem Af:cd mK=some oK:=by kernel_rfl
theorem xg (l:ax) (p:Proof) (hw:p.wf):VC cd mK (aJ [(true,l.c),(true,p.c)]) (fun rs _=>rs=bl (de l p)):=by
 have w1:p.heads.length≤1073741824:=hw.1.1
 refine aa Af rfl ?_
 simp(disch:=omega) [oK,ax.c,Proof.c,cL,VY]
 refine ah (aQ _ _ _) rfl rfl ?_
 simp(disch:=omega) [VY]
 refine ak (fun h1=> ?_) (fun h1=> ?_) <;>simp(disch:=omega) [h1,de,VY]
 refine ah (Ec l p.heads hw.1) rfl rfl ?_
 simp(disch:=omega) [h1,VY]
 refine ak (fun h2=> ?_) (fun h2=> ?_) <;>simp(disch:=omega) [h1,h2,VY]
 refine ah (j9 l p.qc hw.2) rfl rfl ?_
 simp(disch:=omega) [h1,h2,VY]
 refine ak (fun h3=> ?_) (fun h3=> ?_) <;>simp(disch:=omega) [h1,h2,h3,VY]
 refine ah (Im p (by have:=fg h1;omega) hw) rfl rfl ?_
 simp(disch:=omega) [h1,h2,h3,VY]
abbrev ny:Nat:=225
def nc:AF:=⟨2,6,[.tmp 4],(.seq (.ops [.i (.lbox 2 (.s 0)), .i (.lbox 3 (.s 1)), .i (.mov 4 (qb false))]) (.seq (.seq (.ops [ql 7 2 2 5 true,qk 9 66 7, .i (.not 9 (.s 8)),qm 10 9, .g 10 false 12 (.fad 11 (.s 3) 0), .g 10 false 13 (.ldl 12 3 (.s 11) 1 false), .g 10 false 14 (.len 13 false (.s 12)), .g 10 false 15 (.fad 14 (.s 2) 4), .g 10 false 16 (.ldl 15 2 (.s 14) 1 false), .g 10 false 17 (.call 17 67 false [(.s 13),(qi 3),(.s 15)]), .g 10 false 18 (.not 17 (.s 16)), .i (.pick 18 (.s 10) (qb true) (.s 17))]) (.cond (.s 18) (.seq (.ops [.i (.mov 4 (qb false))]) .ret) .skip)) (.seq (.seq (.ops [qf 19 3 0,ql 20 3 19 1 false,qn 21 20, .i (.mov 22 (qi 0))]) (.block 0 (.loop [30,29,28,27,26,25,24,23,6] (.seq (.ops [qd 23 .lss 22 21]) (.seq (.cond (.s 23) .skip (.exit 0)) (.seq (.block 1 (.seq (.ops [.i (.iad 24 (.s 20) (.s 22) 10), .i (.ldh 25 (.s 24) 10 true), .i (.lal 6 qz),qs 6 6 25 10]) (.seq (.ops [ql 26 2 2 5 true,ql 27 6 6 10 true, .i (.call 29 221 false [(.s 26),(.s 27)]), .i (.not 29 (.s 28))]) (.cond (.s 29) (.seq (.ops [.i (.mov 4 (qb false))]) .ret) .skip)))) (.ops [.i (.bin 30 .add (.s 22) (qi 1)),qm 22 30]))))))) (.seq (.ops [ql 31 2 2 5 true,qf 32 3 1,ql 33 3 32 5 true, .i (.call 35 220 false [(.s 31),(.s 33)]),qm 35 34, .g 35 true 37 (.ldl 36 3 (.s 3) 6 true), .g 35 true 38 (.call 38 192 false [(.s 36)]), .i (.pick 38 (.s 35) (.s 37) (qb false)),qm 4 38]) .ret))))⟩
theorem zi:cd ny=some nc:=by kernel_rfl
theorem wP (l:ax) (p:Proof) (hw:p.wf):VC cd ny (aJ [(true,l.c),(true,p.c)]) (fun rs _=>rs=bl (de l p)):=by
 have w1:p.heads.length≤1073741824:=hw.1.1
 have hlim:l.ok=false→gU l p.qc=false:=fun e=>by simp[gU,e]
 refine aa zi rfl ?_
 simp(disch:=omega) [nc,ax.c,Proof.c,cL,VY]
 refine ah (bO l) rfl rfl ?_
 simp(disch:=omega) [VY]
 refine ak (fun h0=> ?_) (fun h0=> ?_)
 case refine_2=>simp(disch:=omega) [h0,de,hlim h0,VY]
 simp(disch:=omega) [h0,cL,VY]
 refine ah (bq _ _ _) rfl rfl ?_
 simp(disch:=omega) [h0,VY]
 refine ak (fun h1=> ?_) (fun h1=> ?_)
 case refine_2=>simp(disch:=omega) [h0,h1,de,VY]
 simp(disch:=omega) [h0,h1,cL,VY]
 refine aO (σ:=Nat) (f1:=_) (es0:=_) (by simp(disch:=omega) [VY];rfl) (by simp(disch:=omega) [VY];rfl) (fun i=> [(22, .val false [.int .i64 i])]) (fun _=> []) (fun i g=>g+i=p.heads.length∧∀x∈p.heads.take i,cf l x=true) 0 p.heads.length (by simp(disch:=omega) [VY]) (by simp(disch:=omega) [VY]) ⟨by omega,by simp⟩ ?_
 rintro i n g ⟨hg,hi⟩
 simp(disch:=omega) [VY]
 refine ab (fun h2=> ?_) (fun h2=> ?_)
 ·have hx:i < p.heads.length:=by omega
  simp(disch:=omega) [ew hx,Head.c,VY]
  refine ah (hU l p.heads[i] (hw.1.2 _ (List.getElem_mem hx))) rfl rfl ?_
  simp(disch:=omega) [VY]
  refine ak (fun h3=> ?_) (fun h3=> ?_)
  ·simp(disch:=omega) [VY]
   exact⟨i+1,g - 1,by omega,⟨by omega,gV hi hx h3⟩,by simp⟩
  ·simp(disch:=omega) [de,y9 hx h3,VY]
 ·have hl:i=p.heads.length:=by omega
  subst hl
  have h4:=xX hi
  simp(disch:=omega) [VY]
  refine ah (j3 l p.qc hw.2) rfl rfl ?_
  simp(disch:=omega) [VY]
  refine ak (fun h5=> ?_) (fun h5=> ?_) <;>simp(disch:=omega) [h5,h4,h1,de,VY]
  refine ah (Gg p (by have:=fg h1;omega) hw) rfl rfl ?_
  simp(disch:=omega) [h5,h4,h1,VY]
abbrev jQ:Nat:=47
def jd:AF:=⟨1,3,[.tmp 2],(.seq (.ops [.i (.mov 2 (.c (.val false [.nils])))]) (.seq (.ops [.i (.bse 3),qm 4 0, .i (.app 5 5 1 1 (.s 3) (.s 4)),qm 2 5]) .ret))⟩
theorem vI:cd jQ=some jd:=by kernel_rfl
theorem aH (x:Bytes) (hx:x.length≤1099511627776):VC cd jQ (aJ [(false,[.sl (bytes x)])]) (fun rs _=>rs= [(false,[.o true (some (5,1)) (bytes x)])]):=by
 refine aa vI rfl ?_
 simp(disch:=omega) [jd,VY]
abbrev oZ:Nat:=43
def mc:AF:=⟨1,3,[.tmp 2],(.seq (.ops [.i (.mov 2 (.c (.val false [.nils])))]) (.seq (.ops [.i (.bse 3),qm 4 0, .i (.app 5 5 1 1 (.s 3) (.s 4)),qm 2 5]) .ret))⟩
theorem y7:cd oZ=some mc:=by kernel_rfl
theorem cv (x:Bytes) (hx:x.length≤1099511627776):VC cd oZ (aJ [(false,[.sl (bytes x)])]) (fun rs _=>rs= [(false,[.o true (some (5,1)) (bytes x)])]):=by
 refine aa y7 rfl ?_
 simp(disch:=omega) [mc,VY]
def Bv (l:List Bytes):Prop:=Sz l.length∧∀x∈l,Sz x.length
theorem xG (l:List Bytes):wid 1 (cS l)=true:=by
 induction l with
 |nil=>rfl
 |cons b x ih=>simp only[cS,List.map_cons,wid]at ih⊢;simpa using ih
theorem Fe {l:List Bytes} {i:Nat} (h:i < l.length):cS (l.take i)++ [[.sl (bytes l[i])]]=cS (l.take (i+1)):=by
 have e:cS (l.take (i+1))=cS (l.take i)++cS [l[i]]:=by
  rw[List.take_add_one,List.getElem?_eq_getElem h];exact List.map_append
 rw[e];rfl
abbrev lQ:Nat:=315
def lT:AF:=⟨1,5,[.tmp 2],(.seq (.ops [.i (.mov 2 (.c (.val false [.nils])))]) (.seq (.ops [.i (.bse 6),qm 3 6]) (.seq (.seq (.ops [qm 7 0,qn 8 7, .i (.mov 9 (qi 0))]) (.block 0 (.loop [18,17,16,15,14,13,12,11,10,5] (.seq (.ops [qd 10 .lss 9 8]) (.seq (.cond (.s 10) .skip (.exit 0)) (.seq (.block 1 (.seq (.ops [.i (.iad 11 (.s 7) (.s 9) 1), .i (.ldh 12 (.s 11) 1 false),qm 5 12]) (.ops [qm 13 3,qm 14 5,qk 16 47 14, .i (.lsl 16 1 1 [.nils] [(0,1,(.s 15))]), .i (.app 17 24 1 24 (.s 13) (.s 16)),qm 3 17]))) (.ops [.i (.bin 18 .add (.s 9) (qi 1)),qm 9 18]))))))) (.seq (.ops [qm 19 3,qm 2 19]) .ret))))⟩
theorem wB:cd lQ=some lT:=by kernel_rfl
theorem mC (l:List Bytes) (hw:Bv l):VC cd lQ (aJ [(false,[.sl (cS l)])]) (fun rs _=>rs= [(false,[.o true (some (24,1)) (cS l)])]):=by
 obtain⟨w1,w2⟩:=hw
 simp only[Sz]at w1 w2
 refine aa wB rfl ?_
 simp(disch:=omega) [lT,aw,VY]
 refine aO (σ:=Nat×Nat) (f1:=_) (es0:=_) (by simp(disch:=omega) [VY];rfl) (by simp(disch:=omega) [VY];rfl) (fun p=> [(9, .val false [.int .i64 p.1]),(3, .val false [.ow 6 p.2])]) (fun p=> [(6, .sl p.2 true true (some (24,1)) (cS (l.take p.1)))])
  (fun p g=>g+p.1=l.length) (0,1) l.length (by simp(disch:=omega) [VY]) (by simp(disch:=omega) [cS,VY]) (by omega) ?_
 rintro⟨i,v⟩ n g hg
 simp only at hg
 simp(disch:=omega) [VY]
 refine ab (fun h1=> ?_) (fun h1=> ?_)
 ·have hx:i < l.length:=by omega
  simp(disch:=omega) [cT hx,VY]
  refine ah (aH l[i] (by have:=w2 _ (List.getElem_mem hx);omega)) rfl rfl ?_
  have hl:(cS (l.take i)).length=i:=by rw[aw];simp;omega
  simp(disch:=omega) [hl,Fe hx,VY]
  exact⟨i+1,n+1,g - 1,by omega,by omega,⟨by omega,by omega⟩,by omega,rfl⟩
 ·simp(disch:=omega) [VY]
  have:i=l.length:=by omega
  subst this
  rw[List.take_length]
abbrev oa:Nat:=299
def oj:AF:=⟨1,5,[.tmp 2],(.seq (.ops [.i (.mov 2 (.c (.val false [.nils])))]) (.seq (.ops [.i (.bse 6),qm 3 6]) (.seq (.seq (.ops [qm 7 0,qn 8 7, .i (.mov 9 (qi 0))]) (.block 0 (.loop [18,17,16,15,14,13,12,11,10,5] (.seq (.ops [qd 10 .lss 9 8]) (.seq (.cond (.s 10) .skip (.exit 0)) (.seq (.block 1 (.seq (.ops [.i (.iad 11 (.s 7) (.s 9) 1), .i (.ldh 12 (.s 11) 1 false),qm 5 12]) (.ops [qm 13 3,qm 14 5,qk 16 43 14, .i (.lsl 16 1 1 [.nils] [(0,1,(.s 15))]), .i (.app 17 24 1 24 (.s 13) (.s 16)),qm 3 17]))) (.ops [.i (.bin 18 .add (.s 9) (qi 1)),qm 9 18]))))))) (.seq (.ops [qm 19 3,qm 2 19]) .ret))))⟩
theorem zN:cd oa=some oj:=by kernel_rfl
theorem rR (l:List Bytes) (hw:Bv l):VC cd oa (aJ [(false,[.sl (cS l)])]) (fun rs _=>rs= [(false,[.o true (some (24,1)) (cS l)])]):=by
 obtain⟨w1,w2⟩:=hw
 simp only[Sz]at w1 w2
 refine aa zN rfl ?_
 simp(disch:=omega) [oj,aw,VY]
 refine aO (σ:=Nat×Nat) (f1:=_) (es0:=_) (by simp(disch:=omega) [VY];rfl) (by simp(disch:=omega) [VY];rfl) (fun p=> [(9, .val false [.int .i64 p.1]),(3, .val false [.ow 6 p.2])]) (fun p=> [(6, .sl p.2 true true (some (24,1)) (cS (l.take p.1)))])
  (fun p g=>g+p.1=l.length) (0,1) l.length (by simp(disch:=omega) [VY]) (by simp(disch:=omega) [cS,VY]) (by omega) ?_
 rintro⟨i,v⟩ n g hg
 simp only at hg
 simp(disch:=omega) [VY]
 refine ab (fun h1=> ?_) (fun h1=> ?_)
 ·have hx:i < l.length:=by omega
  simp(disch:=omega) [cT hx,VY]
  refine ah (cv l[i] (by have:=w2 _ (List.getElem_mem hx);omega)) rfl rfl ?_
  have hl:(cS (l.take i)).length=i:=by rw[aw];simp;omega
  simp(disch:=omega) [hl,Fe hx,VY]
  exact⟨i+1,n+1,g - 1,by omega,by omega,⟨by omega,by omega⟩,by omega,rfl⟩
 ·simp(disch:=omega) [VY]
  have:i=l.length:=by omega
  subst this
  rw[List.take_length]
def Qc.o (q:Qc):List E:= [.p (.int .i64 q.view), .p (.int .i64 q.height), .o true (some (5,1)) (bytes q.block), .o true (some (5,1)) (bytes q.bits), .o true (some (24,1)) (cS q.tags)]
def Qc.wc (q:Qc):Prop:=q.wf∧∀x∈q.tags,Sz x.length
theorem Qc.wc.t {q:Qc} (h:q.wc):Bv q.tags:=⟨h.1.2.2.2.2,h.2⟩
abbrev je:Nat:=289
def jF:AF:=⟨1,5,[.cell 2 5 true],(.seq (.ops [.i (.lbox 1 (.s 0)), .i (.lal 2 [.int .i64 0, .int .i64 0, .nils, .nils, .nils])]) (.seq (.ops [qf 3 1 0,ql 4 1 3 1 false,qf 5 1 1,ql 6 1 5 1 false,qf 7 1 2,ql 8 1 7 1 false,qk 10 47 8,qf 10 1 3,ql 11 1 10 1 false,qk 13 47 11,qf 13 1 4,ql 14 1 13 1 false,qk 16 315 14, .i (.bld 16 [.int .i64 0, .int .i64 0, .nils, .nils, .nils] [(0,1,(.s 4)),(1,1,(.s 6)),(2,1,(.s 9)),(3,1,(.s 12)),(4,1,(.s 15))]),qs 2 2 16 5]) .ret))⟩
theorem vo:cd je=some jF:=by kernel_rfl
theorem kn (q:Qc) (hw:q.wc):VC cd je (aJ [(true,q.c)]) (fun rs _=>rs= [(true,q.o)]):=by
 have ht:=hw.t
 obtain⟨⟨w1,w2,w3,w4,w5⟩,w6⟩:=hw
 simp only[Sz]at w3 w4
 refine aa vo rfl ?_
 simp(disch:=omega) [jF,Qc.c,VY]
 refine ah (aH _ (by omega)) rfl rfl ?_
 simp(disch:=omega) [VY]
 refine ah (aH _ (by omega)) rfl rfl ?_
 simp(disch:=omega) [VY]
 refine ah (mC _ ht) rfl rfl ?_
 simp(disch:=omega) [Qc.o,VY]
abbrev nq:Nat:=250
def m9:AF:=⟨1,5,[.cell 2 5 true],(.seq (.ops [.i (.lbox 1 (.s 0)), .i (.lal 2 [.int .i64 0, .int .i64 0, .nils, .nils, .nils])]) (.seq (.ops [qf 3 1 0,ql 4 1 3 1 false,qf 5 1 1,ql 6 1 5 1 false,qf 7 1 2,ql 8 1 7 1 false,qk 10 43 8,qf 10 1 3,ql 11 1 10 1 false,qk 13 43 11,qf 13 1 4,ql 14 1 13 1 false,qk 16 299 14, .i (.bld 16 [.int .i64 0, .int .i64 0, .nils, .nils, .nils] [(0,1,(.s 4)),(1,1,(.s 6)),(2,1,(.s 9)),(3,1,(.s 12)),(4,1,(.s 15))]),qs 2 2 16 5]) .ret))⟩
theorem yh:cd nq=some m9:=by kernel_rfl
theorem sx (q:Qc) (hw:q.wc):VC cd nq (aJ [(true,q.c)]) (fun rs _=>rs= [(true,q.o)]):=by
 have ht:=hw.t
 obtain⟨⟨w1,w2,w3,w4,w5⟩,w6⟩:=hw
 simp only[Sz]at w3 w4
 refine aa yh rfl ?_
 simp(disch:=omega) [m9,Qc.c,VY]
 refine ah (cv _ (by omega)) rfl rfl ?_
 simp(disch:=omega) [VY]
 refine ah (cv _ (by omega)) rfl rfl ?_
 simp(disch:=omega) [VY]
 refine ah (rR _ ht) rfl rfl ?_
 simp(disch:=omega) [Qc.o,VY]
def Head.o (h:Head):List E:= [.p (.int .i64 h.view), .p (.int .i64 h.height), .p (.int .i64 h.proposer), .o true (some (5,1)) (bytes h.parent), .o true (some (5,1)) (bytes h.root), .p (.int .i64 h.qc.view), .p (.int .i64 h.qc.height), .o true (some (5,1)) (bytes h.qc.block), .o true (some (5,1)) (bytes h.qc.bits), .o true (some (24,1)) (cS h.qc.tags)]
def Head.wc (h:Head):Prop:=h.wf∧∀x∈h.qc.tags,Sz x.length
abbrev gM:Nat:=290
def gQ:AF:=⟨1,5,[.cell 2 10 true],(.seq (.ops [.i (.lbox 1 (.s 0)), .i (.lal 2 qz)]) (.seq (.ops [qf 3 1 0,ql 4 1 3 1 false,qf 5 1 1,ql 6 1 5 1 false,qf 7 1 2,ql 8 1 7 1 false,qf 9 1 3,ql 10 1 9 1 false,qk 12 47 10,qf 12 1 4,ql 13 1 12 1 false,qk 15 47 13,qf 15 1 5,ql 16 1 15 5 true,qk 18 289 16, .i (.bld 18 qz [(0,1,(.s 4)),(1,1,(.s 6)),(2,1,(.s 8)),(3,1,(.s 11)),(4,1,(.s 14)),(5,5,(.s 17))]),qs 2 2 18 10]) .ret))⟩
theorem rY:cd gM=some gQ:=by kernel_rfl
theorem hX (h:Head) (hw:h.wc):VC cd gM (aJ [(true,h.c)]) (fun rs _=>rs= [(true,h.o)]):=by
 obtain⟨⟨w1,w2,w3,w4,w5,w6⟩,w7⟩:=hw
 simp only[Sz]at w4 w5
 refine aa rY rfl ?_
 simp(disch:=omega) [gQ,Head.c,VY]
 refine ah (aH _ (by omega)) rfl rfl ?_
 simp(disch:=omega) [VY]
 refine ah (aH _ (by omega)) rfl rfl ?_
 simp(disch:=omega) [VY]
 refine ah (kn h.qc ⟨w6,w7⟩) rfl rfl ?_
 simp(disch:=omega) [Head.o,Qc.o,VY]
abbrev oT:Nat:=252
def nV:AF:=⟨1,5,[.cell 2 10 true],(.seq (.ops [.i (.lbox 1 (.s 0)), .i (.lal 2 qz)]) (.seq (.ops [qf 3 1 0,ql 4 1 3 1 false,qf 5 1 1,ql 6 1 5 1 false,qf 7 1 2,ql 8 1 7 1 false,qf 9 1 3,ql 10 1 9 1 false,qk 12 43 10,qf 12 1 4,ql 13 1 12 1 false,qk 15 43 13,qf 15 1 5,ql 16 1 15 5 true,qk 18 250 16, .i (.bld 18 qz [(0,1,(.s 4)),(1,1,(.s 6)),(2,1,(.s 8)),(3,1,(.s 11)),(4,1,(.s 14)),(5,5,(.s 17))]),qs 2 2 18 10]) .ret))⟩
theorem zK:cd oT=some nV:=by kernel_rfl
theorem so (h:Head) (hw:h.wc):VC cd oT (aJ [(true,h.c)]) (fun rs _=>rs= [(true,h.o)]):=by
 obtain⟨⟨w1,w2,w3,w4,w5,w6⟩,w7⟩:=hw
 simp only[Sz]at w4 w5
 refine aa zK rfl ?_
 simp(disch:=omega) [nV,Head.c,VY]
 refine ah (cv _ (by omega)) rfl rfl ?_
 simp(disch:=omega) [VY]
 refine ah (cv _ (by omega)) rfl rfl ?_
 simp(disch:=omega) [VY]
 refine ah (sx h.qc ⟨w6,w7⟩) rfl rfl ?_
 simp(disch:=omega) [Head.o,Qc.o,VY]
end Go.Eng.F
namespace Go.Eng.F
def word (x:Int):Bool:=eb x 0 4294967295
abbrev qS:Nat:=247
def pZ:AF:=⟨1,3,[.tmp 2],(.seq (.ops [.i (.mov 2 (qb false))]) (.seq (.ops [qm 3 0, .i (.call 5 103 false [(.s 3),(qi 0),(qi 4294967295)]),qm 2 4]) .ret))⟩
theorem AS:cd qS=some pZ:=by kernel_rfl
theorem uU (x:Int):VC cd qS (aJ [(false,[.int .i64 x])]) (fun rs _=>rs=bl (word x)):=by
 refine aa AS rfl ?_
 simp(disch:=omega) [pZ,VY]
 refine ah (aQ _ _ _) rfl rfl ?_
 simp(disch:=omega) [word,VY]
abbrev mX:Nat:=318
def nn:AF:=⟨1,3,[.tmp 2],(.seq (.ops [.i (.mov 2 (qb false))]) (.seq (.ops [qm 3 0, .i (.call 5 67 false [(.s 3),(qi 0),(qi 4294967295)]),qm 2 4]) .ret))⟩
theorem yk:cd mX=some nn:=by kernel_rfl
theorem FU (x:Int):VC cd mX (aJ [(false,[.int .i64 x])]) (fun rs _=>rs=bl (word x)):=by
 refine aa yk rfl ?_
 simp(disch:=omega) [nn,VY]
 refine ah (bq _ _ _) rfl rfl ?_
 simp(disch:=omega) [word,VY]
def turn (x:Int) (n:Nat):Int:=aF .and .i64 (aF .or .i64 (x.fdiv (2 ^ n)) (IntKind.i64.wrap (x * 2 ^ (32 - n)))) 4294967295
abbrev mh:Nat:=319
def nI:AF:=⟨2,4,[.tmp 4],(.seq (.ops [.i (.mov 4 (qi 0))]) (.seq (.ops [qm 5 0,qm 6 1,qd 7 .shr 5 6,qm 8 0,qm 9 1, .i (.bin 10 .sub (qi 32) (.s 9)),qd 11 .shl 8 10,qd 12 .or 7 11, .i (.bin 13 .and (.s 12) (qi 4294967295)),qm 4 13]) .ret))⟩
theorem yt:cd mh=some nI:=by kernel_rfl
theorem c8 (x:Int) (n:Nat) (hn:n≤31):VC cd mh (aJ [(false,[.int .i64 x]),(false,[.int .i64 (n:Int)])]) (fun rs _=>rs=it (turn x n)):=by
 have e0:¬(n:Int) < 0:=by omega
 have e1:min n 64=n:=by omega
 have e2:¬(32:Int) - (n:Int) < 0:=by omega
 have e3:((32:Int) - (n:Int)).toNat=32 - n:=by omega
 have e4:min (32 - n) 64=32 - n:=by omega
 refine aa yt rfl ?_
 simp(disch:=omega) [nI,turn,e0,e1,e2,e3,e4,IntKind.bits,VY]
abbrev jo:Nat:=326
def jc:AF:=⟨2,5,[.tmp 4],(.seq (.ops [.i (.mov 4 (qi 0))]) (.seq (.seq (.ops [qm 5 0,qk 7 247 5, .i (.not 7 (.s 6)),qm 8 7, .g 8 false 10 (.mov 9 (.s 1)), .g 8 false 11 (.call 11 103 false [(.s 9),(qi 0),(qi 31)]), .g 8 false 12 (.not 11 (.s 10)), .i (.pick 12 (.s 8) (qb true) (.s 11))]) (.cond (.s 12) (.seq (.ops [.i (.mov 4 (qi 0))]) .ret) .skip)) (.seq (.ops [qm 13 0,qm 14 1,qd 15 .shr 13 14,qm 16 0,qm 17 1, .i (.bin 18 .sub (qi 32) (.s 17)),qd 19 .shl 16 18,qd 20 .or 15 19, .i (.bin 21 .and (.s 20) (qi 4294967295)),qm 4 21]) .ret)))⟩
theorem uZ:cd jo=some jc:=by kernel_rfl
theorem bY (x:Int) (n:Nat) (hn:n≤31) (hx:word x=true):VC cd jo (aJ [(false,[.int .i64 x]),(false,[.int .i64 (n:Int)])]) (fun rs _=>rs=it (turn x n)):=by
 have e0:¬(n:Int) < 0:=by omega
 have e1:min n 64=n:=by omega
 have e2:¬(32:Int) - (n:Int) < 0:=by omega
 have e3:((32:Int) - (n:Int)).toNat=32 - n:=by omega
 have e4:min (32 - n) 64=32 - n:=by omega
 have e5:eb (n:Int) 0 31=true:=by simp[eb];omega
 refine aa uZ rfl ?_
 simp(disch:=omega) [jc,VY]
 refine ah (uU x) rfl rfl ?_
 simp(disch:=omega) [hx,VY]
 refine ah (aQ _ _ _) rfl rfl ?_
 simp(disch:=omega) [hx,e5,turn,e0,e1,e2,e3,e4,IntKind.bits,VY]
def zc (n:Nat):Nat:=(119 - n % 64) % 64
theorem tT (n:Nat):zc n < 64∧(n+1+zc n) % 64=56:=by unfold zc;omega
def mb (n:Nat):Bytes:=(List.range 8).map fun k=>UInt8.ofNat (n / 2 ^ (8 * (7 - k)))
theorem pj (n:Nat) {k:Nat} (h:k < 8):(mb n).take (k+1)=(mb n).take k++ [UInt8.ofNat (n / 2 ^ (8 * (7 - k)))]:=by
 rw[List.take_add_one]
 simp[mb,h]
theorem Ry (n k:Nat):IntKind.u8.wrap (Int.fdiv (n:Int) (2 ^ k))=((UInt8.ofNat (n / 2 ^ k)).toNat:Int):=by
 have e:Int.fdiv (n:Int) (2 ^ k)=((n / 2 ^ k:Nat):Int):=by
  rw[Int.fdiv_eq_ediv_of_nonneg _ (Int.pow_nonneg (by omega))]
  simp[Int.natCast_ediv,Int.natCast_pow]
 rw[e]
 simp only[UInt8.toNat_ofNat',Nat.reducePow]
 simp[IntKind.wrap,IntKind.bits,IntKind.signed]
def pad (b:Bytes):Bytes:=b++ [128]++List.replicate (zc b.length) 0++mb (8 * b.length)
abbrev qE:Nat:=322
def rq:AF:=⟨1,5,[.tmp 2],(.seq (.ops [.i (.mov 2 (.c (.val false [.nils])))]) (.seq (.ops [qm 5 0,qk 7 47 5, .i (.lsl 7 1 1 [.int .u8 0] [(0,1,(.c (.val false [.int .u8 128])))]), .i (.app 8 5 1 1 (.s 6) (.s 7)),qm 3 8]) (.seq (.block 0 (.loop [15,14,13,12,11,10,9] (.seq (.seq (.ops [qm 9 3,qn 10 9, .i (.bin 11 .rem (.s 10) (qi 64)), .i (.bin 12 .neq (.s 11) (qi 56))]) (.cond (.s 12) .skip (.exit 0))) (.block 1 (.ops [qm 13 3, .i (.lsl 14 1 1 [.int .u8 0] [(0,1,(.c (.val false [.int .u8 0])))]), .i (.app 15 5 1 1 (.s 13) (.s 14)),qm 3 15]))))) (.seq (.seq (.ops [.i (.mov 4 (qi 7))]) (.block 2 (.loop [29,28,27,26,25,24,23,22,21,20,19,18,17,16] (.seq (.seq (.ops [qm 16 4, .i (.bin 17 .geq (.s 16) (qi 0))]) (.cond (.s 17) .skip (.exit 2))) (.seq (.block 3 (.ops [qm 20 3,qm 21 0,qn 22 21, .i (.bin 23 .mul (qi 8) (.s 22)),qm 24 4, .i (.bin 25 .mul (qi 8) (.s 24)),qd 26 .shr 23 25, .i (.cvi 27 .u8 (.s 26)), .i (.lsl 28 1 1 [.int .u8 0] [(0,1,(.s 27))]), .i (.app 29 5 1 1 (.s 20) (.s 28)),qm 3 29])) (.ops [qm 18 4, .i (.bin 19 .sub (.s 18) (qi 1)),qm 4 19])))))) (.seq (.ops [qm 30 3,qm 2 30]) .ret)))))⟩
theorem Az:cd qE=some rq:=by kernel_rfl
theorem yb (b:Bytes) (hb:b.length≤1073741824):VC cd qE (aJ [(false,[.sl (bytes b)])]) (fun rs _=>rs= [(false,[.o true (some (5,1)) (bytes (pad b))])]):=by
 refine aa Az rfl ?_
 simp(disch:=omega) [rq,VY]
 refine ah (aH b (by omega)) rfl rfl ?_
 have e0:bytes b++ [[.int .u8 128]]=bytes (b++ [128]):=by simp[bytes]
 simp(disch:=omega) [e0,an,VY]
 refine aO (σ:=Nat×Nat) (f1:=_) (es0:=_) (by simp(disch:=omega) [VY];rfl) (by simp(disch:=omega) [VY];rfl) (fun p=> [(3, .val false [.ow 65536 p.2])]) (fun p=> [(65536, .sl p.2 true true (some (5,1)) (bytes (b++ [128]++List.replicate p.1 0)))])
  (fun p g=>g+p.1=zc b.length) (0,_) (zc b.length) (by simp(disch:=omega) [VY];rfl) (by simp(disch:=omega) [VY]) (by omega) ?_
 rintro⟨j,v⟩ n g hg
 simp only at hg
 have hz:=tT b.length
 have hl:(b++ [128]++List.replicate j (0:UInt8)).length=b.length+1+j:=by simp;omega
 have e1:Int.tmod ((b.length:Int)+((j:Int)+1)) 64=(((b.length+1+j) % 64:Nat):Int):=by rw[Int.tmod_eq_emod_of_nonneg (by omega)];omega
 simp only[]at *
 simp(disch:=omega) [an,hl,e1,VY]
 refine ab (fun h1=> ?_) (fun h1=> ?_)
 ·have hj:j=zc b.length:=by omega
  subst hj
  simp(disch:=omega) [an,VY]
  refine aO (σ:=Nat×Nat) (f1:=_) (es0:=_) (by simp(disch:=omega) [VY];rfl) (by simp(disch:=omega) [VY];rfl) (fun p=> [(4, .val false [.int .i64 (7 - (p.1:Int))]),(3, .val false [.ow 65536 p.2])]) (fun p=> [(65536, .sl p.2 true true (some (5,1)) (bytes (b++ [128]++List.replicate (zc b.length) 0++(mb (8 * b.length)).take p.1)))])
   (fun p g=>g+p.1=8) (0,_) 8 (by simp(disch:=omega) [VY];rfl) (by simp(disch:=omega) [VY]) (by omega) ?_
  rintro⟨k,w⟩ n g hg
  simp only at hg
  simp(disch:=omega) [VY]
  refine ab (fun h2=> ?_) (fun h2=> ?_)
  ·have hk:k < 8:=by omega
   have q1:¬(8:Int) * (7 - (k:Int)) < 0:=by omega
   have q2:((8:Int) * (7 - (k:Int))).toNat=8 * (7 - k):=by omega
   have q3:min (8 * (7 - k)) 64=8 * (7 - k):=by omega
   have q4:=Ry (8 * b.length) (8 * (7 - k))
   have q5:((8 * b.length:Nat):Int)=8 * (b.length:Int):=by omega
   rw[q5]at q4
   have q6:bytes (b++ [128]++List.replicate (zc b.length) 0++(mb (8 * b.length)).take k)++ [[.int .u8 ((UInt8.ofNat (8 * b.length / 2 ^ (8 * (7 - k)))).toNat:Int)]]=bytes (b++ [128]++List.replicate (zc b.length) 0++(mb (8 * b.length)).take (k+1)):=by
    rw[pj _ hk,←List.append_assoc];simp only[bytes,List.map_append,List.map_cons,List.map_nil]
   have q7:(bytes (b++ [128]++List.replicate (zc b.length) 0++(mb (8 * b.length)).take k)).length=b.length+1+zc b.length+k:=by
    rw[an];simp[mb];omega
   simp(disch:=omega) [an,q1,q2,q3,q4,q6,q7,IntKind.bits,VY]
   have q8:((UInt8.ofNat (8 * b.length / 2 ^ (8 * (7 - k)))).toNat:Int)=8 * (b.length:Int) / 2 ^ (8 * (7 - k)) % 256:=by simp[UInt8.toNat_ofNat']
   exact⟨k+1,_,g - 1,by omega,by omega,⟨rfl,by omega⟩,rfl,by rw[pj _ hk];simp[bytes,q8]⟩
  ·have hk:k=8:=by omega
   subst hk
   simp(disch:=omega) [pad,VY]
   rw[List.take_of_length_le (by simp[mb])]
 ·have e2:bytes (b++ [128]++List.replicate j (0:UInt8))++ [[.int .u8 0]]=bytes (b++ [128]++List.replicate (j+1) 0):=by rw[List.replicate_succ',←List.append_assoc];simp[bytes]
  have e3:(bytes (b++ [128]++List.replicate j (0:UInt8))).length=b.length+1+j:=by rw[an,hl]
  simp(disch:=omega) [e2,e3,VY]
  exact⟨j+1,_,g - 1,by omega,by omega,rfl,rfl,by rw[List.replicate_succ'];simp[bytes]⟩
abbrev qM:Nat:=304
def qZ:AF:=⟨1,6,[.tmp 2],(.seq (.ops [.i (.mov 2 (.c (.val false [.nils])))]) (.seq (.ops [qm 6 0,qk 8 43 6, .i (.lsl 8 1 1 [.int .u8 0] [(0,1,(.c (.val false [.int .u8 128])))]), .i (.app 9 5 1 1 (.s 7) (.s 8)),qm 3 9]) (.seq (.block 0 (.loop [16,15,14,13,12,11,10] (.seq (.seq (.ops [qm 10 3,qn 11 10, .i (.bin 12 .rem (.s 11) (qi 64)), .i (.bin 13 .neq (.s 12) (qi 56))]) (.cond (.s 13) .skip (.exit 0))) (.block 1 (.ops [qm 14 3, .i (.lsl 15 1 1 [.int .u8 0] [(0,1,(.c (.val false [.int .u8 0])))]), .i (.app 16 5 1 1 (.s 14) (.s 15)),qm 3 16]))))) (.seq (.ops [qm 17 0,qn 18 17, .i (.bin 19 .mul (qi 8) (.s 18)),qm 4 19]) (.seq (.seq (.ops [.i (.mov 5 (qi 7))]) (.block 2 (.loop [31,30,29,28,27,26,25,24,23,22,21,20] (.seq (.seq (.ops [qm 20 5, .i (.bin 21 .geq (.s 20) (qi 0))]) (.cond (.s 21) .skip (.exit 2))) (.seq (.block 3 (.ops [qm 24 3,qm 25 4,qm 26 5, .i (.bin 27 .mul (qi 8) (.s 26)),qd 28 .shr 25 27, .i (.cvi 29 .u8 (.s 28)), .i (.lsl 30 1 1 [.int .u8 0] [(0,1,(.s 29))]), .i (.app 31 5 1 1 (.s 24) (.s 30)),qm 3 31])) (.ops [qm 22 5, .i (.bin 23 .sub (.s 22) (qi 1)),qm 5 23])))))) (.seq (.ops [qm 32 3,qm 2 32]) .ret))))))⟩
theorem Bd:cd qM=some qZ:=by kernel_rfl
theorem zd (b:Bytes) (hb:b.length≤1073741824):VC cd qM (aJ [(false,[.sl (bytes b)])]) (fun rs _=>rs= [(false,[.o true (some (5,1)) (bytes (pad b))])]):=by
 refine aa Bd rfl ?_
 simp(disch:=omega) [qZ,VY]
 refine ah (cv b (by omega)) rfl rfl ?_
 have e0:bytes b++ [[.int .u8 128]]=bytes (b++ [128]):=by simp[bytes]
 simp(disch:=omega) [e0,an,VY]
 refine aO (σ:=Nat×Nat) (f1:=_) (es0:=_) (by simp(disch:=omega) [VY];rfl) (by simp(disch:=omega) [VY];rfl) (fun p=> [(3, .val false [.ow 73728 p.2])]) (fun p=> [(73728, .sl p.2 true true (some (5,1)) (bytes (b++ [128]++List.replicate p.1 0)))])
  (fun p g=>g+p.1=zc b.length) (0,_) (zc b.length) (by simp(disch:=omega) [VY];rfl) (by simp(disch:=omega) [VY]) (by omega) ?_
 rintro⟨j,v⟩ n g hg
 simp only at hg
 have hz:=tT b.length
 have hl:(b++ [128]++List.replicate j (0:UInt8)).length=b.length+1+j:=by simp;omega
 have e1:Int.tmod ((b.length:Int)+((j:Int)+1)) 64=(((b.length+1+j) % 64:Nat):Int):=by rw[Int.tmod_eq_emod_of_nonneg (by omega)];omega
 simp only[]at *
 simp(disch:=omega) [an,hl,e1,VY]
 refine ab (fun h1=> ?_) (fun h1=> ?_)
 ·have hj:j=zc b.length:=by omega
  subst hj
  simp(disch:=omega) [an,VY]
  refine aO (σ:=Nat×Nat) (f1:=_) (es0:=_) (by simp(disch:=omega) [VY];rfl) (by simp(disch:=omega) [VY];rfl) (fun p=> [(5, .val false [.int .i64 (7 - (p.1:Int))]),(3, .val false [.ow 73728 p.2])]) (fun p=> [(73728, .sl p.2 true true (some (5,1)) (bytes (b++ [128]++List.replicate (zc b.length) 0++(mb (8 * b.length)).take p.1)))])
   (fun p g=>g+p.1=8) (0,_) 8 (by simp(disch:=omega) [VY];rfl) (by simp(disch:=omega) [VY]) (by omega) ?_
  rintro⟨k,w⟩ n g hg
  simp only at hg
  simp(disch:=omega) [VY]
  refine ab (fun h2=> ?_) (fun h2=> ?_)
  ·have hk:k < 8:=by omega
   have q1:¬(8:Int) * (7 - (k:Int)) < 0:=by omega
   have q2:((8:Int) * (7 - (k:Int))).toNat=8 * (7 - k):=by omega
   have q3:min (8 * (7 - k)) 64=8 * (7 - k):=by omega
   have q4:=Ry (8 * b.length) (8 * (7 - k))
   have q5:((8 * b.length:Nat):Int)=8 * (b.length:Int):=by omega
   rw[q5]at q4
   have q6:bytes (b++ [128]++List.replicate (zc b.length) 0++(mb (8 * b.length)).take k)++ [[.int .u8 ((UInt8.ofNat (8 * b.length / 2 ^ (8 * (7 - k)))).toNat:Int)]]=bytes (b++ [128]++List.replicate (zc b.length) 0++(mb (8 * b.length)).take (k+1)):=by
    rw[pj _ hk,←List.append_assoc];simp only[bytes,List.map_append,List.map_cons,List.map_nil]
   have q7:(bytes (b++ [128]++List.replicate (zc b.length) 0++(mb (8 * b.length)).take k)).length=b.length+1+zc b.length+k:=by
    rw[an];simp[mb];omega
   simp(disch:=omega) [an,q1,q2,q3,q4,q6,q7,IntKind.bits,VY]
   have q8:((UInt8.ofNat (8 * b.length / 2 ^ (8 * (7 - k)))).toNat:Int)=8 * (b.length:Int) / 2 ^ (8 * (7 - k)) % 256:=by simp[UInt8.toNat_ofNat']
   exact⟨k+1,_,g - 1,by omega,by omega,⟨rfl,by omega⟩,rfl,by rw[pj _ hk];simp[bytes,q8]⟩
  ·have hk:k=8:=by omega
   subst hk
   simp(disch:=omega) [pad,VY]
   rw[List.take_of_length_le (by simp[mb])]
 ·have e2:bytes (b++ [128]++List.replicate j (0:UInt8))++ [[.int .u8 0]]=bytes (b++ [128]++List.replicate (j+1) 0):=by rw[List.replicate_succ',←List.append_assoc];simp[bytes]
  have e3:(bytes (b++ [128]++List.replicate j (0:UInt8))).length=b.length+1+j:=by rw[an,hl]
  simp(disch:=omega) [e2,e3,VY]
  exact⟨j+1,_,g - 1,by omega,by omega,rfl,rfl,by rw[List.replicate_succ'];simp[bytes]⟩
def gi (l:List Int) (i:Nat):Int:=l.getD i 0
def ints (l:List Int):List (List D):=l.map fun n=> [.int .i64 n]
theorem bJ (l:List Int):(ints l).length=l.length:=by simp[ints]
theorem Fs {l:List Int} {i:Nat} (h:i < l.length):(ints l)[i]? =some [.int .i64 (gi l i)]:=by simp[ints,gi,h]
theorem gF (l:List Int):flat (ints l)=true:=by
 induction l with
 |nil=>rfl
 |cons n l ih=>simp only[ints,List.map_cons,flat]at ih⊢;simpa[bT,D.leaf]using ih
theorem jD (l:List Int):wid 1 (ints l)=true:=by
 induction l with
 |nil=>rfl
 |cons n l ih=>simp only[ints,List.map_cons,wid]at ih⊢;simpa using ih
theorem eA {l:List Int} {i:Nat} (h:i < (ints l).length):(ints l)[i]= [.int .i64 (gi l i)]:=by simp[ints,gi]at h⊢;simp[h]
def pP (l:List Int):List D:=l.map (.int .i64)
theorem Dc (l:List Int):(pP l).length=l.length:=by simp[pP]
theorem B6 {l:List Int} {i:Nat} (h:i < l.length):((pP l).drop i).take 1= [.int .i64 (gi l i)]:=by
 have e:(pP l).drop i= .int .i64 (gi l i)::(pP l).drop (i+1):=by
  rw[List.drop_eq_getElem_cons (by simpa[pP]using h)]
  simp[pP,gi,h]
 rw[e];rfl
def init:List Int:= [1779033703,3144134277,1013904242,2773480762,1359893119,2600822924,528734635,1541459225]
abbrev oH:Nat:=321
def ni:AF:=⟨0,2,[.tmp 0],(.seq (.ops [.i (.mov 0 (.c (.val false [.nils])))]) (.seq (.ops [.i (.bsl 1 3 1 8 [.int .i64 0] [(0,1,(qi 1779033703)),(1,1,(qi 3144134277)),(2,1,(qi 1013904242)),(3,1,(qi 2773480762)),(4,1,(qi 1359893119)),(5,1,(qi 2600822924)),(6,1,(qi 528734635)),(7,1,(qi 1541459225))]),qm 0 1]) .ret))⟩
theorem yd:cd oH=some ni:=by kernel_rfl
theorem wz:VC cd oH (aJ []) (fun rs _=>rs= [(false,[.o true (some (3,1)) (ints init)])]):=by
 refine aa yd rfl ?_
 simp(disch:=omega) [ni,ints,init,VY]
abbrev mI:Nat:=303
def nK:AF:=⟨0,2,[.tmp 0],(.seq (.ops [.i (.mov 0 (.c (.val false [.nils])))]) (.seq (.ops [.i (.bsl 1 3 1 8 [.int .i64 0] [(0,1,(qi 1779033703)),(1,1,(qi 3144134277)),(2,1,(qi 1013904242)),(3,1,(qi 2773480762)),(4,1,(qi 1359893119)),(5,1,(qi 2600822924)),(6,1,(qi 528734635)),(7,1,(qi 1541459225))]),qm 0 1]) .ret))⟩
theorem zx:cd mI=some nK:=by kernel_rfl
theorem wO:VC cd mI (aJ []) (fun rs _=>rs= [(false,[.o true (some (3,1)) (ints init)])]):=by
 refine aa zx rfl ?_
 simp(disch:=omega) [nK,ints,init,VY]
def kk:List Int:= [1116352408,1899447441,3049323471,3921009573,961987163,1508970993,2453635748,2870763221,3624381080,310598401,607225278,1426881987,1925078388,2162078206,2614888103,3248222580,3835390401,4022224774,264347078,604807628,770255983,1249150122,1555081692,1996064986,2554220882,2821834349,2952996808,3210313671,3336571891,3584528711,113926993,338241895,666307205,773529912,1294757372,1396182291,1695183700,1986661051,2177026350,2456956037,2730485921,2820302411,3259730800,3345764771,3516065817,3600352804,4094571909,275423344,430227734,506948616,659060556,883997877,958139571,1322822218,1537002063,1747873779,1955562222,2024104815,2227730452,2361852424,2428436474,2756734187,3204031479,3329325298]
abbrev rn:Nat:=325
def qH:AF:=⟨0,2,[.tmp 0],(.seq (.ops [.i (.mov 0 (.c (.val false [.nils])))]) (.seq (.ops [.i (.bsl 1 3 1 64 [.int .i64 0] [(0,1,(qi 1116352408)),(1,1,(qi 1899447441)),(2,1,(qi 3049323471)),(3,1,(qi 3921009573)),(4,1,(qi 961987163)),(5,1,(qi 1508970993)),(6,1,(qi 2453635748)),(7,1,(qi 2870763221)),(8,1,(qi 3624381080)),(9,1,(qi 310598401)),(10,1,(qi 607225278)),(11,1,(qi 1426881987)),(12,1,(qi 1925078388)),(13,1,(qi 2162078206)),(14,1,(qi 2614888103)),(15,1,(qi 3248222580)),(16,1,(qi 3835390401)),(17,1,(qi 4022224774)),(18,1,(qi 264347078)),(19,1,(qi 604807628)),(20,1,(qi 770255983)),(21,1,(qi 1249150122)),(22,1,(qi 1555081692)),(23,1,(qi 1996064986)),(24,1,(qi 2554220882)),(25,1,(qi 2821834349)),(26,1,(qi 2952996808)),(27,1,(qi 3210313671)),(28,1,(qi 3336571891)),(29,1,(qi 3584528711)),(30,1,(qi 113926993)),(31,1,(qi 338241895)),(32,1,(qi 666307205)),(33,1,(qi 773529912)),(34,1,(qi 1294757372)),(35,1,(qi 1396182291)),(36,1,(qi 1695183700)),(37,1,(qi 1986661051)),(38,1,(qi 2177026350)),(39,1,(qi 2456956037)),(40,1,(qi 2730485921)),(41,1,(qi 2820302411)),(42,1,(qi 3259730800)),(43,1,(qi 3345764771)),(44,1,(qi 3516065817)),(45,1,(qi 3600352804)),(46,1,(qi 4094571909)),(47,1,(qi 275423344)),(48,1,(qi 430227734)),(49,1,(qi 506948616)),(50,1,(qi 659060556)),(51,1,(qi 883997877)),(52,1,(qi 958139571)),(53,1,(qi 1322822218)),(54,1,(qi 1537002063)),(55,1,(qi 1747873779)),(56,1,(qi 1955562222)),(57,1,(qi 2024104815)),(58,1,(qi 2227730452)),(59,1,(qi 2361852424)),(60,1,(qi 2428436474)),(61,1,(qi 2756734187)),(62,1,(qi 3204031479)),(63,1,(qi 3329325298))]),qm 0 1]) .ret))⟩
theorem Bc:cd rn=some qH:=by kernel_rfl
theorem IE:VC cd rn (aJ []) (fun rs _=>rs= [(false,[.o true (some (3,1)) (ints kk)])]):=by
 refine aa Bc rfl ?_
 simp(disch:=omega) [qH,ints,kk,VY]
abbrev vW:Nat:=320
def vM:AF:=⟨0,2,[.tmp 0],(.seq (.ops [.i (.mov 0 (.c (.val false [.nils])))]) (.seq (.ops [.i (.bsl 1 3 1 64 [.int .i64 0] [(0,1,(qi 1116352408)),(1,1,(qi 1899447441)),(2,1,(qi 3049323471)),(3,1,(qi 3921009573)),(4,1,(qi 961987163)),(5,1,(qi 1508970993)),(6,1,(qi 2453635748)),(7,1,(qi 2870763221)),(8,1,(qi 3624381080)),(9,1,(qi 310598401)),(10,1,(qi 607225278)),(11,1,(qi 1426881987)),(12,1,(qi 1925078388)),(13,1,(qi 2162078206)),(14,1,(qi 2614888103)),(15,1,(qi 3248222580)),(16,1,(qi 3835390401)),(17,1,(qi 4022224774)),(18,1,(qi 264347078)),(19,1,(qi 604807628)),(20,1,(qi 770255983)),(21,1,(qi 1249150122)),(22,1,(qi 1555081692)),(23,1,(qi 1996064986)),(24,1,(qi 2554220882)),(25,1,(qi 2821834349)),(26,1,(qi 2952996808)),(27,1,(qi 3210313671)),(28,1,(qi 3336571891)),(29,1,(qi 3584528711)),(30,1,(qi 113926993)),(31,1,(qi 338241895)),(32,1,(qi 666307205)),(33,1,(qi 773529912)),(34,1,(qi 1294757372)),(35,1,(qi 1396182291)),(36,1,(qi 1695183700)),(37,1,(qi 1986661051)),(38,1,(qi 2177026350)),(39,1,(qi 2456956037)),(40,1,(qi 2730485921)),(41,1,(qi 2820302411)),(42,1,(qi 3259730800)),(43,1,(qi 3345764771)),(44,1,(qi 3516065817)),(45,1,(qi 3600352804)),(46,1,(qi 4094571909)),(47,1,(qi 275423344)),(48,1,(qi 430227734)),(49,1,(qi 506948616)),(50,1,(qi 659060556)),(51,1,(qi 883997877)),(52,1,(qi 958139571)),(53,1,(qi 1322822218)),(54,1,(qi 1537002063)),(55,1,(qi 1747873779)),(56,1,(qi 1955562222)),(57,1,(qi 2024104815)),(58,1,(qi 2227730452)),(59,1,(qi 2361852424)),(60,1,(qi 2428436474)),(61,1,(qi 2756734187)),(62,1,(qi 3204031479)),(63,1,(qi 3329325298))]),qm 0 1]) .ret))⟩
theorem D6:cd vW=some vM:=by kernel_rfl
theorem Nm:VC cd vW (aJ []) (fun rs _=>rs= [(false,[.o true (some (3,1)) (ints kk)])]):=by
 refine aa D6 rfl ?_
 simp(disch:=omega) [vM,ints,kk,VY]
def gb (b:Bytes) (i:Nat):Int:=((b.getD i 0).toNat:Int)
def bw (b:Bytes) (i:Nat):Int:=aF .or .i64 (aF .or .i64 (aF .or .i64 (IntKind.i64.wrap (gb b i * 2 ^ min 24 IntKind.i64.bits)) (IntKind.i64.wrap (gb b (i+1) * 2 ^ min 16 IntKind.i64.bits))) (IntKind.i64.wrap (gb b (i+2) * 2 ^ min 8 IntKind.i64.bits))) (gb b (i+3))
def Rw (x:Int):Int:=aF .xor .i64 (aF .xor .i64 (turn x 7) (turn x 18)) (x.fdiv (2 ^ min 3 IntKind.i64.bits))
def Rz (x:Int):Int:=aF .xor .i64 (aF .xor .i64 (turn x 17) (turn x 19)) (x.fdiv (2 ^ min 10 IntKind.i64.bits))
def JT (a x c y:Int):Int:=aF .and .i64 (IntKind.i64.wrap (IntKind.i64.wrap (IntKind.i64.wrap (a+Rw x)+c)+Rz y)) 4294967295
def ee (b:Bytes):Nat→List Int
 |0=> []
 |n+1=>ee b n++ [if n < 16 then bw b (4 * n)else JT (gi (ee b n) (n - 16)) (gi (ee b n) (n - 15)) (gi (ee b n) (n - 7)) (gi (ee b n) (n - 2))]
theorem ek (b:Bytes):∀n,(ee b n).length=n
 |0=>rfl
 |n+1=>by simp[ee,ek b n]
def sT (v:List Int) (k w:Int):Int:=IntKind.i64.wrap (IntKind.i64.wrap (IntKind.i64.wrap (IntKind.i64.wrap (gi v 7+aF .xor .i64 (aF .xor .i64 (turn (gi v 4) 6) (turn (gi v 4) 11)) (turn (gi v 4) 25))+aF .xor .i64 (aF .and .i64 (gi v 4) (gi v 5)) (aF .and .i64 (aF .xor .i64 4294967295 (gi v 4)) (gi v 6)))+k)+w)
def sU (v:List Int):Int:=IntKind.i64.wrap (aF .xor .i64 (aF .xor .i64 (turn (gi v 0) 2) (turn (gi v 0) 13)) (turn (gi v 0) 22)+aF .xor .i64 (aF .xor .i64 (aF .and .i64 (gi v 0) (gi v 1)) (aF .and .i64 (gi v 0) (gi v 2))) (aF .and .i64 (gi v 1) (gi v 2)))
def RI (v:List Int) (k w:Int):List Int:= [aF .and .i64 (IntKind.i64.wrap (sT v k w+sU v)) 4294967295,gi v 0,gi v 1,gi v 2,aF .and .i64 (IntKind.i64.wrap (gi v 3+sT v k w)) 4294967295,gi v 4,gi v 5,gi v 6]
def fT (h:List Int) (b:Bytes):Nat→List Int
 |0=>h
 |n+1=>RI (fT h b n) (gi kk n) (gi (ee b 64) n)
theorem nm {h:List Int} (hl:h.length=8) (b:Bytes):∀n,(fT h b n).length=8
 |0=>hl
 |n+1=>rfl
def pJ (h:List Int) (b:Bytes):List Int:=(List.range 8).map fun i=>aF .and .i64 (IntKind.i64.wrap (gi h i+gi (fT h b 64) i)) 4294967295
theorem pf {b:Bytes} {i:Nat} (h:i < b.length):(bytes b)[i]? =some [.int .u8 (gb b i)]:=by simp[bytes,gb,h]
theorem dz (b:Bytes) (i:Nat):0≤gb b i∧gb b i < 256:=by unfold gb;have:=(b.getD i 0).toNat_lt;omega
end Go.Eng.F
namespace Go.Eng.F
theorem BG (h:List Int) (b:Bytes) {k:Nat} (hk:k < 8):ints ((pJ h b).take (k+1))=ints ((pJ h b).take k)++ [[.int .i64 (aF .and .i64 (IntKind.i64.wrap (gi h k+gi (fT h b 64) k)) 4294967295)]]:=by
 rw[List.take_add_one]
 simp only[ints,List.map_append]
 congr 1
 simp[pJ,hk]
abbrev kQ:Nat:=305
def lD:AF:=⟨2,8,[.tmp 4],(.seq (.ops [.i (.mov 4 (.c (.val false [.nils])))]) (.seq (.seq (.ops [qm 23 0,qn 24 23, .i (.bin 25 .neq (.s 24) (qi 8)),qm 26 25, .g 26 false 28 (.mov 27 (.s 1)), .g 26 false 29 (.len 28 false (.s 27)), .g 26 false 30 (.bin 29 .neq (.s 28) (qi 64)), .i (.pick 30 (.s 26) (qb true) (.s 29))]) (.cond (.s 30) (.seq (.ops [.i (.mov 4 (.c (.val false [.nils])))]) .ret) .skip)) (.seq (.seq (.ops [qm 31 0,qn 32 31, .i (.mov 33 (qi 0))]) (.block 0 (.loop [40,39,38,37,36,35,34,6] (.seq (.ops [qd 34 .lss 33 32]) (.seq (.cond (.s 34) .skip (.exit 0)) (.seq (.block 1 (.seq (.ops [.i (.iad 35 (.s 31) (.s 33) 1), .i (.ldh 36 (.s 35) 1 false),qm 6 36]) (.seq (.ops [qm 37 6,qk 39 318 37, .i (.not 39 (.s 38))]) (.cond (.s 39) (.seq (.ops [.i (.mov 4 (.c (.val false [.nils])))]) .ret) .skip)))) (.ops [.i (.bin 40 .add (.s 33) (qi 1)),qm 33 40]))))))) (.seq (.ops [.i (.bse 41),qm 7 41]) (.seq (.seq (.ops [.i (.mov 8 (qi 0))]) (.block 2 (.loop [77,76,75,74,73,72,71,70,69,68,67,66,65,64,63,62,61,60,59,58,57,56,55,54,53,52,51,50,49,48,47,46,45,44,43,42] (.seq (.seq (.ops [qm 42 8, .i (.bin 43 .lss (.s 42) (qi 64))]) (.cond (.s 43) .skip (.exit 2))) (.seq (.block 3 (.ops [qm 46 7,qm 47 1,qm 48 8, .i (.iad 49 (.s 47) (.s 48) 1), .i (.ldh 50 (.s 49) 1 false), .i (.cvi 51 .i64 (.s 50)), .i (.bin 52 .shl (.s 51) (.c (.val false [.int .u64 24]))),qm 53 1,qm 54 8, .i (.bin 55 .add (.s 54) (qi 1)), .i (.iad 56 (.s 53) (.s 55) 1), .i (.ldh 57 (.s 56) 1 false), .i (.cvi 58 .i64 (.s 57)), .i (.bin 59 .shl (.s 58) (.c (.val false [.int .u64 16]))),qd 60 .or 52 59,qm 61 1,qm 62 8, .i (.bin 63 .add (.s 62) (qi 2)), .i (.iad 64 (.s 61) (.s 63) 1), .i (.ldh 65 (.s 64) 1 false), .i (.cvi 66 .i64 (.s 65)), .i (.bin 67 .shl (.s 66) (.c (.val false [.int .u64 8]))),qd 68 .or 60 67,qm 69 1,qm 70 8, .i (.bin 71 .add (.s 70) (qi 3)), .i (.iad 72 (.s 69) (.s 71) 1), .i (.ldh 73 (.s 72) 1 false), .i (.cvi 74 .i64 (.s 73)),qd 75 .or 68 74, .i (.lsl 76 1 1 [.int .i64 0] [(0,1,(.s 75))]), .i (.app 77 3 1 8 (.s 46) (.s 76)),qm 7 77])) (.ops [qm 44 8, .i (.bin 45 .add (.s 44) (qi 4)),qm 8 45])))))) (.seq (.seq (.ops [.i (.mov 9 (qi 16))]) (.block 4 (.loop [126,125,124,123,122,121,120,119,118,117,116,115,114,113,112,111,110,109,108,107,106,105,104,103,102,101,100,99,98,97,96,95,94,93,92,91,90,89,88,87,86,85,84,83,82,81,80,79,78,13,12,11,10] (.seq (.seq (.ops [qm 78 9, .i (.bin 79 .lss (.s 78) (qi 64))]) (.cond (.s 79) .skip (.exit 4))) (.seq (.block 5 (.seq (.ops [qm 82 7,qm 83 9, .i (.bin 84 .sub (.s 83) (qi 15)), .i (.iad 85 (.s 82) (.s 84) 1), .i (.ldh 86 (.s 85) 1 false),qm 10 86]) (.seq (.ops [qm 87 7,qm 88 9, .i (.bin 89 .sub (.s 88) (qi 2)), .i (.iad 90 (.s 87) (.s 89) 1), .i (.ldh 91 (.s 90) 1 false),qm 11 91]) (.seq (.ops [qm 92 10, .i (.call 94 319 false [(.s 92),(qi 7)]),qm 94 10, .i (.call 96 319 false [(.s 94),(qi 18)]),qd 96 .xor 93 95,qm 97 10, .i (.bin 98 .shr (.s 97) (.c (.val false [.int .u64 3]))),qd 99 .xor 96 98,qm 12 99]) (.seq (.ops [qm 100 11, .i (.call 102 319 false [(.s 100),(qi 17)]),qm 102 11, .i (.call 104 319 false [(.s 102),(qi 19)]),qd 104 .xor 101 103,qm 105 11, .i (.bin 106 .shr (.s 105) (.c (.val false [.int .u64 10]))),qd 107 .xor 104 106,qm 13 107]) (.ops [qm 108 7,qm 109 7,qm 110 9, .i (.bin 111 .sub (.s 110) (qi 16)), .i (.iad 112 (.s 109) (.s 111) 1), .i (.ldh 113 (.s 112) 1 false),qm 114 12,qd 115 .add 113 114,qm 116 7,qm 117 9, .i (.bin 118 .sub (.s 117) (qi 7)), .i (.iad 119 (.s 116) (.s 118) 1), .i (.ldh 120 (.s 119) 1 false),qd 121 .add 115 120,qm 122 13,qd 123 .add 121 122, .i (.bin 124 .and (.s 123) (qi 4294967295)), .i (.lsl 125 1 1 [.int .i64 0] [(0,1,(.s 124))]), .i (.app 126 3 1 8 (.s 108) (.s 125)),qm 7 126])))))) (.ops [qm 80 9, .i (.bin 81 .add (.s 80) (qi 1)),qm 9 81])))))) (.seq (.ops [.i (.call 128 320 false []),qm 14 127]) (.seq (.ops [.i (.bse 128),qm 129 0, .i (.app 130 3 1 8 (.s 128) (.s 129)),qm 15 130]) (.seq (.seq (.ops [.i (.mov 16 (qi 0))]) (.block 6 (.loop [232,231,230,229,228,227,226,225,224,223,222,221,220,219,218,217,216,215,214,213,212,211,210,209,208,207,206,205,204,203,202,201,200,199,198,197,196,195,194,193,192,191,190,189,188,187,186,185,184,183,182,181,180,179,178,177,176,175,174,173,172,171,170,169,168,167,166,165,164,163,162,161,160,159,158,157,156,155,154,153,152,151,150,149,148,147,146,145,144,143,142,141,140,139,138,137,136,135,134,133,132,131,20,19,18,17] (.seq (.seq (.ops [qm 131 16, .i (.bin 132 .lss (.s 131) (qi 64))]) (.cond (.s 132) .skip (.exit 6))) (.seq (.block 7 (.seq (.ops [qm 135 15, .i (.iad 136 (.s 135) (qi 4) 1), .i (.ldh 137 (.s 136) 1 false),qm 17 137]) (.seq (.ops [qm 138 15, .i (.iad 139 (.s 138) (qi 0) 1), .i (.ldh 140 (.s 139) 1 false),qm 18 140]) (.seq (.ops [qm 141 15, .i (.iad 142 (.s 141) (qi 7) 1), .i (.ldh 143 (.s 142) 1 false),qm 144 17, .i (.call 146 319 true [(.s 144),(qi 6)]),qm 146 17, .i (.call 148 319 true [(.s 146),(qi 11)]),qd 148 .xor 145 147,qm 149 17, .i (.call 151 319 true [(.s 149),(qi 25)]),qd 151 .xor 148 150,qd 152 .add 143 151,qm 153 17,qm 154 15, .i (.iad 155 (.s 154) (qi 5) 1), .i (.ldh 156 (.s 155) 1 false),qd 157 .and 153 156,qm 158 17, .i (.bin 159 .xor (qi 4294967295) (.s 158)),qm 160 15, .i (.iad 161 (.s 160) (qi 6) 1), .i (.ldh 162 (.s 161) 1 false),qd 163 .and 159 162,qd 164 .xor 157 163,qd 165 .add 152 164,qm 166 14,qm 167 16, .i (.iad 168 (.s 166) (.s 167) 1), .i (.ldh 169 (.s 168) 1 false),qd 170 .add 165 169,qm 171 7,qm 172 16, .i (.iad 173 (.s 171) (.s 172) 1), .i (.ldh 174 (.s 173) 1 false),qd 175 .add 170 174,qm 19 175]) (.seq (.ops [qm 176 18, .i (.call 178 319 true [(.s 176),(qi 2)]),qm 178 18, .i (.call 180 319 true [(.s 178),(qi 13)]),qd 180 .xor 177 179,qm 181 18, .i (.call 183 319 true [(.s 181),(qi 22)]),qd 183 .xor 180 182,qm 184 18,qm 185 15, .i (.iad 186 (.s 185) (qi 1) 1), .i (.ldh 187 (.s 186) 1 false),qd 188 .and 184 187,qm 189 18,qm 190 15, .i (.iad 191 (.s 190) (qi 2) 1), .i (.ldh 192 (.s 191) 1 false),qd 193 .and 189 192,qd 194 .xor 188 193,qm 195 15, .i (.iad 196 (.s 195) (qi 1) 1), .i (.ldh 197 (.s 196) 1 false),qm 198 15, .i (.iad 199 (.s 198) (qi 2) 1), .i (.ldh 200 (.s 199) 1 false),qd 201 .and 197 200,qd 202 .xor 194 201,qd 203 .add 183 202,qm 20 203]) (.ops [qm 204 19,qm 205 20,qd 206 .add 204 205, .i (.bin 207 .and (.s 206) (qi 4294967295)),qm 208 15, .i (.iad 209 (.s 208) (qi 0) 1), .i (.ldh 210 (.s 209) 1 false),qm 211 15, .i (.iad 212 (.s 211) (qi 1) 1), .i (.ldh 213 (.s 212) 1 false),qm 214 15, .i (.iad 215 (.s 214) (qi 2) 1), .i (.ldh 216 (.s 215) 1 false),qm 217 15, .i (.iad 218 (.s 217) (qi 3) 1), .i (.ldh 219 (.s 218) 1 false),qm 220 19,qd 221 .add 219 220, .i (.bin 222 .and (.s 221) (qi 4294967295)),qm 223 15, .i (.iad 224 (.s 223) (qi 4) 1), .i (.ldh 225 (.s 224) 1 false),qm 226 15, .i (.iad 227 (.s 226) (qi 5) 1), .i (.ldh 228 (.s 227) 1 false),qm 229 15, .i (.iad 230 (.s 229) (qi 6) 1), .i (.ldh 231 (.s 230) 1 false), .i (.bsl 232 3 1 8 [.int .i64 0] [(0,1,(.s 207)),(1,1,(.s 210)),(2,1,(.s 213)),(3,1,(.s 216)),(4,1,(.s 222)),(5,1,(.s 225)),(6,1,(.s 228)),(7,1,(.s 231))]),qm 15 232])))))) (.ops [qm 133 16, .i (.bin 134 .add (.s 133) (qi 1)),qm 16 134])))))) (.seq (.ops [.i (.bse 233),qm 21 233]) (.seq (.seq (.ops [qm 234 0,qn 235 234, .i (.mov 236 (qi 0))]) (.block 8 (.loop [252,251,250,249,248,247,246,245,244,243,242,241,240,239,238,237,22] (.seq (.ops [qd 237 .lss 236 235]) (.seq (.cond (.s 237) .skip (.exit 8)) (.seq (.block 9 (.seq (.ops [qm 238 236,qm 22 238]) (.ops [qm 239 21,qm 240 0,qm 241 22, .i (.iad 242 (.s 240) (.s 241) 1), .i (.ldh 243 (.s 242) 1 false),qm 244 15,qm 245 22, .i (.iad 246 (.s 244) (.s 245) 1), .i (.ldh 247 (.s 246) 1 false),qd 248 .add 243 247, .i (.bin 249 .and (.s 248) (qi 4294967295)), .i (.lsl 250 1 1 [.int .i64 0] [(0,1,(.s 249))]), .i (.app 251 3 1 8 (.s 239) (.s 250)),qm 21 251]))) (.ops [.i (.bin 252 .add (.s 236) (qi 1)),qm 236 252]))))))) (.seq (.ops [qm 253 21,qm 4 253]) .ret))))))))))))⟩
theorem xn:cd kQ=some lD:=by kernel_rfl
theorem uO (h:List Int) (b:Bytes) (hl:h.length=8) (hw:∀x∈h,word x=true) (hb:b.length=64):VC cd kQ (aJ [(false,[.sl (ints h)]),(false,[.sl (bytes b)])]) (fun rs _=>rs= [(false,[.o true (some (3,1)) (ints (pJ h b))])]):=by
 refine aa xn rfl ?_
 simp(disch:=omega) [lD,bJ,an,hl,hb,VY]
 refine aO (σ:=Nat) (f1:=_) (es0:=_) (by simp(disch:=omega) [VY];rfl) (by simp(disch:=omega) [VY];rfl) (fun i=> [(33, .val false [.int .i64 i])]) (fun _=> []) (fun i g=>g+i=8) 0 8 (by simp(disch:=omega) [VY]) (by simp(disch:=omega) [VY]) (by omega) ?_
 rintro i n g hg
 simp(disch:=omega) [VY]
 refine ab (fun h1=> ?_) (fun h1=> ?_)
 ·have hx:i < h.length:=by omega
  simp(disch:=omega) [Fs hx,VY]
  refine ah (FU _) rfl rfl ?_
  have hq:word (gi h i)=true:=hw _ (by simp[gi,hx])
  simp(disch:=omega) [hq,VY]
  exact⟨i+1,g - 1,by omega,by omega,by omega⟩
 have hi:i=8:=by omega
 subst hi
 simp(disch:=omega) [VY]
 refine aO (σ:=Nat×Nat) (f1:=_) (es0:=_) (by simp(disch:=omega) [VY];rfl) (by simp(disch:=omega) [VY];rfl) (fun p=> [(8, .val false [.int .i64 (4 * (p.1:Int))]),(7, .val false [.ow 41 p.2])]) (fun p=> [(41, .sl p.2 true true (some (3,1)) (ints (ee b p.1)))])
  (fun p g=>g+p.1=16) (0,_) 16 (by simp(disch:=omega) [VY];rfl) (by simp(disch:=omega) [ints,ee,VY]) (by omega) ?_
 rintro⟨k,v⟩ n g hg
 simp only at hg
 simp(disch:=omega) [VY]
 refine ab (fun h2=> ?_) (fun h2=> ?_)
 ·have hk:k < 16:=by omega
  have q1:((4:Int) * (k:Int)).toNat=4 * k:=by omega
  have q2:((4:Int) * (k:Int)+1).toNat=4 * k+1:=by omega
  have q3:((4:Int) * (k:Int)+2).toNat=4 * k+2:=by omega
  have q4:((4:Int) * (k:Int)+3).toNat=4 * k+3:=by omega
  have p1:(0:Int)≤(4:Int) * (k:Int)∧(0:Int)≤(4:Int) * (k:Int)+1∧(0:Int)≤(4:Int) * (k:Int)+2∧(0:Int)≤(4:Int) * (k:Int)+3:=by omega
  obtain⟨p1,p2,p3,p4⟩:=p1
  have r1:=dz b (4 * k)
  have r2:=dz b (4 * k+1)
  have r3:=dz b (4 * k+2)
  have r4:=dz b (4 * k+3)
  have e1:(ints (ee b k)).length=k:=by rw[bJ,ek]
  simp(disch:=omega) [an,hb,q1,q2,q3,q4,p1,p2,p3,p4,e1,gF,jD,pf (show 4 * k < b.length by omega),pf (show 4 * k+1 < b.length by omega),pf (show 4 * k+2 < b.length by omega),pf (show 4 * k+3 < b.length by omega),VY]
  exact⟨k+1,_,g - 1,by omega,by omega,⟨rfl,by omega⟩,rfl,by rw[ee,if_pos hk];simp only[ints,List.map_append,List.map_cons,List.map_nil,bw]⟩
 have hk:k=16:=by omega
 subst hk
 simp(disch:=omega) [VY]
 refine aO (σ:=Nat×Nat) (f1:=_) (es0:=_) (by simp(disch:=omega) [VY];rfl) (by simp(disch:=omega) [VY];rfl) (fun p=> [(9, .val false [.int .i64 p.1]),(7, .val false [.ow 41 p.2])]) (fun p=> [(41, .sl p.2 true true (some (3,1)) (ints (ee b p.1)))])
  (fun p g=>g+p.1=64∧16≤p.1) (16,_) 48 (by simp(disch:=omega) [VY];rfl) (by simp(disch:=omega) [VY]) (by omega) ?_
 rintro⟨k,v⟩ n g hg
 simp only at hg
 simp(disch:=omega) [VY]
 refine ab (fun h3=> ?_) (fun h3=> ?_)
 ·have hk:k < 64:=by omega
  obtain⟨p1,p2,p3⟩:(15:Int)≤(k:Int)∧((k:Int) - 15).toNat=k - 15∧(k:Int) - 15 < k:=by omega
  obtain⟨p4,p5,p6⟩:(2:Int)≤(k:Int)∧((k:Int) - 2).toNat=k - 2∧(k:Int) - 2 < k:=by omega
  obtain⟨p7,p8,p9⟩:(16:Int)≤(k:Int)∧((k:Int) - 16).toNat=k - 16∧(k:Int) - 16 < k:=by omega
  obtain⟨q1,q2,q3⟩:(7:Int)≤(k:Int)∧((k:Int) - 7).toNat=k - 7∧(k:Int) - 7 < k:=by omega
  have e1:(ints (ee b k)).length=k:=by rw[bJ,ek]
  have hwl:=ek b k
  simp(disch:=omega) [e1,p1,p2,p3,p4,p5,p6,eA,VY]
  refine ah (c8 _ 7 (by omega)) rfl rfl ?_
  simp(disch:=omega) [VY]
  refine ah (c8 _ 18 (by omega)) rfl rfl ?_
  simp(disch:=omega) [VY]
  refine ah (c8 _ 17 (by omega)) rfl rfl ?_
  simp(disch:=omega) [VY]
  refine ah (c8 _ 19 (by omega)) rfl rfl ?_
  simp(disch:=omega) [e1,p7,p8,p9,q1,q2,q3,eA,gF,jD,VY]
  exact⟨k+1,_,g - 1,by omega,by omega,⟨rfl,by omega⟩,rfl,by rw[ee,if_neg (by omega)];simp only[ints,List.map_append,List.map_cons,List.map_nil,JT,Rw,Rz]⟩
 have hk:k=64:=by omega
 subst hk
 simp(disch:=omega) [VY]
 refine ah (Nm) rfl rfl ?_
 simp(disch:=omega) [bJ,hl,gF,jD,VY]
 refine oU (σ:=Nat×Nat) (f0:=_) (by simp(disch:=omega) [VY];rfl) (ed.QV (s:=15) (k:=128) (k':=232) (by simp(disch:=omega) [VY]) rfl (by omega)) (f1:=_) (es0:=_) (by simp(disch:=omega) [VY];rfl) (by simp(disch:=omega) [tH,ib,VY];rfl) (fun p=> [(16, .val false [.int .i64 p.1]),(15, .val false [.ow 232 p.2])]) (fun p=> [(232, .sl p.2 true true (some (3,1)) (ints (fT h b p.1)))])
  (fun p g=>g+p.1=64) (0,_) 64 (by simp(disch:=omega) [VY];rfl) (by simp(disch:=omega) [fT,tH,ib,VY]) (by omega) ?_
 rintro⟨k,v⟩ n g hg
 simp only at hg
 simp(disch:=omega) [VY]
 refine ab (fun h4=> ?_) (fun h4=> ?_)
 ·have hk:k < 64:=by omega
  have hv:=nm hl b k
  have e1:(ints (fT h b k)).length=8:=by rw[bJ,hv]
  have e2:(ints kk).length=64:=rfl
  have e3:(ints (ee b 64)).length=64:=by rw[bJ,ek]
  simp(disch:=omega) [e1,e2,e3,eA,VY]
  refine ah (c8 _ 6 (by omega)) rfl rfl ?_
  simp(disch:=omega) [VY]
  refine ah (c8 _ 11 (by omega)) rfl rfl ?_
  simp(disch:=omega) [VY]
  refine ah (c8 _ 25 (by omega)) rfl rfl ?_
  simp(disch:=omega) [e1,e2,e3,eA,VY]
  refine ah (c8 _ 2 (by omega)) rfl rfl ?_
  simp(disch:=omega) [VY]
  refine ah (c8 _ 13 (by omega)) rfl rfl ?_
  simp(disch:=omega) [VY]
  refine ah (c8 _ 22 (by omega)) rfl rfl ?_
  simp(disch:=omega) [e1,e2,e3,eA,VY]
  exact⟨k+1,_,g - 1,by omega,by omega,⟨rfl,by omega⟩,rfl,rfl⟩
 have hk:k=64:=by omega
 subst hk
 simp(disch:=omega) [bJ,hl,VY]
 refine aO (σ:=Nat×Nat) (f1:=_) (es0:=_) (by simp(disch:=omega) [VY];rfl) (by simp(disch:=omega) [VY];rfl) (fun p=> [(236, .val false [.int .i64 p.1]),(21, .val false [.ow 233 p.2])]) (fun p=> [(233, .sl p.2 true true (some (3,1)) (ints ((pJ h b).take p.1)))])
  (fun p g=>g+p.1=8) (0,_) 8 (by simp(disch:=omega) [VY];rfl) (by simp(disch:=omega) [ints,VY]) (by omega) ?_
 rintro⟨k,w⟩ n g hg
 simp only at hg
 simp(disch:=omega) [VY]
 refine ab (fun h5=> ?_) (fun h5=> ?_)
 ·have hk:k < 8:=by omega
  have hv:=nm hl b 64
  have e1:(ints (fT h b 64)).length=8:=by rw[bJ,hv]
  have e2:(ints h).length=8:=by rw[bJ,hl]
  have e3:(ints ((pJ h b).take k)).length=k:=by rw[bJ];simp[pJ];omega
  simp(disch:=omega) [e1,e2,e3,eA,gF,jD,VY]
  exact⟨k+1,_,g - 1,by omega,by omega,⟨rfl,by omega⟩,rfl,BG h b hk⟩
 ·have hk:k=8:=by omega
  subst hk
  simp(disch:=omega) [VY]
  rw[List.take_of_length_le (by simp[pJ])]
end Go.Eng.F
namespace Go.Eng.F
theorem sv (n:Int):BitVec.ofInt 64 (IntKind.i64.wrap n)=BitVec.ofInt 64 n:=by
 apply BitVec.eq_of_toNat_eq
 rw[IntKind.wrap_i64]
 simp only[BitVec.toNat_ofInt]
 congr 1
 omega
theorem uX (v:BitVec 64):BitVec.ofInt 64 (v.toNat:Int)=v:=by
 apply BitVec.eq_of_toNat_eq
 simp
theorem K7 (x y:Int):BitVec.ofInt 64 (aF .and .i64 x y)=BitVec.ofInt 64 x &&& BitVec.ofInt 64 y:=by
 show BitVec.ofInt 64 (IntKind.i64.wrap ((BitVec.ofInt 64 x &&& BitVec.ofInt 64 y).toNat:Int))=_
 rw[sv,uX]
theorem Qd (x y:Int):BitVec.ofInt 64 (aF .or .i64 x y)=BitVec.ofInt 64 x|||BitVec.ofInt 64 y:=by
 show BitVec.ofInt 64 (IntKind.i64.wrap ((BitVec.ofInt 64 x|||BitVec.ofInt 64 y).toNat:Int))=_
 rw[sv,uX]
theorem K3 (x y:Int):BitVec.ofInt 64 (aF .xor .i64 x y)=BitVec.ofInt 64 x ^^^ BitVec.ofInt 64 y:=by
 show BitVec.ofInt 64 (IntKind.i64.wrap ((BitVec.ofInt 64 x ^^^ BitVec.ofInt 64 y).toNat:Int))=_
 rw[sv,uX]
theorem sE {x:Int}:word x=true↔0≤x∧x≤4294967295:=by simp[word,eb]
theorem nv {x:Int} (h:word x=true):(BitVec.ofInt 64 x).toNat=x.toNat∧x.toNat < 4294967296:=by
 have h:=sE.1 h
 rw[BitVec.toNat_ofInt]
 omega
theorem HV {x:Int} (h:word x=true):BitVec.ofInt 64 x &&& BitVec.ofInt 64 4294967295=BitVec.ofInt 64 x:=by
 obtain⟨h1,h2⟩:=nv h
 apply BitVec.eq_of_toNat_eq
 rw[BitVec.toNat_and,h1]
 have:(BitVec.ofInt 64 4294967295).toNat=2 ^ 32 - 1:=rfl
 rw[this,Nat.and_two_pow_sub_one_eq_mod]
 omega
theorem wrap_small {n:Nat} (h:n < 4294967296):word (IntKind.i64.wrap (n:Int))=true:=by
 rw[sE,au (by omega) (by omega)]
 omega
theorem tP (x:Int):word (aF .and .i64 x 4294967295)=true:=by
 show word (IntKind.i64.wrap ((BitVec.ofInt 64 x &&& BitVec.ofInt 64 4294967295).toNat:Int))=true
 refine wrap_small ?_
 rw[BitVec.toNat_and]
 have:(BitVec.ofInt 64 4294967295).toNat=2 ^ 32 - 1:=rfl
 rw[this,Nat.and_two_pow_sub_one_eq_mod]
 omega
theorem DI {x y:Int} (hx:word x=true) (hy:word y=true):word (aF .or .i64 x y)=true:=by
 show word (IntKind.i64.wrap ((BitVec.ofInt 64 x|||BitVec.ofInt 64 y).toNat:Int))=true
 refine wrap_small ?_
 rw[BitVec.toNat_or,(nv hx).1,(nv hy).1]
 exact Nat.or_lt_two_pow (n:=32) (nv hx).2 (nv hy).2
theorem Qr {e p q:Int} (he:word e=true):aF .or .i64 (aF .and .i64 e p) (aF .and .i64 (aF .xor .i64 e 4294967295) q)=aF .xor .i64 (aF .and .i64 e p) (aF .and .i64 (aF .xor .i64 4294967295 e) q):=by
 show IntKind.i64.wrap ((BitVec.ofInt 64 _|||BitVec.ofInt 64 _).toNat:Int)=IntKind.i64.wrap ((BitVec.ofInt 64 _ ^^^ BitVec.ofInt 64 _).toNat:Int)
 congr 2
 apply congrArg BitVec.toNat
 simp only[K7,K3]
 have hm:=HV he
 generalize BitVec.ofInt 64 e=a at *
 generalize BitVec.ofInt 64 p=b
 generalize BitVec.ofInt 64 q=c
 generalize BitVec.ofInt 64 4294967295=m at *
 apply BitVec.eq_of_getLsbD_eq
 intro i hi
 have h1:=congrArg (fun v=>v.getLsbD i) hm
 simp only[BitVec.getLsbD_and]at h1
 simp only[BitVec.getLsbD_or,BitVec.getLsbD_xor,BitVec.getLsbD_and]
 revert h1
 cases a.getLsbD i <;>cases b.getLsbD i <;>cases c.getLsbD i <;>cases m.getLsbD i <;>simp
theorem N5 (a p q:Int):aF .or .i64 (aF .or .i64 (aF .and .i64 a p) (aF .and .i64 a q)) (aF .and .i64 p q)=aF .xor .i64 (aF .xor .i64 (aF .and .i64 a p) (aF .and .i64 a q)) (aF .and .i64 p q):=by
 show IntKind.i64.wrap ((BitVec.ofInt 64 _|||BitVec.ofInt 64 _).toNat:Int)=IntKind.i64.wrap ((BitVec.ofInt 64 _ ^^^ BitVec.ofInt 64 _).toNat:Int)
 congr 2
 apply congrArg BitVec.toNat
 simp only[K7,K3,Qd]
 generalize BitVec.ofInt 64 a=a
 generalize BitVec.ofInt 64 p=b
 generalize BitVec.ofInt 64 q=c
 apply BitVec.eq_of_getLsbD_eq
 intro i hi
 simp only[BitVec.getLsbD_or,BitVec.getLsbD_xor,BitVec.getLsbD_and]
 cases a.getLsbD i <;>cases b.getLsbD i <;>cases c.getLsbD i <;>rfl
theorem Ml (b:Bytes) (i:Nat):word (bw b i)=true:=by
 have h1:=dz b i
 have h2:=dz b (i+1)
 have h3:=dz b (i+2)
 have h4:=dz b (i+3)
 have e1:min 24 IntKind.i64.bits=24:=rfl
 have e2:min 16 IntKind.i64.bits=16:=rfl
 have e3:min 8 IntKind.i64.bits=8:=rfl
 unfold bw
 rw[e1,e2,e3]
 refine DI (DI (DI ?_ ?_) ?_) ?_ <;>rw[sE]
 ·rw[au (by omega) (by omega)];omega
 ·rw[au (by omega) (by omega)];omega
 ·rw[au (by omega) (by omega)];omega
 ·omega
theorem uG (b:Bytes):∀n,∀x∈ee b n,word x=true
 |0,x,hx=>by cases hx
 |n+1,x,hx=>by
  simp only[ee]at hx
  rcases List.mem_append.1 hx with hx|hx
  ·exact uG b n x hx
  ·simp only[List.mem_singleton]at hx
   subst hx
   split
   ·exact Ml _ _
   ·exact tP _
theorem vy {l:List Int} {i:Nat} (h:i < l.length):gi l i∈l:=by simp[gi,h]
theorem uu {h:List Int} (hl:h.length=8) (hw:∀x∈h,word x=true) (b:Bytes):∀n,∀x∈fT h b n,word x=true
 |0,x,hx=>hw x hx
 |n+1,x,hx=>by
  have ih:=uu hl hw b n
  have hv:=nm hl b n
  have hm:∀i,i < 8→word (gi (fT h b n) i)=true:=fun i hi=>ih _ (vy (by omega))
  simp only[fT,RI,List.mem_cons,List.not_mem_nil,or_false]at hx
  rcases hx with rfl|rfl|rfl|rfl|rfl|rfl|rfl|rfl
  ·exact tP _
  ·exact hm 0 (by omega)
  ·exact hm 1 (by omega)
  ·exact hm 2 (by omega)
  ·exact tP _
  ·exact hm 4 (by omega)
  ·exact hm 5 (by omega)
  ·exact hm 6 (by omega)
def arr (b:Bytes) (k:Nat):List Int:=ee b k++List.replicate (64 - k) 0
theorem Dr (b:Bytes) {k:Nat} (h:k≤64):(pP (arr b k)).length=64:=by simp[pP,arr,ek];omega
theorem tY (b:Bytes) {k i:Nat} (hk:k≤64) (h:i < k):((pP (arr b k)).drop i).take 1= [.int .i64 (gi (ee b k) i)]:=by
 rw[B6 (by simp[arr,ek];omega)]
 simp[gi,arr,List.getD_eq_getElem?_getD,List.getElem?_append_left (show i < (ee b k).length by rw[ek];exact h)]
theorem HA (b:Bytes) {k:Nat} (h:k < 64) (x:Int):(pP (arr b k)).set k (.int .i64 x)=pP (ee b k++ [x]++List.replicate (64 - (k+1)) 0):=by
 have e:64 - k=(64 - (k+1))+1:=by omega
 have h2:=ek b k
 simp only[pP,arr,e,List.replicate_succ,List.map_append,List.map_cons]
 rw[List.set_append_right _ _ (by simp[h2])]
 simp[h2]
end Go.Eng.F
namespace Go.Eng.F
theorem Ie (b:Bytes) {k:Nat} (hk:k < 16):pP (ee b k++bw b (4 * k)::List.replicate (63 - k) 0)=pP (arr b (k+1)):=by
 unfold arr
 rw[ee,if_pos hk,show 64 - (k+1)=63 - k by omega]
 simp
theorem Ih (b:Bytes) {k:Nat} (hk:16≤k):pP (ee b k++JT (gi (ee b k) (k - 16)) (gi (ee b k) (k - 15)) (gi (ee b k) (k - 7)) (gi (ee b k) (k - 2))::List.replicate (63 - k) 0)=pP (arr b (k+1)):=by
 unfold arr
 rw[ee,if_neg (by omega),show 64 - (k+1)=63 - k by omega]
 simp
theorem Jg (l:List Int):(ints l).flatten=pP l:=by
 induction l with
 |nil=>rfl
 |cons n l ih=>simp only[ints,pP,List.map_cons,List.flatten_cons]at ih⊢;rw[ih];rfl
theorem Bu {α:Type} {cs vs:List α} (h:vs.length=cs.length):aR cs 0 vs=vs:=by rw[df _ _ _ (by omega)];simp[h]
abbrev lJ:Nat:=323
def lu:AF:=⟨2,8,[.tmp 4],(.seq (.ops [.i (.mov 4 (.c (.val false [.nils])))]) (.seq (.seq (.ops [qm 25 0,qn 26 25, .i (.bin 27 .neq (.s 26) (qi 8)),qm 28 27, .g 28 false 30 (.mov 29 (.s 1)), .g 28 false 31 (.len 30 false (.s 29)), .g 28 false 32 (.bin 31 .neq (.s 30) (qi 64)), .i (.pick 32 (.s 28) (qb true) (.s 31))]) (.cond (.s 32) (.seq (.ops [.i (.mov 4 (.c (.val false [.nils])))]) .ret) .skip)) (.seq (.seq (.ops [qm 33 0,qn 34 33, .i (.mov 35 (qi 0))]) (.block 0 (.loop [42,41,40,39,38,37,36,6] (.seq (.ops [qd 36 .lss 35 34]) (.seq (.cond (.s 36) .skip (.exit 0)) (.seq (.block 1 (.seq (.ops [.i (.iad 37 (.s 33) (.s 35) 1), .i (.ldh 38 (.s 37) 1 false),qm 6 38]) (.seq (.ops [qm 39 6,qk 41 247 39, .i (.not 41 (.s 40))]) (.cond (.s 41) (.seq (.ops [.i (.mov 4 (.c (.val false [.nils])))]) .ret) .skip)))) (.ops [.i (.bin 42 .add (.s 35) (qi 1)),qm 35 42]))))))) (.seq (.ops [.i (.bld 43 [.int .i64 0, .int .i64 0, .int .i64 0, .int .i64 0, .int .i64 0, .int .i64 0, .int .i64 0, .int .i64 0, .int .i64 0, .int .i64 0, .int .i64 0, .int .i64 0, .int .i64 0, .int .i64 0, .int .i64 0, .int .i64 0, .int .i64 0, .int .i64 0, .int .i64 0, .int .i64 0, .int .i64 0, .int .i64 0, .int .i64 0, .int .i64 0, .int .i64 0, .int .i64 0, .int .i64 0, .int .i64 0, .int .i64 0, .int .i64 0, .int .i64 0, .int .i64 0, .int .i64 0, .int .i64 0, .int .i64 0, .int .i64 0, .int .i64 0, .int .i64 0, .int .i64 0, .int .i64 0, .int .i64 0, .int .i64 0, .int .i64 0, .int .i64 0, .int .i64 0, .int .i64 0, .int .i64 0, .int .i64 0, .int .i64 0, .int .i64 0, .int .i64 0, .int .i64 0, .int .i64 0, .int .i64 0, .int .i64 0, .int .i64 0, .int .i64 0, .int .i64 0, .int .i64 0, .int .i64 0, .int .i64 0, .int .i64 0, .int .i64 0, .int .i64 0] []), .i (.call 45 325 false []), .i (.bld 45 [.int .i64 0, .int .i64 0, .int .i64 0, .int .i64 0, .int .i64 0, .int .i64 0, .int .i64 0, .int .i64 0] []), .i (.lal 7 [.int .i64 0, .int .i64 0, .int .i64 0, .int .i64 0, .int .i64 0, .int .i64 0, .int .i64 0, .int .i64 0, .int .i64 0, .int .i64 0, .int .i64 0, .int .i64 0, .int .i64 0, .int .i64 0, .int .i64 0, .int .i64 0, .int .i64 0, .int .i64 0, .int .i64 0, .int .i64 0, .int .i64 0, .int .i64 0, .int .i64 0, .int .i64 0, .int .i64 0, .int .i64 0, .int .i64 0, .int .i64 0, .int .i64 0, .int .i64 0, .int .i64 0, .int .i64 0, .int .i64 0, .int .i64 0, .int .i64 0, .int .i64 0, .int .i64 0, .int .i64 0, .int .i64 0, .int .i64 0, .int .i64 0, .int .i64 0, .int .i64 0, .int .i64 0, .int .i64 0, .int .i64 0, .int .i64 0, .int .i64 0, .int .i64 0, .int .i64 0, .int .i64 0, .int .i64 0, .int .i64 0, .int .i64 0, .int .i64 0, .int .i64 0, .int .i64 0, .int .i64 0, .int .i64 0, .int .i64 0, .int .i64 0, .int .i64 0, .int .i64 0, .int .i64 0]), .i (.hal 9 300 [.int .i64 0, .int .i64 0, .int .i64 0, .int .i64 0, .int .i64 0, .int .i64 0, .int .i64 0, .int .i64 0]),qs 7 7 43 64,qm 8 44, .i (.sth (.s 9) (.s 45) 8)]) (.seq (.seq (.ops [.i (.mov 46 (qi 0))]) (.block 2 (.loop [84,83,82,81,80,79,78,77,76,75,74,73,72,71,70,69,68,67,66,65,64,63,62,61,60,59,58,57,56,55,54,53,52,51,50,49,48,47,10] (.seq (.ops [.i (.bin 47 .lss (.s 46) (qi 16))]) (.seq (.cond (.s 47) .skip (.exit 2)) (.seq (.block 3 (.seq (.ops [qm 48 46,qm 10 48]) (.ops [qm 49 10,qm 50 1,qm 51 10, .i (.bin 52 .mul (qi 4) (.s 51)), .i (.iad 53 (.s 50) (.s 52) 1), .i (.ldh 54 (.s 53) 1 false), .i (.cvi 55 .i64 (.s 54)), .i (.bin 56 .shl (.s 55) (.c (.val false [.int .u64 24]))),qm 57 1,qm 58 10, .i (.bin 59 .mul (qi 4) (.s 58)), .i (.bin 60 .add (.s 59) (qi 1)), .i (.iad 61 (.s 57) (.s 60) 1), .i (.ldh 62 (.s 61) 1 false), .i (.cvi 63 .i64 (.s 62)), .i (.bin 64 .shl (.s 63) (.c (.val false [.int .u64 16]))),qd 65 .or 56 64,qm 66 1,qm 67 10, .i (.bin 68 .mul (qi 4) (.s 67)), .i (.bin 69 .add (.s 68) (qi 2)), .i (.iad 70 (.s 66) (.s 69) 1), .i (.ldh 71 (.s 70) 1 false), .i (.cvi 72 .i64 (.s 71)), .i (.bin 73 .shl (.s 72) (.c (.val false [.int .u64 8]))),qd 74 .or 65 73,qm 75 1,qm 76 10, .i (.bin 77 .mul (qi 4) (.s 76)), .i (.bin 78 .add (.s 77) (qi 3)), .i (.iad 79 (.s 75) (.s 78) 1), .i (.ldh 80 (.s 79) 1 false), .i (.cvi 81 .i64 (.s 80)),qd 82 .or 74 81, .i (.iaa 83 (.s 7) (.s 49) 1 64),qs 7 83 82 1]))) (.ops [.i (.bin 84 .add (.s 46) (qi 1)),qm 46 84]))))))) (.seq (.seq (.ops [.i (.mov 11 (qi 16))]) (.block 4 (.loop [128,127,126,125,124,123,122,121,120,119,118,117,116,115,114,113,112,111,110,109,108,107,106,105,104,103,102,101,100,99,98,97,96,95,94,93,92,91,90,89,88,87,86,85,15,14,13,12] (.seq (.seq (.ops [qm 85 11, .i (.bin 86 .lss (.s 85) (qi 64))]) (.cond (.s 86) .skip (.exit 4))) (.seq (.block 5 (.seq (.ops [qm 89 11, .i (.bin 90 .sub (.s 89) (qi 15)), .i (.iaa 91 (.s 7) (.s 90) 1 64),ql 92 7 91 1 false,qm 93 11, .i (.bin 94 .sub (.s 93) (qi 2)), .i (.iaa 95 (.s 7) (.s 94) 1 64),ql 96 7 95 1 false,qm 12 92,qm 13 96]) (.seq (.ops [qm 97 12, .i (.call 99 326 false [(.s 97),(qi 7)]),qm 99 12, .i (.call 101 326 false [(.s 99),(qi 18)]),qd 101 .xor 98 100,qm 102 12, .i (.bin 103 .shr (.s 102) (.c (.val false [.int .u64 3]))),qd 104 .xor 101 103,qm 14 104]) (.seq (.ops [qm 105 13, .i (.call 107 326 false [(.s 105),(qi 17)]),qm 107 13, .i (.call 109 326 false [(.s 107),(qi 19)]),qd 109 .xor 106 108,qm 110 13, .i (.bin 111 .shr (.s 110) (.c (.val false [.int .u64 10]))),qd 112 .xor 109 111,qm 15 112]) (.ops [qm 113 11,qm 114 11, .i (.bin 115 .sub (.s 114) (qi 16)), .i (.iaa 116 (.s 7) (.s 115) 1 64),ql 117 7 116 1 false,qm 118 14,qd 119 .add 117 118,qm 120 11, .i (.bin 121 .sub (.s 120) (qi 7)), .i (.iaa 122 (.s 7) (.s 121) 1 64),ql 123 7 122 1 false,qd 124 .add 119 123,qm 125 15,qd 126 .add 124 125, .i (.bin 127 .and (.s 126) (qi 4294967295)), .i (.iaa 128 (.s 7) (.s 113) 1 64),qs 7 128 127 1]))))) (.ops [qm 87 11, .i (.bin 88 .add (.s 87) (qi 1)),qm 11 88])))))) (.seq (.ops [.i (.sla 129 (.s 9) 8 1),qm 130 0, .i (.cpy 131 1 (.s 129) (.s 130))]) (.seq (.seq (.ops [.i (.mov 132 (qi 0))]) (.block 6 (.loop [216,215,214,213,212,211,210,209,208,207,206,205,204,203,202,201,200,199,198,197,196,195,194,193,192,191,190,189,188,187,186,185,184,183,182,181,180,179,178,177,176,175,174,173,172,171,170,169,168,167,166,165,164,163,162,161,160,159,158,157,156,155,154,153,152,151,150,149,148,147,146,145,144,143,142,141,140,139,138,137,136,135,134,133,22,21,20,19,18,17,16] (.seq (.ops [.i (.bin 133 .lss (.s 132) (qi 64))]) (.seq (.cond (.s 133) .skip (.exit 6)) (.seq (.block 7 (.seq (.ops [qm 134 132,qm 16 134]) (.seq (.ops [.i (.iaa 135 (.s 9) (qi 4) 1 8), .i (.ldh 136 (.s 135) 1 false), .i (.iaa 137 (.s 9) (qi 0) 1 8), .i (.ldh 138 (.s 137) 1 false),qm 17 136,qm 18 138]) (.seq (.ops [qm 139 17, .i (.iaa 140 (.s 9) (qi 5) 1 8), .i (.ldh 141 (.s 140) 1 false),qd 142 .and 139 141,qm 143 17, .i (.bin 144 .xor (.s 143) (qi 4294967295)), .i (.iaa 145 (.s 9) (qi 6) 1 8), .i (.ldh 146 (.s 145) 1 false),qd 147 .and 144 146,qd 148 .or 142 147,qm 19 148]) (.seq (.ops [qm 149 18, .i (.iaa 150 (.s 9) (qi 1) 1 8), .i (.ldh 151 (.s 150) 1 false),qd 152 .and 149 151,qm 153 18, .i (.iaa 154 (.s 9) (qi 2) 1 8), .i (.ldh 155 (.s 154) 1 false),qd 156 .and 153 155,qd 157 .or 152 156, .i (.iaa 158 (.s 9) (qi 1) 1 8), .i (.ldh 159 (.s 158) 1 false), .i (.iaa 160 (.s 9) (qi 2) 1 8), .i (.ldh 161 (.s 160) 1 false),qd 162 .and 159 161,qd 163 .or 157 162,qm 20 163]) (.seq (.ops [.i (.iaa 164 (.s 9) (qi 7) 1 8), .i (.ldh 165 (.s 164) 1 false),qm 166 17, .i (.call 168 326 true [(.s 166),(qi 6)]),qm 168 17, .i (.call 170 326 true [(.s 168),(qi 11)]),qd 170 .xor 167 169,qm 171 17, .i (.call 173 326 true [(.s 171),(qi 25)]),qd 173 .xor 170 172,qd 174 .add 165 173,qm 175 19,qd 176 .add 174 175,qm 177 8,qm 178 16, .i (.iad 179 (.s 177) (.s 178) 1), .i (.ldh 180 (.s 179) 1 false),qd 181 .add 176 180,qm 182 16, .i (.iaa 183 (.s 7) (.s 182) 1 64),ql 184 7 183 1 false,qd 185 .add 181 184,qm 21 185]) (.seq (.ops [qm 186 18, .i (.call 188 326 false [(.s 186),(qi 2)]),qm 188 18, .i (.call 190 326 false [(.s 188),(qi 13)]),qd 190 .xor 187 189,qm 191 18, .i (.call 193 326 false [(.s 191),(qi 22)]),qd 193 .xor 190 192,qm 194 20,qd 195 .add 193 194,qm 22 195]) (.ops [qm 196 21,qm 197 22,qd 198 .add 196 197, .i (.bin 199 .and (.s 198) (qi 4294967295)),qm 200 18, .i (.iaa 201 (.s 9) (qi 1) 1 8), .i (.ldh 202 (.s 201) 1 false), .i (.iaa 203 (.s 9) (qi 2) 1 8), .i (.ldh 204 (.s 203) 1 false), .i (.iaa 205 (.s 9) (qi 3) 1 8), .i (.ldh 206 (.s 205) 1 false),qm 207 21,qd 208 .add 206 207, .i (.bin 209 .and (.s 208) (qi 4294967295)),qm 210 17, .i (.iaa 211 (.s 9) (qi 5) 1 8), .i (.ldh 212 (.s 211) 1 false), .i (.iaa 213 (.s 9) (qi 6) 1 8), .i (.ldh 214 (.s 213) 1 false), .i (.bld 215 [.int .i64 0, .int .i64 0, .int .i64 0, .int .i64 0, .int .i64 0, .int .i64 0, .int .i64 0, .int .i64 0] [(0,1,(.s 199)),(1,1,(.s 200)),(2,1,(.s 202)),(3,1,(.s 204)),(4,1,(.s 209)),(5,1,(.s 210)),(6,1,(.s 212)),(7,1,(.s 214))]), .i (.sth (.s 9) (.s 215) 8)])))))))) (.ops [.i (.bin 216 .add (.s 132) (qi 1)),qm 132 216]))))))) (.seq (.ops [.i (.bse 217),qm 23 217]) (.seq (.seq (.ops [.i (.mov 218 (qi 0))]) (.block 8 (.loop [233,232,231,230,229,228,227,226,225,224,223,222,221,220,219,24] (.seq (.ops [.i (.bin 219 .lss (.s 218) (qi 8))]) (.seq (.cond (.s 219) .skip (.exit 8)) (.seq (.block 9 (.seq (.ops [qm 220 218,qm 24 220]) (.ops [qm 221 23,qm 222 0,qm 223 24, .i (.iad 224 (.s 222) (.s 223) 1), .i (.ldh 225 (.s 224) 1 false),qm 226 24, .i (.iaa 227 (.s 9) (.s 226) 1 8), .i (.ldh 228 (.s 227) 1 false),qd 229 .add 225 228, .i (.bin 230 .and (.s 229) (qi 4294967295)), .i (.lsl 231 1 1 [.int .i64 0] [(0,1,(.s 230))]), .i (.app 232 3 1 8 (.s 221) (.s 231)),qm 23 232]))) (.ops [.i (.bin 233 .add (.s 218) (qi 1)),qm 218 233]))))))) (.seq (.ops [qm 234 23,qm 4 234]) .ret)))))))))))⟩
theorem wV:cd lJ=some lu:=by kernel_rfl
theorem uP (h:List Int) (b:Bytes) (hl:h.length=8) (hw:∀x∈h,word x=true) (hb:b.length=64):VC cd lJ (aJ [(false,[.sl (ints h)]),(false,[.sl (bytes b)])]) (fun rs _=>rs= [(false,[.o true (some (3,1)) (ints (pJ h b))])]):=by
 refine aa wV rfl ?_
 simp(disch:=omega) [lu,bJ,an,hl,hb,VY]
 refine aO (σ:=Nat) (f1:=_) (es0:=_) (by simp(disch:=omega) [VY];rfl) (by simp(disch:=omega) [VY];rfl) (fun i=> [(35, .val false [.int .i64 i])]) (fun _=> []) (fun i g=>g+i=8) 0 8 (by simp(disch:=omega) [VY]) (by simp(disch:=omega) [VY]) (by omega) ?_
 rintro i n g hg
 simp(disch:=omega) [VY]
 refine ab (fun h1=> ?_) (fun h1=> ?_)
 ·have hx:i < h.length:=by omega
  simp(disch:=omega) [Fs hx,VY]
  refine ah (uU _) rfl rfl ?_
  have hq:word (gi h i)=true:=hw _ (vy hx)
  simp(disch:=omega) [hq,VY]
  exact⟨i+1,g - 1,by omega,by omega,by omega⟩
 have hi:i=8:=by omega
 subst hi
 simp(disch:=omega) [VY]
 refine ah (IE) rfl rfl ?_
 simp(disch:=omega) [VY]
 refine aO (σ:=Nat) (f1:=_) (es0:=_) (by simp(disch:=omega) [VY];rfl) (by simp(disch:=omega) [VY];rfl) (fun k=> [(46, .val false [.int .i64 k]),(7, .box (pP (arr b k)))]) (fun _=> []) (fun k g=>g+k=16) 0 16 (by simp(disch:=omega) [pP,arr,ee,VY]) (by simp(disch:=omega) [VY]) (by omega) ?_
 rintro k n g hg
 simp(disch:=omega) [VY]
 refine ab (fun h2=> ?_) (fun h2=> ?_)
 ·have hk:k < 16:=by omega
  have q1:((4:Int) * (k:Int)).toNat=4 * k:=by omega
  have q2:((4:Int) * (k:Int)+1).toNat=4 * k+1:=by omega
  have q3:((4:Int) * (k:Int)+2).toNat=4 * k+2:=by omega
  have q4:((4:Int) * (k:Int)+3).toNat=4 * k+3:=by omega
  have p1:(0:Int)≤(4:Int) * (k:Int)∧(0:Int)≤(4:Int) * (k:Int)+1∧(0:Int)≤(4:Int) * (k:Int)+2∧(0:Int)≤(4:Int) * (k:Int)+3:=by omega
  obtain⟨p1,p2,p3,p4⟩:=p1
  have r1:=dz b (4 * k)
  have r2:=dz b (4 * k+1)
  have r3:=dz b (4 * k+2)
  have r4:=dz b (4 * k+3)
  have p5:(k:Int) < 64:=by omega
  have p6:k≤63:=by omega
  have e1:=Dr b (show k≤64 by omega)
  have e2:=fun x=>HA b (show k < 64 by omega) x
  simp(disch:=omega) [an,hb,q1,q2,q3,q4,p1,p2,p3,p4,p5,p6,e1,e2,pf (show 4 * k < b.length by omega),pf (show 4 * k+1 < b.length by omega),pf (show 4 * k+2 < b.length by omega),pf (show 4 * k+3 < b.length by omega),VY]
  exact⟨k+1,g - 1,by omega,by omega,⟨Ie b hk,by omega⟩⟩
 have hk:k=16:=by omega
 subst hk
 simp(disch:=omega) [VY]
 refine aO (σ:=Nat) (f1:=_) (es0:=_) (by simp(disch:=omega) [VY];rfl) (by simp(disch:=omega) [VY];rfl) (fun k=> [(11, .val false [.int .i64 k]),(7, .box (pP (arr b k)))]) (fun _=> []) (fun k g=>g+k=64∧16≤k) 16 48 (by simp(disch:=omega) [VY]) (by simp(disch:=omega) [VY]) (by omega) ?_
 rintro k n g hg
 simp(disch:=omega) [VY]
 refine ab (fun h3=> ?_) (fun h3=> ?_)
 ·have hk:k < 64:=by omega
  obtain⟨p1,p2,p3⟩:(15:Int)≤(k:Int)∧((k:Int) - 15).toNat=k - 15∧(k:Int) - 15 < 64:=by omega
  obtain⟨p4,p5,p6⟩:(2:Int)≤(k:Int)∧((k:Int) - 2).toNat=k - 2∧(k:Int) - 2 < 64:=by omega
  obtain⟨p7,p8,p9⟩:(16:Int)≤(k:Int)∧((k:Int) - 16).toNat=k - 16∧(k:Int) - 16 < 64:=by omega
  obtain⟨q1,q2,q3⟩:(7:Int)≤(k:Int)∧((k:Int) - 7).toNat=k - 7∧(k:Int) - 7 < 64:=by omega
  have p10:(k:Int) < 64:=by omega
  have p11:k≤63:=by omega
  obtain⟨t1,t2,t3,t4⟩:k≤78∧k≤65∧k≤79∧k≤70:=by omega
  have e1:=Dr b (show k≤64 by omega)
  have e2:=fun x=>HA b (show k < 64 by omega) x
  have g1:=tY b (show k≤64 by omega) (show k - 15 < k by omega)
  have g2:=tY b (show k≤64 by omega) (show k - 2 < k by omega)
  have g3:=tY b (show k≤64 by omega) (show k - 16 < k by omega)
  have g4:=tY b (show k≤64 by omega) (show k - 7 < k by omega)
  have hwl:=ek b k
  have w1:=uG b k _ (vy (show k - 15 < (ee b k).length by omega))
  have w2:=uG b k _ (vy (show k - 2 < (ee b k).length by omega))
  simp(disch:=omega) [e1,p1,p2,p3,p4,p5,p6,g1,g2,t1,t2,VY]
  refine ah (bY _ 7 (by omega) w1) rfl rfl ?_
  simp(disch:=omega) [VY]
  refine ah (bY _ 18 (by omega) w1) rfl rfl ?_
  simp(disch:=omega) [VY]
  refine ah (bY _ 17 (by omega) w2) rfl rfl ?_
  simp(disch:=omega) [VY]
  refine ah (bY _ 19 (by omega) w2) rfl rfl ?_
  simp(disch:=omega) [e1,e2,p7,p8,p9,q1,q2,q3,p10,p11,g3,g4,t3,t4,VY]
  exact⟨k+1,g - 1,by omega,by omega,Ih b (by omega),by omega⟩
 have hk:k=64:=by omega
 subst hk
 have c1:((ints h).take 8).flatten=pP h:=by rw[List.take_of_length_le (by rw[bJ];omega)];exact Jg h
 have c2:aR [.int .i64 0, .int .i64 0, .int .i64 0, .int .i64 0, .int .i64 0, .int .i64 0, .int .i64 0, .int .i64 0] 0 (pP h)=pP h:=Bu (by rw[Dc,hl];rfl)
 simp(disch:=omega) [bJ,hl,gF,jD,c1,c2,VY]
 refine aO (σ:=Nat×Nat) (f1:=_) (es0:=_) (by simp(disch:=omega) [VY];rfl) (by simp(disch:=omega) [VY];rfl) (fun p=> [(132, .val false [.int .i64 p.1]),(9, .val false [.pt 9 p.2 0])]) (fun p=> [(9, .pt p.2 300 (pP (fT h b p.1)))]) (fun p g=>g+p.1=64) (0,_) 64 (by simp(disch:=omega) [VY];rfl) (by simp(disch:=omega) [fT,VY]) (by omega) ?_
 rintro⟨k,v⟩ n g hg
 simp only at hg
 simp(disch:=omega) [VY]
 refine ab (fun h4=> ?_) (fun h4=> ?_)
 ·have hk:k < 64:=by omega
  have hv:=nm hl b k
  have e1:(pP (fT h b k)).length=8:=by rw[Dc,hv]
  have e2:(ints kk).length=64:=rfl
  have e3:=Dr b (show 64≤64 by omega)
  have p1:(k:Int) < 64:=by omega
  have p2:k≤63:=by omega
  have g1:∀i,i < 8→((pP (fT h b k)).drop i).take 1= [.int .i64 (gi (fT h b k) i)]:=fun i hi=>B6 (by omega)
  have g2:=tY b (show 64≤64 by omega) hk
  have g0:(pP (fT h b k)).take 1= [.int .i64 (gi (fT h b k) 0)]:=g1 0 (by omega)
  have w1:=uu hl hw b k _ (vy (show 4 < (fT h b k).length by omega))
  have w2:=uu hl hw b k _ (vy (show 0 < (fT h b k).length by omega))
  have g01:(pP (fT h b k)).tail.take 1= [.int .i64 (gi (fT h b k) 1)]:=by have:=g1 1 (by omega);simpa using this
  simp(disch:=omega) [e1,e2,e3,g0,g01,g1,g2,eA,p1,p2,VY]
  refine ah (bY _ 6 (by omega) w1) rfl rfl ?_
  simp(disch:=omega) [VY]
  refine ah (bY _ 11 (by omega) w1) rfl rfl ?_
  simp(disch:=omega) [VY]
  refine ah (bY _ 25 (by omega) w1) rfl rfl ?_
  simp(disch:=omega) [e1,e2,e3,g0,g01,g1,g2,eA,p1,p2,VY]
  refine ah (bY _ 2 (by omega) w2) rfl rfl ?_
  simp(disch:=omega) [VY]
  refine ah (bY _ 13 (by omega) w2) rfl rfl ?_
  simp(disch:=omega) [VY]
  refine ah (bY _ 22 (by omega) w2) rfl rfl ?_
  have hset:∀a b' c d e f g' h',aR (pP (fT h b k)) 0 [a,b',c,d,e,f,g',h']= [a,b',c,d,e,f,g',h']:=fun _ _ _ _ _ _ _ _=>Bu (by rw[e1];rfl)
  simp(disch:=omega) [e1,e2,e3,g0,g01,g1,g2,eA,p1,p2,hset,VY]
  simp only[Qr w1,N5]
  exact⟨k+1,_,g - 1,by omega,by omega,⟨rfl,by omega⟩,rfl,rfl⟩
 have hk:k=64:=by omega
 subst hk
 simp(disch:=omega) [VY]
 refine aO (σ:=Nat×Nat) (f1:=_) (es0:=_) (by simp(disch:=omega) [VY];rfl) (by simp(disch:=omega) [VY];rfl) (fun p=> [(218, .val false [.int .i64 p.1]),(23, .val false [.ow 217 p.2])]) (fun p=> [(217, .sl p.2 true true (some (3,1)) (ints ((pJ h b).take p.1)))])
  (fun p g=>g+p.1=8) (0,_) 8 (by simp(disch:=omega) [VY];rfl) (by simp(disch:=omega) [ints,VY]) (by omega) ?_
 rintro⟨k,w⟩ n g hg
 simp only at hg
 simp(disch:=omega) [VY]
 refine ab (fun h5=> ?_) (fun h5=> ?_)
 ·have hk:k < 8:=by omega
  have hv:=nm hl b 64
  have e1:(pP (fT h b 64)).length=8:=by rw[Dc,hv]
  have e2:(ints h).length=8:=by rw[bJ,hl]
  have e3:(ints ((pJ h b).take k)).length=k:=by rw[bJ];simp[pJ];omega
  have p1:(k:Int) < 8:=by omega
  have p2:k≤7:=by omega
  have g1:((pP (fT h b 64)).drop k).take 1= [.int .i64 (gi (fT h b 64) k)]:=B6 (by omega)
  simp(disch:=omega) [e1,e2,e3,g1,p1,p2,eA,gF,jD,VY]
  exact⟨k+1,_,g - 1,by omega,by omega,⟨rfl,by omega⟩,rfl,BG h b hk⟩
 ·have hk:k=8:=by omega
  subst hk
  simp(disch:=omega) [VY]
  rw[List.take_of_length_le (by simp[pJ])]
end Go.Eng.F
namespace Go.Eng.F
theorem HK (b:Bytes):(pad b).length=b.length+1+zc b.length+8∧(pad b).length % 64=0:=by
 have h:=tT b.length
 have e:(pad b).length=b.length+1+zc b.length+8:=by simp[pad,mb];omega
 omega
def hs (b:Bytes):Nat→List Int
 |0=>init
 |n+1=>pJ (hs b n) (((pad b).drop (64 * n)).take 64)
theorem vB (b:Bytes):∀n,(hs b n).length=8
 |0=>rfl
 |n+1=>by simp[hs,pJ]
theorem HO (b:Bytes):∀n,∀x∈hs b n,word x=true
 |0,x,hx=>by
  have h:∀x∈init,word x=true:=by decide
  exact h x hx
 |n+1,x,hx=>by
  simp only[hs,pJ,List.mem_map]at hx
  obtain⟨i,_,rfl⟩:=hx
  exact tP _
def b8 (y:Int):UInt8:=UInt8.ofNat (IntKind.u8.wrap y).toNat
theorem Cm (y:Int):((b8 y).toNat:Int)=IntKind.u8.wrap y:=by
 obtain⟨h1,h2⟩:=HG .u8 y
 have e1:IntKind.u8.min=0:=rfl
 have e2:IntKind.u8.max=255:=rfl
 unfold b8
 rw[UInt8.toNat_ofNat']
 omega
def w4 (x:Int):Bytes:= [b8 (x.fdiv (2 ^ min 24 IntKind.i64.bits)),b8 (x.fdiv (2 ^ min 16 IntKind.i64.bits)),b8 (x.fdiv (2 ^ min 8 IntKind.i64.bits)),b8 x]
theorem Hd {l:List Int} {k:Nat} (h:k < l.length):bytes ((l.take (k+1)).flatMap w4)=bytes ((l.take k).flatMap w4)++ [[.int .u8 (IntKind.u8.wrap ((gi l k).fdiv (2 ^ min 24 IntKind.i64.bits)))],[.int .u8 (IntKind.u8.wrap ((gi l k).fdiv (2 ^ min 16 IntKind.i64.bits)))],[.int .u8 (IntKind.u8.wrap ((gi l k).fdiv (2 ^ min 8 IntKind.i64.bits)))],[.int .u8 (IntKind.u8.wrap (gi l k))]]:=by
 have e:gi l k=l[k]:=by simp[gi,h]
 rw[List.take_add_one,List.getElem?_eq_getElem h,e]
 simp only[List.flatMap_append,Option.toList_some,List.flatMap_cons,List.flatMap_nil,List.append_nil,bytes,List.map_append,w4,List.map_cons,List.map_nil,Cm]
theorem Dw:∀(l:List Int) (k:Nat),k≤l.length→((l.take k).flatMap w4).length=4 * k
 |_,0,_=>by simp
 | [],k+1,h=>by simp at h
 |x::l,k+1,h=>by
  have:=Dw l k (by simpa using h)
  simp only[List.take_succ_cons,List.flatMap_cons,List.length_append,this]
  simp only[w4,List.length_cons,List.length_nil]
  omega
def Hx (b:Bytes):Bytes:=(hs b ((pad b).length / 64)).flatMap w4
abbrev Ah:Nat:=311
def yx:AF:=⟨1,6,[.tmp 2],(.seq (.ops [.i (.mov 2 (.c (.val false [.nils])))]) (.seq (.ops [.i (.call 10 321 false []),qm 10 0,qk 12 322 10,qm 3 9,qm 4 11]) (.seq (.seq (.ops [.i (.mov 5 (qi 0))]) (.block 0 (.loop [24,23,22,21,20,19,18,17,16,15,14,13,12] (.seq (.seq (.ops [qm 12 5,qm 13 4,qn 14 13,qd 15 .lss 12 14]) (.cond (.s 15) .skip (.exit 0))) (.seq (.block 1 (.ops [qm 18 3,qm 19 4,qm 20 5,qm 21 5, .i (.bin 22 .add (.s 21) (qi 64)), .i (.eV 23 1 (.s 19) (some (.s 20)) (some (.s 22))), .i (.call 25 323 false [(.s 18),(.s 23)]),qm 3 24])) (.ops [qm 16 5, .i (.bin 17 .add (.s 16) (qi 64)),qm 5 17])))))) (.seq (.ops [.i (.bse 25),qm 6 25]) (.seq (.seq (.ops [qm 26 3,qn 27 26, .i (.mov 28 (qi 0))]) (.block 2 (.loop [46,45,44,43,42,41,40,39,38,37,36,35,34,33,32,31,30,29,8] (.seq (.ops [qd 29 .lss 28 27]) (.seq (.cond (.s 29) .skip (.exit 2)) (.seq (.block 3 (.seq (.ops [.i (.iad 30 (.s 26) (.s 28) 1), .i (.ldh 31 (.s 30) 1 false),qm 8 31]) (.ops [qm 32 6,qm 33 8, .i (.bin 34 .shr (.s 33) (.c (.val false [.int .u64 24]))), .i (.cvi 35 .u8 (.s 34)),qm 36 8, .i (.bin 37 .shr (.s 36) (.c (.val false [.int .u64 16]))), .i (.cvi 38 .u8 (.s 37)),qm 39 8, .i (.bin 40 .shr (.s 39) (.c (.val false [.int .u64 8]))), .i (.cvi 41 .u8 (.s 40)),qm 42 8, .i (.cvi 43 .u8 (.s 42)), .i (.lsl 44 1 4 [.int .u8 0] [(0,1,(.s 35)),(1,1,(.s 38)),(2,1,(.s 41)),(3,1,(.s 43))]), .i (.app 45 5 1 1 (.s 32) (.s 44)),qm 6 45]))) (.ops [.i (.bin 46 .add (.s 28) (qi 1)),qm 28 46]))))))) (.seq (.ops [qm 47 6,qm 2 47]) .ret))))))⟩
theorem Gq:cd Ah=some yx:=by kernel_rfl
theorem pb (b:Bytes) (hb:b.length≤1073741824):VC cd Ah (aJ [(false,[.sl (bytes b)])]) (fun rs _=>rs= [(false,[.o true (some (5,1)) (bytes (Hx b))])]):=by
 have hp:=HK b
 have hz:=tT b.length
 refine aa Gq rfl ?_
 simp(disch:=omega) [yx,VY]
 refine ah (wz) rfl rfl ?_
 simp(disch:=omega) [VY]
 refine ah (yb b hb) rfl rfl ?_
 simp(disch:=omega) [VY]
 refine oU (σ:=Nat×Nat) (f0:=_) (by simp(disch:=omega) [VY];rfl) ((ed.Ru (.ow 106496 2)).trans (ed.QV (s:=3) (k:=90112) (k':=212992) (by simp(disch:=omega) [VY]) rfl (by omega))) (f1:=_) (es0:=_) (by simp(disch:=omega) [VY];rfl) (by simp(disch:=omega) [tH,ib,i9,St.put,VY];rfl) (fun p=> [(5, .val false [.int .i64 (64 * (p.1:Int))]),(3, .val false [.ow 212992 p.2])]) (fun p=> [(212992, .sl p.2 true true (some (3,1)) (ints (hs b p.1)))])
  (fun p g=>g+p.1=(pad b).length / 64) (0,_) ((pad b).length / 64) (by simp(disch:=omega) [tH,i9,St.put,VY];rfl) (by simp(disch:=omega) [hs,tH,ib,i9,St.put,VY]) (by omega) ?_
 rintro⟨k,v⟩ n g hg
 simp only at hg
 simp(disch:=omega) [an,VY]
 refine ab (fun h1=> ?_) (fun h1=> ?_)
 ·have hk:64 * k+64≤(pad b).length:=by omega
  have p1:(64:Int) * (k:Int)+64≤((pad b).length:Int):=by omega
  have p2:((64:Int) * (k:Int)).toNat=64 * k:=by omega
  have p3:(0:Int)≤64 * (k:Int):=by omega
  have p4:((64:Int) * (k:Int)+64 - 64 * (k:Int)).toNat=64:=by omega
  have p5:(64:Int) * (k:Int)≤64 * (k:Int)+64:=by omega
  have hx:((bytes (pad b)).drop (64 * k)).take 64=bytes (((pad b).drop (64 * k)).take 64):=by simp[bytes]
  simp(disch:=omega) [an,p1,p2,p3,p4,p5,hx,uL,VY]
  refine az (uP (hs b k) (((pad b).drop (64 * k)).take 64) (vB b k) (HO b k) (by simp;omega)) ?_
  simp(disch:=omega) [VY]
  exact⟨k+1,_,g - 1,by omega,by omega,⟨rfl,by omega⟩,rfl,rfl⟩
 have hk:k=(pad b).length / 64:=by omega
 subst hk
 have hl:=vB b ((pad b).length / 64)
 simp(disch:=omega) [bJ,hl,VY]
 refine aO (σ:=Nat×Nat) (f1:=_) (es0:=_) (by simp(disch:=omega) [VY];rfl) (by simp(disch:=omega) [VY];rfl) (fun p=> [(28, .val false [.int .i64 p.1]),(6, .val false [.ow 25 p.2])]) (fun p=> [(25, .sl p.2 true true (some (5,1)) (bytes (((hs b ((pad b).length / 64)).take p.1).flatMap w4)))])
  (fun p g=>g+p.1=8) (0,_) 8 (by simp(disch:=omega) [VY];rfl) (by simp(disch:=omega) [bytes,VY]) (by omega) ?_
 rintro⟨k,w⟩ n g hg
 simp only at hg
 simp(disch:=omega) [VY]
 refine ab (fun h2=> ?_) (fun h2=> ?_)
 ·have hk:k < 8:=by omega
  have e1:(ints (hs b ((pad b).length / 64))).length=8:=by rw[bJ,hl]
  have e2:(bytes (((hs b ((pad b).length / 64)).take k).flatMap w4)).length=4 * k:=by rw[an];exact Dw _ _ (by omega)
  simp(disch:=omega) [e1,e2,eA,VY]
  exact⟨k+1,_,g - 1,by omega,by omega,⟨by omega,rfl⟩,rfl,Hd (by omega)⟩
 ·have hk:k=8:=by omega
  subst hk
  simp(disch:=omega) [VY]
  rw[List.take_of_length_le (by omega)]
  rfl
abbrev Aa:Nat:=269
def zV:AF:=⟨1,6,[.tmp 2],(.seq (.ops [.i (.mov 2 (.c (.val false [.nils])))]) (.seq (.ops [.i (.call 10 303 false []),qm 3 9]) (.seq (.ops [qm 10 0,qk 12 304 10,qm 4 11]) (.seq (.seq (.ops [.i (.mov 5 (qi 0))]) (.block 0 (.loop [24,23,22,21,20,19,18,17,16,15,14,13,12] (.seq (.seq (.ops [qm 12 5,qm 13 4,qn 14 13,qd 15 .lss 12 14]) (.cond (.s 15) .skip (.exit 0))) (.seq (.block 1 (.ops [qm 18 3,qm 19 4,qm 20 5,qm 21 5, .i (.bin 22 .add (.s 21) (qi 64)), .i (.eV 23 1 (.s 19) (some (.s 20)) (some (.s 22))), .i (.call 25 305 false [(.s 18),(.s 23)]),qm 3 24])) (.ops [qm 16 5, .i (.bin 17 .add (.s 16) (qi 64)),qm 5 17])))))) (.seq (.ops [.i (.bse 25),qm 6 25]) (.seq (.seq (.ops [qm 26 3,qn 27 26, .i (.mov 28 (qi 0))]) (.block 2 (.loop [46,45,44,43,42,41,40,39,38,37,36,35,34,33,32,31,30,29,8] (.seq (.ops [qd 29 .lss 28 27]) (.seq (.cond (.s 29) .skip (.exit 2)) (.seq (.block 3 (.seq (.ops [.i (.iad 30 (.s 26) (.s 28) 1), .i (.ldh 31 (.s 30) 1 false),qm 8 31]) (.ops [qm 32 6,qm 33 8, .i (.bin 34 .shr (.s 33) (.c (.val false [.int .u64 24]))), .i (.cvi 35 .u8 (.s 34)),qm 36 8, .i (.bin 37 .shr (.s 36) (.c (.val false [.int .u64 16]))), .i (.cvi 38 .u8 (.s 37)),qm 39 8, .i (.bin 40 .shr (.s 39) (.c (.val false [.int .u64 8]))), .i (.cvi 41 .u8 (.s 40)),qm 42 8, .i (.cvi 43 .u8 (.s 42)), .i (.lsl 44 1 4 [.int .u8 0] [(0,1,(.s 35)),(1,1,(.s 38)),(2,1,(.s 41)),(3,1,(.s 43))]), .i (.app 45 5 1 1 (.s 32) (.s 44)),qm 6 45]))) (.ops [.i (.bin 46 .add (.s 28) (qi 1)),qm 28 46]))))))) (.seq (.ops [qm 47 6,qm 2 47]) .ret)))))))⟩
theorem GL:cd Aa=some zV:=by kernel_rfl
theorem nf (b:Bytes) (hb:b.length≤1073741824):VC cd Aa (aJ [(false,[.sl (bytes b)])]) (fun rs _=>rs= [(false,[.o true (some (5,1)) (bytes (Hx b))])]):=by
 have hp:=HK b
 have hz:=tT b.length
 refine aa GL rfl ?_
 simp(disch:=omega) [zV,VY]
 refine ah (wO) rfl rfl ?_
 simp(disch:=omega) [VY]
 refine ah (zd b hb) rfl rfl ?_
 simp(disch:=omega) [VY]
 refine oU (σ:=Nat×Nat) (f0:=_) (by simp(disch:=omega) [VY];rfl) ((ed.Ru (.ow 106496 2)).trans (ed.QV (s:=3) (k:=90112) (k':=212992) (by simp(disch:=omega) [VY]) rfl (by omega))) (f1:=_) (es0:=_) (by simp(disch:=omega) [VY];rfl) (by simp(disch:=omega) [tH,ib,i9,St.put,VY];rfl) (fun p=> [(5, .val false [.int .i64 (64 * (p.1:Int))]),(3, .val false [.ow 212992 p.2])]) (fun p=> [(212992, .sl p.2 true true (some (3,1)) (ints (hs b p.1)))])
  (fun p g=>g+p.1=(pad b).length / 64) (0,_) ((pad b).length / 64) (by simp(disch:=omega) [tH,i9,St.put,VY];rfl) (by simp(disch:=omega) [hs,tH,ib,i9,St.put,VY]) (by omega) ?_
 rintro⟨k,v⟩ n g hg
 simp only at hg
 simp(disch:=omega) [an,VY]
 refine ab (fun h1=> ?_) (fun h1=> ?_)
 ·have hk:64 * k+64≤(pad b).length:=by omega
  have p1:(64:Int) * (k:Int)+64≤((pad b).length:Int):=by omega
  have p2:((64:Int) * (k:Int)).toNat=64 * k:=by omega
  have p3:(0:Int)≤64 * (k:Int):=by omega
  have p4:((64:Int) * (k:Int)+64 - 64 * (k:Int)).toNat=64:=by omega
  have p5:(64:Int) * (k:Int)≤64 * (k:Int)+64:=by omega
  have hx:((bytes (pad b)).drop (64 * k)).take 64=bytes (((pad b).drop (64 * k)).take 64):=by simp[bytes]
  simp(disch:=omega) [an,p1,p2,p3,p4,p5,hx,uL,VY]
  refine az (uO (hs b k) (((pad b).drop (64 * k)).take 64) (vB b k) (HO b k) (by simp;omega)) ?_
  simp(disch:=omega) [VY]
  exact⟨k+1,_,g - 1,by omega,by omega,⟨rfl,by omega⟩,rfl,rfl⟩
 have hk:k=(pad b).length / 64:=by omega
 subst hk
 have hl:=vB b ((pad b).length / 64)
 simp(disch:=omega) [bJ,hl,VY]
 refine aO (σ:=Nat×Nat) (f1:=_) (es0:=_) (by simp(disch:=omega) [VY];rfl) (by simp(disch:=omega) [VY];rfl) (fun p=> [(28, .val false [.int .i64 p.1]),(6, .val false [.ow 25 p.2])]) (fun p=> [(25, .sl p.2 true true (some (5,1)) (bytes (((hs b ((pad b).length / 64)).take p.1).flatMap w4)))])
  (fun p g=>g+p.1=8) (0,_) 8 (by simp(disch:=omega) [VY];rfl) (by simp(disch:=omega) [bytes,VY]) (by omega) ?_
 rintro⟨k,w⟩ n g hg
 simp only at hg
 simp(disch:=omega) [VY]
 refine ab (fun h2=> ?_) (fun h2=> ?_)
 ·have hk:k < 8:=by omega
  have e1:(ints (hs b ((pad b).length / 64))).length=8:=by rw[bJ,hl]
  have e2:(bytes (((hs b ((pad b).length / 64)).take k).flatMap w4)).length=4 * k:=by rw[an];exact Dw _ _ (by omega)
  simp(disch:=omega) [e1,e2,eA,VY]
  exact⟨k+1,_,g - 1,by omega,by omega,⟨by omega,rfl⟩,rfl,Hd (by omega)⟩
 ·have hk:k=8:=by omega
  subst hk
  simp(disch:=omega) [VY]
  rw[List.take_of_length_le (by omega)]
  rfl
end Go.Eng.F
namespace Go.Eng.F
abbrev kx:Nat:=312
def kM:AF:=⟨1,3,[.tmp 2],(.seq (.ops [.i (.mov 2 (.c (.val false [.nils])))]) (.seq (.ops [.i (.bsl 3 5 1 1 [.int .u8 0] [(0,1,(.c (.val false [.int .u8 0])))]),qm 4 0, .i (.app 5 5 1 1 (.s 3) (.s 4)),qk 7 311 5,qm 2 6]) .ret))⟩
theorem xl:cd kx=some kM:=by kernel_rfl
theorem vu (x:Bytes) (hx:x.length≤1073741823):VC cd kx (aJ [(false,[.sl (bytes x)])]) (fun rs _=>rs= [(false,[.o true (some (5,1)) (bytes (Hx (0::x)))])]):=by
 have e: [[D.int .u8 0]]++bytes x=bytes (0::x):=rfl
 refine aa xl rfl ?_
 simp(disch:=omega) [kM,e,an,VY]
 refine ah (pb (0::x) (by simp;omega)) rfl rfl ?_
 simp(disch:=omega) [VY]
abbrev lM:Nat:=270
def kF:AF:=⟨1,3,[.tmp 2],(.seq (.ops [.i (.mov 2 (.c (.val false [.nils])))]) (.seq (.ops [.i (.bsl 3 5 1 1 [.int .u8 0] [(0,1,(.c (.val false [.int .u8 0])))]),qm 4 0, .i (.app 5 5 1 1 (.s 3) (.s 4)),qk 7 269 5,qm 2 6]) .ret))⟩
theorem wH:cd lM=some kF:=by kernel_rfl
theorem vf (x:Bytes) (hx:x.length≤1073741823):VC cd lM (aJ [(false,[.sl (bytes x)])]) (fun rs _=>rs= [(false,[.o true (some (5,1)) (bytes (Hx (0::x)))])]):=by
 have e: [[D.int .u8 0]]++bytes x=bytes (0::x):=rfl
 refine aa wH rfl ?_
 simp(disch:=omega) [kF,e,an,VY]
 refine ah (nf (0::x) (by simp;omega)) rfl rfl ?_
 simp(disch:=omega) [VY]
abbrev kr:Nat:=314
def lV:AF:=⟨2,4,[.tmp 4],(.seq (.ops [.i (.mov 4 (.c (.val false [.nils])))]) (.seq (.ops [.i (.bsl 5 5 1 1 [.int .u8 0] [(0,1,(.c (.val false [.int .u8 1])))]),qm 6 0, .i (.app 7 5 1 1 (.s 5) (.s 6)),qm 8 1, .i (.app 9 5 1 1 (.s 7) (.s 8)),qk 11 311 9,qm 4 10]) .ret))⟩
theorem wC:cd kr=some lV:=by kernel_rfl
theorem vD (x y:Bytes) (hx:x.length≤1000) (hy:y.length≤1000):VC cd kr (aJ [(false,[.sl (bytes x)]),(false,[.sl (bytes y)])]) (fun rs _=>rs= [(false,[.o true (some (5,1)) (bytes (Hx (1::x++y)))])]):=by
 have e: [[D.int .u8 1]]++bytes x=bytes (1::x):=rfl
 have e2:bytes (1::x)++bytes y=bytes (1::x++y):=by simp[bytes]
 refine aa wC rfl ?_
 simp(disch:=omega) [lV,e,e2,an,VY]
 refine ah (pb (1::x++y) (by simp;omega)) rfl rfl ?_
 simp(disch:=omega) [VY]
abbrev ll:Nat:=272
def lr:AF:=⟨2,4,[.tmp 4],(.seq (.ops [.i (.mov 4 (.c (.val false [.nils])))]) (.seq (.ops [.i (.bsl 6 5 1 1 [.int .u8 0] [(0,1,(.c (.val false [.int .u8 1])))]),qm 7 0, .i (.app 8 5 1 1 (.s 6) (.s 7)),qm 5 8]) (.seq (.ops [qm 9 5,qm 10 1, .i (.app 11 5 1 1 (.s 9) (.s 10)),qk 13 269 11,qm 4 12]) .ret)))⟩
theorem w9:cd ll=some lr:=by kernel_rfl
theorem vC (x y:Bytes) (hx:x.length≤1000) (hy:y.length≤1000):VC cd ll (aJ [(false,[.sl (bytes x)]),(false,[.sl (bytes y)])]) (fun rs _=>rs= [(false,[.o true (some (5,1)) (bytes (Hx (1::x++y)))])]):=by
 have e: [[D.int .u8 1]]++bytes x=bytes (1::x):=rfl
 have e2:bytes (1::x)++bytes y=bytes (1::x++y):=by simp[bytes]
 refine aa w9 rfl ?_
 simp(disch:=omega) [lr,e,e2,an,VY]
 refine ah (nf (1::x++y) (by simp;omega)) rfl rfl ?_
 simp(disch:=omega) [VY]
def KZ (n k:Nat):Nat:=if h:0 < k∧k < n - k then KZ n (2 * k)else k
termination_by n - k
decreasing_by omega
def splitAt (n:Nat):Nat:=if n < 2 then 0 else KZ n 1
abbrev ml:Nat:=313
def nZ:AF:=⟨1,4,[.tmp 2],(.seq (.ops [.i (.mov 2 (qi 0))]) (.seq (.seq (.ops [qm 4 0, .i (.bin 5 .lss (.s 4) (qi 2))]) (.cond (.s 5) (.seq (.ops [.i (.mov 2 (qi 0))]) .ret) .skip)) (.seq (.ops [.i (.mov 3 (qi 1))]) (.seq (.block 0 (.loop [12,11,10,9,8,7,6] (.seq (.seq (.ops [qm 6 3,qm 7 0,qm 8 3,qd 9 .sub 7 8,qd 10 .lss 6 9]) (.cond (.s 10) .skip (.exit 0))) (.block 1 (.ops [qm 11 3, .i (.bin 12 .mul (.s 11) (qi 2)),qm 3 12]))))) (.seq (.ops [qm 13 3,qm 2 13]) .ret)))))⟩
theorem y0:cd ml=some nZ:=by kernel_rfl
theorem kY (n:Nat) (hn:n≤1073741824):VC cd ml (aJ [(false,[.int .i64 (n:Int)])]) (fun rs _=>rs=it (splitAt n)):=by
 refine aa y0 rfl ?_
 simp(disch:=omega) [nZ,VY]
 refine ab (fun h1=> ?_) (fun h1=> ?_)
 ·have h2:n < 2:=by omega
  simp(disch:=omega) [splitAt,h2,VY]
 ·have h2:¬n < 2:=by omega
  simp(disch:=omega) [VY]
  refine aO (σ:=Nat) (f1:=_) (es0:=_) (by simp(disch:=omega) [VY];rfl) (by simp(disch:=omega) [VY];rfl) (fun k=> [(3, .val false [.int .i64 k])]) (fun _=> []) (fun k g=>g+k=n∧0 < k∧KZ n k=splitAt n) 1 (n - 1) (by simp(disch:=omega) [VY]) (by simp(disch:=omega) [VY]) ⟨by omega,by omega,by rw[splitAt,if_neg h2]⟩ ?_
  rintro k v g ⟨hg,h0,hk⟩
  simp(disch:=omega) [VY]
  refine ab (fun h3=> ?_) (fun h3=> ?_)
  ·simp(disch:=omega) [VY]
   exact⟨2 * k,n - 2 * k,by omega,⟨by omega,by omega,by rw[←hk];conv=>rhs;rw[KZ,dif_pos ⟨h0,by omega⟩]⟩,by omega⟩
  ·simp(disch:=omega) [VY]
   rw[KZ,dif_neg (by omega)]at hk
   rw[hk]
abbrev oX:Nat:=271
def nh:AF:=⟨1,4,[.tmp 2],(.seq (.ops [.i (.mov 2 (qi 0))]) (.seq (.seq (.ops [qm 4 0, .i (.bin 5 .lss (.s 4) (qi 2))]) (.cond (.s 5) (.seq (.ops [.i (.mov 2 (qi 0))]) .ret) .skip)) (.seq (.ops [.i (.mov 3 (qi 1))]) (.seq (.block 0 (.loop [12,11,10,9,8,7,6] (.seq (.seq (.ops [qm 6 3,qm 7 0,qm 8 3,qd 9 .sub 7 8,qd 10 .lss 6 9]) (.cond (.s 10) .skip (.exit 0))) (.block 1 (.ops [qm 11 3, .i (.bin 12 .mul (qi 2) (.s 11)),qm 3 12]))))) (.seq (.ops [qm 13 3,qm 2 13]) .ret)))))⟩
theorem yW:cd oX=some nh:=by kernel_rfl
theorem lX (n:Nat) (hn:n≤1073741824):VC cd oX (aJ [(false,[.int .i64 (n:Int)])]) (fun rs _=>rs=it (splitAt n)):=by
 refine aa yW rfl ?_
 simp(disch:=omega) [nh,VY]
 refine ab (fun h1=> ?_) (fun h1=> ?_)
 ·have h2:n < 2:=by omega
  simp(disch:=omega) [splitAt,h2,VY]
 ·have h2:¬n < 2:=by omega
  simp(disch:=omega) [VY]
  refine aO (σ:=Nat) (f1:=_) (es0:=_) (by simp(disch:=omega) [VY];rfl) (by simp(disch:=omega) [VY];rfl) (fun k=> [(3, .val false [.int .i64 k])]) (fun _=> []) (fun k g=>g+k=n∧0 < k∧KZ n k=splitAt n) 1 (n - 1) (by simp(disch:=omega) [VY]) (by simp(disch:=omega) [VY]) ⟨by omega,by omega,by rw[splitAt,if_neg h2]⟩ ?_
  rintro k v g ⟨hg,h0,hk⟩
  simp(disch:=omega) [VY]
  refine ab (fun h3=> ?_) (fun h3=> ?_)
  ·simp(disch:=omega) [VY]
   exact⟨2 * k,n - 2 * k,by omega,⟨by omega,by omega,by rw[←hk];conv=>rhs;rw[KZ,dif_pos ⟨h0,by omega⟩]⟩,by omega⟩
  ·simp(disch:=omega) [VY]
   rw[KZ,dif_neg (by omega)]at hk
   rw[hk]
theorem OX (n:Nat):∀(g k:Nat),g=n - k→0 < k→k < n→k≤KZ n k∧KZ n k < n:=by
 intro g
 induction g using Nat.strongRecOn with
 |ind g ih=>
 intro k hg h0 hk
 rw[KZ]
 split
 ·rename_i h
  have:=ih (n - 2 * k) (by omega) (2 * k) rfl (by omega) (by omega)
  omega
 ·omega
theorem eD {n:Nat} (h:2≤n):0 < splitAt n∧splitAt n < n:=by
 rw[splitAt,if_neg (by omega)]
 have:=OX n _ 1 rfl (by omega) (by omega)
 omega
def bd (l:List Bytes):Bytes:=match l with
 | []=>Hx []
 | [x]=>Hx (0::x)
 |a::b::r=>Hx (1::bd ((a::b::r).take (splitAt (a::b::r).length))++bd ((a::b::r).drop (splitAt (a::b::r).length)))
termination_by l.length
decreasing_by
 all_goals
  have:=eD (n:=(a::b::r).length) (by simp)
  simp only[List.length_take,List.length_drop,List.length_cons]at *
  omega
theorem Du (b:Bytes):(Hx b).length=32:=by
 have h:=Dw (hs b ((pad b).length / 64)) 8 (by rw[vB];omega)
 rw[List.take_of_length_le (by rw[vB];omega)]at h
 exact h
theorem tw:bd []=Hx []:=by rw[bd]
theorem tS {l:List Bytes} (h:l.length=1):bd l=Hx (0::l[0]):=by
 match l,h with
 | [x],_=>rw[bd];rfl
theorem pY {l:List Bytes} (h:2≤l.length):bd l=Hx (1::bd (l.take (splitAt l.length))++bd (l.drop (splitAt l.length))):=by
 match l,h with
 |a::b::r,_=>rw[bd]
theorem gw (l:List Bytes):(bd l).length=32:=by
 match l with
 | []=>rw[bd];exact Du _
 | [x]=>rw[bd];exact Du _
 |a::b::r=>rw[bd];exact Du _
abbrev kS:Nat:=282
def kO:AF:=⟨1,5,[.tmp 2],(.seq (.ops [.i (.mov 2 (.c (.val false [.nils])))]) (.seq (.seq (.ops [qm 4 0,qn 5 4]) (.block 0 (.seq (.ops [.i (.bin 7 .eql (.s 5) (qi 0)),qm 6 7]) (.cond (.s 6) (.seq (.ops [.i (.call 9 311 false [(.c (.val false [.nils]))]),qm 2 8]) .ret) (.seq (.ops [.i (.bin 10 .eql (.s 5) (qi 1)),qm 9 10]) (.cond (.s 9) (.seq (.ops [qm 11 0, .i (.iad 12 (.s 11) (qi 0) 1), .i (.ldh 13 (.s 12) 1 false),qk 15 312 13,qm 2 14]) .ret) .skip)))))) (.seq (.ops [qm 15 0,qn 16 15,qk 18 313 16,qm 3 17]) (.seq (.ops [qm 18 0,qm 19 3, .i (.eV 20 1 (.s 18) none (some (.s 19))),qk 22 282 20,qm 22 0,qm 23 3, .i (.eV 24 1 (.s 22) (some (.s 23)) none),qk 26 282 24, .i (.call 27 314 false [(.s 21),(.s 25)]),qm 2 26]) .ret))))⟩
theorem wK:cd kS=some kO:=by kernel_rfl
theorem vv:∀(n:Nat) (l:List Bytes),l.length=n→l.length≤1073741824→(∀x∈l,x.length≤1073741823)→VC cd kS (aJ [(false,[.sl (cS l)])]) (fun rs _=>rs= [(false,[.o true (some (5,1)) (bytes (bd l))])]):=by
 intro n
 induction n using Nat.strongRecOn with
 |ind n ih=>
 intro l hn hl hx
 refine aa wK rfl ?_
 simp(disch:=omega) [kO,aw,VY]
 refine ab (fun h1=> ?_) (fun h1=> ?_)
 ·have h2:l= []:=h1
  subst h2
  simp(disch:=omega) [VY]
  refine ah (pb [] (by simp)) rfl rfl ?_
  simp(disch:=omega) [tw,VY]
 ·have h0:0 < l.length:=List.length_pos_iff.2 h1
  simp(disch:=omega) [aw,VY]
  refine ab (fun h2=> ?_) (fun h2=> ?_)
  ·have h3:0 < l.length:=by omega
   simp(disch:=omega) [cT h3,aw,VY]
   refine ah (vu l[0] (hx _ (List.getElem_mem h3))) rfl rfl ?_
   simp(disch:=omega) [VY]
   rw[tS (by omega)]
  ·have h3:2≤l.length:=by omega
   obtain⟨k1,k2⟩:=eD h3
   simp(disch:=omega) [aw,VY]
   refine ah (kY l.length (by omega)) rfl rfl ?_
   have t1:(cS l).take (splitAt l.length)=cS (l.take (splitAt l.length)):=by simp[cS]
   have t2:(cS l).drop (splitAt l.length)=cS (l.drop (splitAt l.length)):=by simp[cS]
   have t3:((splitAt l.length:Nat):Int)≤(l.length:Int):=by omega
   have t4:splitAt l.length≤l.length:=by omega
   have t5:((l.length:Int) - (splitAt l.length:Int)).toNat=l.length - splitAt l.length:=by omega
   have t6:(cS (l.drop (splitAt l.length))).take (l.length - splitAt l.length)=cS (l.drop (splitAt l.length)):=List.take_of_length_le (by rw[aw];simp)
   simp(disch:=omega) [aw,xG,t1,t2,t3,t4,t5,t6,VY]
   refine ah (ih (splitAt l.length) (by omega) (l.take (splitAt l.length)) (by simp;omega) (by simp;omega) (fun x h=>hx x (List.mem_of_mem_take h))) rfl rfl ?_
   simp(disch:=omega) [aw,xG,t1,t2,t3,t4,t5,t6,VY]
   refine ah (ih (l.length - splitAt l.length) (by omega) (l.drop (splitAt l.length)) (by simp) (by simp;omega) (fun x h=>hx x (List.mem_of_mem_drop h))) rfl rfl ?_
   simp(disch:=omega) [VY]
   refine ah (vD (bd (l.take (splitAt l.length))) (bd (l.drop (splitAt l.length))) (by rw[gw];omega) (by rw[gw];omega)) rfl rfl ?_
   simp(disch:=omega) [VY]
   rw[pY h3]
   rfl
abbrev lS:Nat:=191
def lO:AF:=⟨1,5,[.tmp 2],(.seq (.ops [.i (.mov 2 (.c (.val false [.nils])))]) (.seq (.seq (.ops [qm 4 0,qn 5 4, .i (.bin 6 .eql (.s 5) (qi 0))]) (.cond (.s 6) (.seq (.ops [.i (.call 8 269 false [(.c (.val false [.nils]))]),qm 2 7]) .ret) .skip)) (.seq (.seq (.ops [qm 8 0,qn 9 8, .i (.bin 10 .eql (.s 9) (qi 1))]) (.cond (.s 10) (.seq (.ops [qm 11 0, .i (.iad 12 (.s 11) (qi 0) 1), .i (.ldh 13 (.s 12) 1 false),qk 15 270 13,qm 2 14]) .ret) .skip)) (.seq (.ops [qm 15 0,qn 16 15,qk 18 271 16,qm 3 17]) (.seq (.ops [qm 18 0,qm 19 3, .i (.eV 20 1 (.s 18) none (some (.s 19))),qk 22 191 20,qm 22 0,qm 23 3, .i (.eV 24 1 (.s 22) (some (.s 23)) none),qk 26 191 24, .i (.call 27 272 false [(.s 21),(.s 25)]),qm 2 26]) .ret)))))⟩
theorem wA:cd lS=some lO:=by kernel_rfl
theorem uI:∀(n:Nat) (l:List Bytes),l.length=n→l.length≤1073741824→(∀x∈l,x.length≤1073741823)→VC cd lS (aJ [(false,[.sl (cS l)])]) (fun rs _=>rs= [(false,[.o true (some (5,1)) (bytes (bd l))])]):=by
 intro n
 induction n using Nat.strongRecOn with
 |ind n ih=>
 intro l hn hl hx
 refine aa wA rfl ?_
 simp(disch:=omega) [lO,aw,VY]
 refine ab (fun h1=> ?_) (fun h1=> ?_)
 ·have h2:l= []:=h1
  subst h2
  simp(disch:=omega) [VY]
  refine ah (nf [] (by simp)) rfl rfl ?_
  simp(disch:=omega) [tw,VY]
 ·have h0:0 < l.length:=List.length_pos_iff.2 h1
  simp(disch:=omega) [aw,VY]
  refine ab (fun h2=> ?_) (fun h2=> ?_)
  ·have h3:0 < l.length:=by omega
   simp(disch:=omega) [cT h3,aw,VY]
   refine ah (vf l[0] (hx _ (List.getElem_mem h3))) rfl rfl ?_
   simp(disch:=omega) [VY]
   rw[tS (by omega)]
  ·have h3:2≤l.length:=by omega
   obtain⟨k1,k2⟩:=eD h3
   simp(disch:=omega) [aw,VY]
   refine ah (lX l.length (by omega)) rfl rfl ?_
   have t1:(cS l).take (splitAt l.length)=cS (l.take (splitAt l.length)):=by simp[cS]
   have t2:(cS l).drop (splitAt l.length)=cS (l.drop (splitAt l.length)):=by simp[cS]
   have t3:((splitAt l.length:Nat):Int)≤(l.length:Int):=by omega
   have t4:splitAt l.length≤l.length:=by omega
   have t5:((l.length:Int) - (splitAt l.length:Int)).toNat=l.length - splitAt l.length:=by omega
   have t6:(cS (l.drop (splitAt l.length))).take (l.length - splitAt l.length)=cS (l.drop (splitAt l.length)):=List.take_of_length_le (by rw[aw];simp)
   simp(disch:=omega) [aw,xG,t1,t2,t3,t4,t5,t6,VY]
   refine ah (ih (splitAt l.length) (by omega) (l.take (splitAt l.length)) (by simp;omega) (by simp;omega) (fun x h=>hx x (List.mem_of_mem_take h))) rfl rfl ?_
   simp(disch:=omega) [aw,xG,t1,t2,t3,t4,t5,t6,VY]
   refine ah (ih (l.length - splitAt l.length) (by omega) (l.drop (splitAt l.length)) (by simp) (by simp;omega) (fun x h=>hx x (List.mem_of_mem_drop h))) rfl rfl ?_
   simp(disch:=omega) [VY]
   refine ah (vC (bd (l.take (splitAt l.length))) (bd (l.drop (splitAt l.length))) (by rw[gw];omega) (by rw[gw];omega)) rfl rfl ?_
   simp(disch:=omega) [VY]
   rw[pY h3]
   rfl
end Go.Eng.F
