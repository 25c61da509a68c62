import Derived.Test.YtlhapfligolmcaaGreatProg
import Derived.KernelRfl
import Derived.Test.YtlhapfligolmcaaGreatGe
import Derived.Test.YtlhapfligolmcaaGreatGf
set_option maxRecDepth 100000
set_option linter.unusedSimpArgs false
set_option linter.unusedVariables false
namespace Go.Eng.F
def qi (n:Int):X:= .c (.val false [.int .i64 n])
def qb (b:Bool):X:= .c (.val false [.bool b])
def qm (a b:Nat):IT:= .i (.mov a (.s b))
def qf (a b n:Nat):IT:= .i (.fad a (.s b) n)
def ql (a b c n:Nat) (g:Bool):IT:= .i (.ldl a b (.s c) n g)
def qs (a b c n:Nat):IT:= .i (.stl a (.s b) (.s c) n)
def qn (a b:Nat):IT:= .i (.len a false (.s b))
def qd (a:Nat) (o:B2) (b c:Nat):IT:= .i (.bin a o (.s b) (.s c))
def qk (a b c:Nat):IT:= .i (.call a b false [(.s c)])
def qz:List C:= [.int .i64 0, .int .i64 0, .int .i64 0, .nils, .nils, .int .i64 0, .int .i64 0, .nils, .nils, .nils]
theorem VY:type_of% (And.intro @VW (And.intro @qi.eq_1 (And.intro @qb.eq_1 (And.intro @qm.eq_1 (And.intro @qf.eq_1 (And.intro @ql.eq_1 (And.intro @qs.eq_1 (And.intro @qn.eq_1 (And.intro @qd.eq_1 (And.intro @qk.eq_1 @qz.eq_1)))))))))):=And.intro @VW (And.intro @qi.eq_1 (And.intro @qb.eq_1 (And.intro @qm.eq_1 (And.intro @qf.eq_1 (And.intro @ql.eq_1 (And.intro @qs.eq_1 (And.intro @qn.eq_1 (And.intro @qd.eq_1 (And.intro @qk.eq_1 @qz.eq_1)))))))))
theorem VZ:type_of% (And.intro @VY @VQ):=And.intro @VY @VQ
noncomputable abbrev cd:=code Proofs.Tryz.prog
def mn (l:List Bytes):List (List D):=l.map fun x=> [.sl (bytes x)]
theorem bJ (l:List Bytes):(mn l).length=l.length:=by simp[mn]
theorem fB {l:List Bytes} {i:Nat} (h:i < l.length):(mn l)[i]? =some [.sl (bytes l[i])]:=by simp[mn,h]
theorem gR {x:Bytes} {i:Nat} (h:i < x.length):(bytes x)[i]? =some [.int .u8 (x[i].toNat:Int)]:=by simp[bytes,h]
theorem aV {α:Type} {p:α→Prop} {l:List α} {i:Nat} (h:∀x∈l.take i,p x) (hi:i < l.length) (hx:p l[i]):∀x∈l.take (i+1),p x:=by
 intro x hm
 rw[List.take_add_one,List.getElem?_eq_getElem hi]at hm
 rcases List.mem_append.1 hm with hm|hm
 ·exact h x hm
 ·simp at hm;subst hm;exact hx
def ml (n lo hi:Int):Bool:=decide (lo≤n∧n≤hi)
abbrev mL:Nat:=62
def mX:AF:=⟨3,4,[.tmp 6],(.seq (.ops [.i (.mov 6 (qb false))]) (.seq (.ops [qm 7 1,qm 8 0,qd 9 .leq 7 8,qm 10 9, .g 10 true 12 (.mov 11 (.s 0)), .g 10 true 13 (.mov 12 (.s 2)), .g 10 true 14 (.bin 13 .leq (.s 11) (.s 12)), .i (.pick 14 (.s 10) (.s 13) (qb false)),qm 6 14]) .ret))⟩
theorem uu:cd mL=some mX:=by kernel_rfl
theorem bz (n lo hi:Int):VC cd mL (bf [(false,[.int .i64 n]),(false,[.int .i64 lo]),(false,[.int .i64 hi])]) (fun rs _=>rs=bl (ml n lo hi)):=by
 refine aa uu rfl ?_
 simp(disch:=omega) [mX,VY]
 refine ab (fun h1=> ?_) (fun h1=> ?_) <;>simp(disch:=omega) [h1,ml,VY]
abbrev nL:Nat:=152
def nJ:AF:=⟨3,4,[.tmp 6],(.seq (.ops [.i (.mov 6 (qb false))]) (.seq (.ops [qm 7 0,qm 8 1,qd 9 .geq 7 8,qm 10 9, .g 10 true 12 (.mov 11 (.s 0)), .g 10 true 13 (.mov 12 (.s 2)), .g 10 true 14 (.bin 13 .leq (.s 11) (.s 12)), .i (.pick 14 (.s 10) (.s 13) (qb false)),qm 6 14]) .ret))⟩
theorem wL:cd nL=some nJ:=by kernel_rfl
theorem cO (n lo hi:Int):VC cd nL (bf [(false,[.int .i64 n]),(false,[.int .i64 lo]),(false,[.int .i64 hi])]) (fun rs _=>rs=bl (ml n lo hi)):=by
 refine aa wL rfl ?_
 simp(disch:=omega) [nJ,VY]
 refine ab (fun h1=> ?_) (fun h1=> ?_) <;>simp(disch:=omega) [h1,ml,VY]
structure bA where
 n:Int
 tx:Int
 txs:Int
 frame:Int
 heads:Int
def bA.c (l:bA):List D:= [.int .i64 l.n, .int .i64 l.tx, .int .i64 l.txs, .int .i64 l.frame, .int .i64 l.heads]
def bA.ok (l:bA):Bool:=ml l.n 1 10 && ml l.tx 0 40 && ml l.txs 0 8 && ml l.frame 1 4000 && ml l.heads 3 5
abbrev iU:Nat:=134
def jK:AF:=⟨1,5,[.tmp 2],(.seq (.ops [.i (.lbox 1 (.s 0)), .i (.mov 2 (qb false))]) (.seq (.ops [qf 3 1 0,ql 4 1 3 1 false, .i (.call 6 62 false [(.s 4),(qi 1),(qi 10)]),qm 6 5, .g 6 true 8 (.fad 7 (.s 1) 1), .g 6 true 9 (.ldl 8 1 (.s 7) 1 false), .g 6 true 10 (.call 10 62 false [(.s 8),(qi 0),(qi 40)]), .i (.pick 10 (.s 6) (.s 9) (qb false)),qm 11 10, .g 11 true 13 (.fad 12 (.s 1) 2), .g 11 true 14 (.ldl 13 1 (.s 12) 1 false), .g 11 true 15 (.call 15 62 false [(.s 13),(qi 0),(qi 8)]), .i (.pick 15 (.s 11) (.s 14) (qb false)),qm 16 15, .g 16 true 18 (.fad 17 (.s 1) 3), .g 16 true 19 (.ldl 18 1 (.s 17) 1 false), .g 16 true 20 (.call 20 62 false [(.s 18),(qi 1),(qi 4000)]), .i (.pick 20 (.s 16) (.s 19) (qb false)),qm 21 20, .g 21 true 23 (.fad 22 (.s 1) 4), .g 21 true 24 (.ldl 23 1 (.s 22) 1 false), .g 21 true 25 (.call 25 62 false [(.s 23),(qi 3),(qi 5)]), .i (.pick 25 (.s 21) (.s 24) (qb false)),qm 2 25]) .ret))⟩
theorem qS:cd iU=some jK:=by kernel_rfl
theorem ek (l:bA):VC cd iU (bf [(true,l.c)]) (fun rs _=>rs=bl l.ok):=by
 refine aa qS rfl ?_
 simp(disch:=omega) [jK,bA.c,VY]
 refine aj (bz _ _ _) rfl rfl ?_
 simp(disch:=omega) [VY]
 refine av (fun h1=> ?_) (fun h1=> ?_) <;>simp(disch:=omega) [h1,bA.ok,VY]
 refine aj (bz _ _ _) rfl rfl ?_
 simp(disch:=omega) [h1,VY]
 refine av (fun h2=> ?_) (fun h2=> ?_) <;>simp(disch:=omega) [h1,h2,VY]
 refine aj (bz _ _ _) rfl rfl ?_
 simp(disch:=omega) [h1,h2,VY]
 refine av (fun h3=> ?_) (fun h3=> ?_) <;>simp(disch:=omega) [h1,h2,h3,VY]
 refine aj (bz _ _ _) rfl rfl ?_
 simp(disch:=omega) [h1,h2,h3,VY]
 refine av (fun h4=> ?_) (fun h4=> ?_) <;>simp(disch:=omega) [h1,h2,h3,h4,VY]
 refine aj (bz _ _ _) rfl rfl ?_
 simp(disch:=omega) [h1,h2,h3,h4,VY]
abbrev fR:Nat:=199
def fM:AF:=⟨1,3,[.tmp 2],(.seq (.ops [.i (.mov 2 (qb false))]) (.seq (.ops [qm 3 0, .i (.call 5 152 false [(.s 3),(qi 1),(qi 10)]),qm 2 4]) .ret))⟩
theorem oj:cd fR=some fM:=by kernel_rfl
theorem dJ (n:Int):VC cd fR (bf [(false,[.int .i64 n])]) (fun rs _=>rs=bl (ml n 1 10)):=by
 refine aa oj rfl ?_
 simp(disch:=omega) [fM,VY]
 refine aj (cO _ _ _) rfl rfl ?_
 simp(disch:=omega) [VY]
abbrev je:Nat:=142
def jH:AF:=⟨1,5,[.tmp 2],(.seq (.ops [.i (.lbox 1 (.s 0)), .i (.mov 2 (qb false))]) (.seq (.ops [qf 3 1 0,ql 4 1 3 1 false,qk 6 199 4,qm 6 5, .g 6 true 8 (.fad 7 (.s 1) 1), .g 6 true 9 (.ldl 8 1 (.s 7) 1 false), .g 6 true 10 (.call 10 152 false [(.s 8),(qi 0),(qi 40)]), .i (.pick 10 (.s 6) (.s 9) (qb false)),qm 11 10, .g 11 true 13 (.fad 12 (.s 1) 2), .g 11 true 14 (.ldl 13 1 (.s 12) 1 false), .g 11 true 15 (.call 15 152 false [(.s 13),(qi 0),(qi 8)]), .i (.pick 15 (.s 11) (.s 14) (qb false)),qm 16 15, .g 16 true 18 (.fad 17 (.s 1) 3), .g 16 true 19 (.ldl 18 1 (.s 17) 1 false), .g 16 true 20 (.call 20 152 false [(.s 18),(qi 1),(qi 4000)]), .i (.pick 20 (.s 16) (.s 19) (qb false)),qm 21 20, .g 21 true 23 (.fad 22 (.s 1) 4), .g 21 true 24 (.ldl 23 1 (.s 22) 1 false), .g 21 true 25 (.call 25 152 false [(.s 23),(qi 3),(qi 5)]), .i (.pick 25 (.s 21) (.s 24) (qb false)),qm 2 25]) .ret))⟩
theorem rB:cd je=some jH:=by kernel_rfl
theorem dm (l:bA):VC cd je (bf [(true,l.c)]) (fun rs _=>rs=bl l.ok):=by
 refine aa rB rfl ?_
 simp(disch:=omega) [jH,bA.c,VY]
 refine aj (dJ _) rfl rfl ?_
 simp(disch:=omega) [VY]
 refine av (fun h1=> ?_) (fun h1=> ?_) <;>simp(disch:=omega) [h1,bA.ok,VY]
 refine aj (cO _ _ _) rfl rfl ?_
 simp(disch:=omega) [h1,VY]
 refine av (fun h2=> ?_) (fun h2=> ?_) <;>simp(disch:=omega) [h1,h2,VY]
 refine aj (cO _ _ _) rfl rfl ?_
 simp(disch:=omega) [h1,h2,VY]
 refine av (fun h3=> ?_) (fun h3=> ?_) <;>simp(disch:=omega) [h1,h2,h3,VY]
 refine aj (cO _ _ _) rfl rfl ?_
 simp(disch:=omega) [h1,h2,h3,VY]
 refine av (fun h4=> ?_) (fun h4=> ?_) <;>simp(disch:=omega) [h1,h2,h3,h4,VY]
 refine aj (cO _ _ _) rfl rfl ?_
 simp(disch:=omega) [h1,h2,h3,h4,VY]
def isNum (n:Int):Bool:=ml n 0 1152921504606846975
abbrev oh:Nat:=213
def nM:AF:=⟨1,3,[.tmp 2],(.seq (.ops [.i (.mov 2 (qb false))]) (.seq (.ops [qm 3 0, .i (.call 5 62 false [(.s 3),(qi 0),(qi 1152921504606846975)]),qm 2 4]) .ret))⟩
theorem we:cd oh=some nM:=by kernel_rfl
theorem oP (n:Int):VC cd oh (bf [(false,[.int .i64 n])]) (fun rs _=>rs=bl (isNum n)):=by
 refine aa we rfl ?_
 simp(disch:=omega) [nM,VY]
 refine aj (bz _ _ _) rfl rfl ?_
 simp(disch:=omega) [isNum,VY]
abbrev mZ:Nat:=201
def mO:AF:=⟨1,3,[.tmp 2],(.seq (.ops [.i (.mov 2 (qb false))]) (.seq (.ops [qm 3 0, .i (.call 5 152 false [(.s 3),(qi 0),(qi 1152921504606846975)]),qm 2 4]) .ret))⟩
theorem uW:cd mZ=some mO:=by kernel_rfl
theorem eX (n:Int):VC cd mZ (bf [(false,[.int .i64 n])]) (fun rs _=>rs=bl (isNum n)):=by
 refine aa uW rfl ?_
 simp(disch:=omega) [mO,VY]
 refine aj (cO _ _ _) rfl rfl ?_
 simp(disch:=omega) [isNum,VY]
def hash (x:Bytes):Bool:=x.length==32
def hashes (l:List Bytes):Bool:=l.all hash
theorem ve {l:List Bytes} (h:∀x∈l.take l.length,hash x=true):hashes l=true:=by
 rw[List.take_length]at h
 simpa[hashes]using h
theorem vN {l:List Bytes} {i:Nat} (hi:i < l.length) (h:hash l[i]=false):hashes l=false:=by
 simp only[hashes,List.all_eq_false]
 exact⟨l[i],List.getElem_mem hi,by simp[h]⟩
abbrev hC:Nat:=214
def gB:AF:=⟨1,4,[.tmp 2],(.seq (.ops [.i (.mov 2 (qb false))]) (.seq (.seq (.ops [qm 5 0,qn 6 5, .i (.mov 7 (qi 0))]) (.block 0 (.loop [14,13,12,11,10,9,8,4] (.seq (.ops [qd 8 .lss 7 6]) (.seq (.cond (.s 8) .skip (.exit 0)) (.seq (.block 1 (.seq (.ops [.i (.iad 9 (.s 5) (.s 7) 1), .i (.ldh 10 (.s 9) 1 false),qm 4 10]) (.seq (.ops [qm 11 4,qn 12 11, .i (.bin 13 .neq (.s 12) (qi 32))]) (.cond (.s 13) (.seq (.ops [.i (.mov 2 (qb false))]) .ret) .skip)))) (.ops [.i (.bin 14 .add (.s 7) (qi 1)),qm 7 14]))))))) (.seq (.ops [.i (.mov 2 (qb true))]) .ret)))⟩
theorem pO:cd hC=some gB:=by kernel_rfl
theorem eU (l:List Bytes) (hl:l.length≤1099511627776):VC cd hC (bf [(false,[.sl (mn l)])]) (fun rs _=>rs=bl (hashes l)):=by
 refine aa pO rfl ?_
 simp(disch:=omega) [gB,bJ,VY]
 refine gT (σ:=Nat) (f1:=_) (by simp(disch:=omega) [VY];rfl) (fun i=> [(7, .val false [.int .i64 i])]) (fun _=> []) (fun i g=>g+i=l.length∧∀x∈l.take i,hash x=true) 0 l.length (by simp(disch:=omega) [VY]) trivial ⟨by omega,by simp⟩ ?_
 rintro i n g ⟨hg,hi⟩
 simp(disch:=omega) [bJ,VY]
 refine ab (fun h1=> ?_) (fun h1=> ?_)
 ·simp(disch:=omega) [fB h1,VY]
  refine ab (fun h2=> ?_) (fun h2=> ?_)
  ·simp(disch:=omega) [VY]
   exact⟨i+1,g - 1,by omega,⟨by omega,aV hi h1 (by simp[hash];omega)⟩,by simp⟩
  ·simp(disch:=omega) [VY]
   exact vN h1 (by simp[hash];omega)
 ·simp(disch:=omega) [VY]
  have:i=l.length:=by omega
  subst this
  exact ve hi
abbrev jX:Nat:=202
def lg:AF:=⟨1,3,[.tmp 2],(.seq (.ops [.i (.mov 2 (qb false))]) (.seq (.ops [qm 3 0,qn 4 3, .i (.bin 5 .eql (.s 4) (qi 32)),qm 2 5]) .ret))⟩
theorem uh:cd jX=some lg:=by kernel_rfl
theorem eY (x:Bytes):VC cd jX (bf [(false,[.sl (bytes x)])]) (fun rs _=>rs=bl (hash x)):=by
 refine aa uh rfl ?_
 simp(disch:=omega) [lg,hash,VY]
 rw[Bool.eq_iff_iff]
 simp only[decide_eq_true_eq,beq_iff_eq]
 omega
abbrev iA:Nat:=256
def hZ:AF:=⟨1,4,[.tmp 2],(.seq (.ops [.i (.mov 2 (qb false))]) (.seq (.seq (.ops [qm 5 0,qn 6 5, .i (.mov 7 (qi 0))]) (.block 0 (.loop [14,13,12,11,10,9,8,4] (.seq (.ops [qd 8 .lss 7 6]) (.seq (.cond (.s 8) .skip (.exit 0)) (.seq (.block 1 (.seq (.ops [.i (.iad 9 (.s 5) (.s 7) 1), .i (.ldh 10 (.s 9) 1 false),qm 4 10]) (.seq (.ops [qm 11 4,qk 13 202 11, .i (.not 13 (.s 12))]) (.cond (.s 13) (.seq (.ops [.i (.mov 2 (qb false))]) .ret) .skip)))) (.ops [.i (.bin 14 .add (.s 7) (qi 1)),qm 7 14]))))))) (.seq (.ops [.i (.mov 2 (qb true))]) .ret)))⟩
theorem pT:cd iA=some hZ:=by kernel_rfl
theorem xd (l:List Bytes) (hl:l.length≤1099511627776):VC cd iA (bf [(false,[.sl (mn l)])]) (fun rs _=>rs=bl (hashes l)):=by
 refine aa pT rfl ?_
 simp(disch:=omega) [hZ,bJ,VY]
 refine gT (σ:=Nat) (f1:=_) (by simp(disch:=omega) [VY];rfl) (fun i=> [(7, .val false [.int .i64 i])]) (fun _=> []) (fun i g=>g+i=l.length∧∀x∈l.take i,hash x=true) 0 l.length (by simp(disch:=omega) [VY]) trivial ⟨by omega,by simp⟩ ?_
 rintro i n g ⟨hg,hi⟩
 simp(disch:=omega) [bJ,VY]
 refine ab (fun h1=> ?_) (fun h1=> ?_)
 ·simp(disch:=omega) [fB h1,VY]
  refine aj (eY _) rfl rfl ?_
  simp(disch:=omega) [VY]
  refine av (fun h2=> ?_) (fun h2=> ?_)
  ·simp(disch:=omega) [VY]
   exact⟨i+1,g - 1,by omega,⟨by omega,aV hi h1 h2⟩,by simp⟩
  ·simp(disch:=omega) [VY]
   exact vN h1 h2
 ·simp(disch:=omega) [VY]
  have:i=l.length:=by omega
  subst this
  exact ve hi
def D9 (n:Int):Int:=if n < 1 then 0 else(n - 1) / 8+1
abbrev jN:Nat:=63
def jJ:AF:=⟨1,4,[.tmp 2],(.seq (.ops [.i (.mov 2 (qi 0))]) (.seq (.seq (.ops [qm 3 0, .i (.bin 4 .lss (.s 3) (qi 1))]) (.cond (.s 4) (.seq (.ops [.i (.mov 2 (qi 0))]) .ret) .skip)) (.seq (.ops [qm 5 0, .i (.bin 6 .sub (.s 5) (qi 1)), .i (.bin 7 .quo (.s 6) (qi 8)), .i (.bin 8 .add (.s 7) (qi 1)),qm 2 8]) .ret)))⟩
theorem rq:cd jN=some jJ:=by kernel_rfl
theorem pk (n:Int) (h1: -9223372036854775808≤n) (h2:n < 9223372036854775808):VC cd jN (bf [(false,[.int .i64 n])]) (fun rs _=>rs=it (D9 n)):=by
 refine aa rq rfl ?_
 simp(disch:=omega) [jJ,VY]
 refine ab (fun h3=> ?_) (fun h3=> ?_)
 ·simp(disch:=omega) [D9,h3,VY]
 ·have e:(n - 1).tdiv 8=(n - 1) / 8:=Int.tdiv_eq_ediv_of_nonneg (by omega)
  simp(disch:=omega) [D9,e,VY]
  omega
abbrev jr:Nat:=124
def js:AF:=⟨1,4,[.tmp 2],(.seq (.ops [.i (.mov 2 (qi 0))]) (.seq (.seq (.ops [qm 3 0, .i (.bin 4 .lss (.s 3) (qi 1))]) (.cond (.s 4) (.seq (.ops [.i (.mov 2 (qi 0))]) .ret) .skip)) (.seq (.ops [qm 5 0, .i (.bin 6 .sub (.s 5) (qi 1)), .i (.bin 7 .quo (.s 6) (qi 8)), .i (.bin 8 .add (.s 7) (qi 1)),qm 2 8]) .ret)))⟩
theorem qR:cd jr=some js:=by kernel_rfl
theorem pP (n:Int) (h1: -9223372036854775808≤n) (h2:n < 9223372036854775808):VC cd jr (bf [(false,[.int .i64 n])]) (fun rs _=>rs=it (D9 n)):=by
 refine aa qR rfl ?_
 simp(disch:=omega) [js,VY]
 refine ab (fun h3=> ?_) (fun h3=> ?_)
 ·simp(disch:=omega) [D9,h3,VY]
 ·have e:(n - 1).tdiv 8=(n - 1) / 8:=Int.tdiv_eq_ediv_of_nonneg (by omega)
  simp(disch:=omega) [D9,e,VY]
  omega
def bx (b:Bytes) (i:Nat):Bool:=match b[i / 8]? with|some x=>x.toNat.testBit (i % 8)|none=>false
theorem Cs:∀x < 256,∀s < 8,decide (aF .and .u8 (Int.fdiv (x:Nat) (2 ^ (min s 8))) 1=1)=Nat.testBit x s:=by decide+kernel
theorem Du:∀x < 256,∀s < 8,decide (Int.tmod (Int.fdiv (x:Nat) (2 ^ (min s 64))) 2=1)=Nat.testBit x s:=by decide+kernel
theorem DP (i:Nat):Int.tdiv (i:Int) 8=((i / 8:Nat):Int):=by rw[Int.tdiv_eq_ediv_of_nonneg (by omega)];omega
theorem Gg (i:Nat):Int.tmod (i:Int) 8=((i % 8:Nat):Int):=by rw[Int.tmod_eq_emod_of_nonneg (by omega)];omega
theorem yy (x:UInt8):x.toNat < 256:=x.toNat_lt
theorem pg {b:Bytes} {i:Nat} (h:i / 8 < b.length):bx b i=b[i / 8].toNat.testBit (i % 8):=by simp[bx,h]
theorem sE {b:Bytes} {i:Nat} (h:¬i / 8 < b.length):bx b i=false:=by
 unfold bx
 rw[List.getElem?_eq_none (by omega)]
theorem Il (i:Nat):(0:Int)≤(i:Int) / 8∧((i:Int) / 8).toNat=i / 8∧¬(i:Int) % 8 < 0∧((i:Int) % 8).toNat=i % 8:=by omega
abbrev j5:Nat:=210
def j1:AF:=⟨2,5,[.tmp 4],(.seq (.ops [.i (.mov 4 (qb false))]) (.seq (.ops [qm 5 1,qm 6 0,qn 7 6, .i (.bin 8 .mul (qi 8) (.s 7)), .i (.bin 9 .sub (.s 8) (qi 1)), .i (.call 11 62 false [(.s 5),(qi 0),(.s 9)]),qm 11 10, .g 11 true 13 (.mov 12 (.s 0)), .g 11 true 14 (.mov 13 (.s 1)), .g 11 true 15 (.bin 14 .quo (.s 13) (qi 8)), .g 11 true 16 (.iad 15 (.s 12) (.s 14) 1), .g 11 true 17 (.ldh 16 (.s 15) 1 false), .g 11 true 18 (.mov 17 (.s 1)), .g 11 true 19 (.bin 18 .rem (.s 17) (qi 8)), .g 11 true 20 (.bin 19 .shr (.s 16) (.s 18)), .g 11 true 21 (.bin 20 .and (.s 19) (.c (.val false [.int .u8 1]))), .g 11 true 22 (.bin 21 .eql (.s 20) (.c (.val false [.int .u8 1]))), .i (.pick 22 (.s 11) (.s 21) (qb false)),qm 4 22]) .ret))⟩
theorem s7:cd j5=some j1:=by kernel_rfl
theorem qM (b:Bytes) (i:Nat) (hb:b.length≤1099511627776) (hi:i≤1099511627776):VC cd j5 (bf [(false,[.sl (bytes b)]),(false,[.int .i64 i])]) (fun rs _=>rs=bl (bx b i)):=by
 refine aa s7 rfl ?_
 simp(disch:=omega) [j1,VY]
 refine aj (bz _ _ _) rfl rfl ?_
 simp(disch:=omega) [VY]
 refine av (fun h1=> ?_) (fun h1=> ?_)
 ·have hx:i / 8 < b.length:=by simp[ml]at h1;omega
  have e:=Cs b[i / 8].toNat (yy _) (i % 8) (Nat.mod_lt _ (by omega))
  rw[pg hx,←e]
  simp(disch:=omega) [h1,DP,Gg,gR hx,Il i,IntKind.bits,VY]
 ·simp(disch:=omega) [h1,VY]
  refine sE ?_
  simp[ml]at h1
  omega
abbrev jR:Nat:=260
def j0:AF:=⟨2,5,[.tmp 4],(.seq (.ops [.i (.mov 4 (qb false))]) (.seq (.ops [qm 5 1, .i (.bin 6 .geq (.s 5) (qi 0)),qm 7 6, .g 7 true 9 (.mov 8 (.s 1)), .g 7 true 10 (.bin 9 .quo (.s 8) (qi 8)), .g 7 true 11 (.mov 10 (.s 0)), .g 7 true 12 (.len 11 false (.s 10)), .g 7 true 13 (.bin 12 .lss (.s 9) (.s 11)), .i (.pick 13 (.s 7) (.s 12) (qb false)),qm 14 13, .g 14 true 16 (.mov 15 (.s 0)), .g 14 true 17 (.mov 16 (.s 1)), .g 14 true 18 (.bin 17 .quo (.s 16) (qi 8)), .g 14 true 19 (.iad 18 (.s 15) (.s 17) 1), .g 14 true 20 (.ldh 19 (.s 18) 1 false), .g 14 true 21 (.cvi 20 .i64 (.s 19)), .g 14 true 22 (.mov 21 (.s 1)), .g 14 true 23 (.bin 22 .rem (.s 21) (qi 8)), .g 14 true 24 (.bin 23 .shr (.s 20) (.s 22)), .g 14 true 25 (.bin 24 .rem (.s 23) (qi 2)), .g 14 true 26 (.bin 25 .eql (.s 24) (qi 1)), .i (.pick 26 (.s 14) (.s 25) (qb false)),qm 4 26]) .ret))⟩
theorem ta:cd jR=some j0:=by kernel_rfl
theorem iV (b:Bytes) (i:Nat) (hb:b.length≤1099511627776) (hi:i≤1099511627776):VC cd jR (bf [(false,[.sl (bytes b)]),(false,[.int .i64 i])]) (fun rs _=>rs=bl (bx b i)):=by
 refine aa ta rfl ?_
 simp(disch:=omega) [j0,DP,VY]
 refine ab (fun h1=> ?_) (fun h1=> ?_)
 ·have hx:i / 8 < b.length:=by omega
  have e:=Du b[i / 8].toNat (yy _) (i % 8) (Nat.mod_lt _ (by omega))
  have hw:IntKind.i64.wrap (b[i / 8].toNat:Int)=b[i / 8].toNat:=aB (by omega) (by have:=yy b[i / 8];omega)
  rw[pg hx,←e]
  simp(disch:=omega) [h1,DP,Gg,gR hx,Il i,hw,IntKind.bits,VY]
 ·simp(disch:=omega) [h1,VY]
  exact sE (by omega)
def aq (b:Bytes):List Nat:=(List.range (8 * b.length)).filter (bx b)
def kg (l:List Nat):List (List D):=l.map fun(n:Nat)=> [.int .i64 (n:Int)]
theorem dT (l:List Nat):(kg l).length=l.length:=by simp[kg]
theorem vc (l:List Nat):flat (kg l)=true:=by
 induction l with
 |nil=>rfl
 |cons n l ih=>simp only[kg,List.map_cons,flat,bH,D.leaf]at ih⊢;simpa using ih
theorem xx (l:List Nat):wid 1 (kg l)=true:=by
 induction l with
 |nil=>rfl
 |cons n l ih=>simp only[kg,List.map_cons,wid]at ih⊢;simpa using ih
theorem vA (l:List Nat) (n:Nat):kg l++ [[.int .i64 (n:Int)]]=kg (l++ [n]):=by simp[kg]
theorem kC {l:List Nat} {i:Nat} (h:i < l.length):(kg l)[i]? =some [.int .i64 (l[i]:Int)]:=by simp[kg,h]
theorem fJ (p:Nat→Bool) (i:Nat):(List.range (i+1)).filter p=(List.range i).filter p++(if p i=true then [i]else []):=by
 rw[List.range_succ,List.filter_append]
 congr 1
 cases h:p i <;>simp[h]
theorem filter_le (p:Nat→Bool) (i:Nat):((List.range i).filter p).length≤i:=by
 have:=List.length_filter_le p (List.range i)
 simpa using this
abbrev iR:Nat:=126
def jd:AF:=⟨1,5,[.tmp 2],(.seq (.ops [.i (.mov 2 (.c (.val false [.nils])))]) (.seq (.ops [.i (.bse 5),qm 3 5]) (.seq (.seq (.ops [qm 6 0,qn 7 6, .i (.bin 8 .mul (qi 8) (.s 7)), .i (.mov 9 (qi 0))]) (.block 0 (.loop [19,18,17,16,15,14,13,12,11,10,4] (.seq (.ops [qd 10 .lss 9 8]) (.seq (.cond (.s 10) .skip (.exit 0)) (.seq (.block 1 (.seq (.ops [qm 11 9,qm 4 11]) (.seq (.ops [qm 12 0,qm 13 4, .i (.call 15 210 false [(.s 12),(.s 13)])]) (.cond (.s 14) (.ops [qm 15 3,qm 16 4, .i (.lsl 17 1 1 [.int .i64 0] [(0,1,(.s 16))]), .i (.app 18 3 1 8 (.s 15) (.s 17)),qm 3 18]) .skip)))) (.ops [.i (.bin 19 .add (.s 9) (qi 1)),qm 9 19]))))))) (.seq (.ops [qm 20 3,qm 2 20]) .ret))))⟩
theorem qT:cd iR=some jd:=by kernel_rfl
theorem eh (b:Bytes) (hb:b.length≤1073741824):VC cd iR (bf [(false,[.sl (bytes b)])]) (fun rs _=>rs= [(false,[.o true (some (3,1)) (kg (aq b))])]):=by
 refine aa qT rfl ?_
 simp(disch:=omega) [jd,VY]
 refine gT (σ:=Nat×Nat) (f1:=_) (by simp(disch:=omega) [VY];rfl) (fun p=> [(9, .val false [.int .i64 p.1]),(3, .val false [.ow 5 p.2])]) (fun p=> [(5, .sl p.2 true true (some (3,1)) (kg ((List.range p.1).filter (bx b))))])
  (fun p g=>g+p.1=8 * b.length) (0,1) (8 * b.length) (by simp(disch:=omega) [VY]) (by simp(disch:=omega) [kg,VY]) (by omega) ?_
 rintro⟨i,v⟩ n g hg
 simp only at hg
 simp(disch:=omega) [VY]
 refine ab (fun h1=> ?_) (fun h1=> ?_)
 ·simp(disch:=omega) [VY]
  refine aj (qM b i (by omega) (by omega)) rfl rfl ?_
  simp(disch:=omega) [VY]
  refine av (fun h2=> ?_) (fun h2=> ?_)
  ·have hl:=filter_le (bx b) i
   simp(disch:=omega) [dT,xx,vc,VY]
   exact⟨i+1,n+1,g - 1,by omega,by omega,⟨rfl,by omega⟩,rfl,by rw[fJ,h2,if_pos rfl,←vA]⟩
  ·simp(disch:=omega) [VY]
   exact⟨i+1,v,g - 1,by omega,by omega,⟨rfl,by omega⟩,rfl,by rw[fJ,h2];simp⟩
 ·simp(disch:=omega) [VY]
  have:i=8 * b.length:=by omega
  subst this
  rfl
abbrev ji:Nat:=207
def jv:AF:=⟨1,5,[.tmp 2],(.seq (.ops [.i (.mov 2 (.c (.val false [.nils])))]) (.seq (.ops [.i (.bse 5),qm 3 5]) (.seq (.seq (.ops [.i (.mov 4 (qi 0))]) (.block 0 (.loop [19,18,17,16,15,14,13,12,11,10,9,8,7,6] (.seq (.seq (.ops [qm 6 4,qm 7 0,qn 8 7, .i (.bin 9 .mul (qi 8) (.s 8)),qd 10 .lss 6 9]) (.cond (.s 10) .skip (.exit 0))) (.seq (.block 1 (.seq (.ops [qm 13 0,qm 14 4, .i (.call 16 260 false [(.s 13),(.s 14)])]) (.cond (.s 15) (.ops [qm 16 3,qm 17 4, .i (.lsl 18 1 1 [.int .i64 0] [(0,1,(.s 17))]), .i (.app 19 3 1 8 (.s 16) (.s 18)),qm 3 19]) .skip))) (.ops [qm 11 4, .i (.bin 12 .add (.s 11) (qi 1)),qm 4 12])))))) (.seq (.ops [qm 20 3,qm 2 20]) .ret))))⟩
theorem qW:cd ji=some jv:=by kernel_rfl
theorem el (b:Bytes) (hb:b.length≤1073741824):VC cd ji (bf [(false,[.sl (bytes b)])]) (fun rs _=>rs= [(false,[.o true (some (3,1)) (kg (aq b))])]):=by
 refine aa qW rfl ?_
 simp(disch:=omega) [jv,VY]
 refine gT (σ:=Nat×Nat) (f1:=_) (by simp(disch:=omega) [VY];rfl) (fun p=> [(4, .val false [.int .i64 p.1]),(3, .val false [.ow 5 p.2])]) (fun p=> [(5, .sl p.2 true true (some (3,1)) (kg ((List.range p.1).filter (bx b))))])
  (fun p g=>g+p.1=8 * b.length) (0,1) (8 * b.length) (by simp(disch:=omega) [VY]) (by simp(disch:=omega) [kg,VY]) (by omega) ?_
 rintro⟨i,v⟩ n g hg
 simp only at hg
 simp(disch:=omega) [VY]
 refine ab (fun h1=> ?_) (fun h1=> ?_)
 ·simp(disch:=omega) [VY]
  refine aj (iV b i (by omega) (by omega)) rfl rfl ?_
  simp(disch:=omega) [VY]
  refine av (fun h2=> ?_) (fun h2=> ?_)
  ·have hl:=filter_le (bx b) i
   simp(disch:=omega) [dT,xx,vc,VY]
   exact⟨i+1,n+1,g - 1,by omega,by omega,⟨by omega,rfl⟩,rfl,by rw[fJ,h2,if_pos rfl,←vA]⟩
  ·simp(disch:=omega) [VY]
   exact⟨i+1,v,g - 1,by omega,by omega,⟨by omega,rfl⟩,rfl,by rw[fJ,h2];simp⟩
 ·simp(disch:=omega) [VY]
  have:i=8 * b.length:=by omega
  subst this
  rfl
def du (l:List Nat) (n:Int):Bool:=l.all fun i=>decide ((i:Int) < n)
def cZ (b:Bytes) (n:Int):Bool:=ml n 1 10 && decide ((b.length:Int)=D9 n) && du (aq b) n
theorem cL (b:Bytes):(aq b).length≤8 * b.length:=filter_le _ _
theorem ie {n lo hi:Int} (h:ml n lo hi=true):lo≤n∧n≤hi:=by simpa[ml]using h
theorem Cc {l:List Nat} {n:Int} (h:∀x∈l.take l.length,(x:Int) < n):du l n=true:=by
 rw[List.take_length]at h
 simpa[du]using h
theorem Dm {l:List Nat} {n:Int} {i:Nat} (hi:i < l.length) (h:n≤(l[i]:Int)):du l n=false:=by
 simp only[du,List.all_eq_false]
 exact⟨l[i],List.getElem_mem hi,by simpa using h⟩
abbrev mB:Nat:=125
def mY:AF:=⟨2,5,[.tmp 4],(.seq (.ops [.i (.mov 4 (qb false))]) (.seq (.seq (.ops [qm 7 1, .i (.call 9 62 false [(.s 7),(qi 1),(qi 10)]), .i (.not 9 (.s 8)),qm 10 9, .g 10 false 12 (.mov 11 (.s 0)), .g 10 false 13 (.len 12 false (.s 11)), .g 10 false 14 (.mov 13 (.s 1)), .g 10 false 15 (.call 15 63 false [(.s 13)]), .g 10 false 16 (.bin 15 .neq (.s 12) (.s 14)), .i (.pick 16 (.s 10) (qb true) (.s 15))]) (.cond (.s 16) (.seq (.ops [.i (.mov 4 (qb false))]) .ret) .skip)) (.seq (.seq (.ops [qm 17 0,qk 19 126 17,qn 19 18, .i (.mov 20 (qi 0))]) (.block 0 (.loop [27,26,25,24,23,22,21,6] (.seq (.ops [qd 21 .lss 20 19]) (.seq (.cond (.s 21) .skip (.exit 0)) (.seq (.block 1 (.seq (.ops [.i (.iad 22 (.s 18) (.s 20) 1), .i (.ldh 23 (.s 22) 1 false),qm 6 23]) (.seq (.ops [qm 24 6,qm 25 1,qd 26 .geq 24 25]) (.cond (.s 26) (.seq (.ops [.i (.mov 4 (qb false))]) .ret) .skip)))) (.ops [.i (.bin 27 .add (.s 20) (qi 1)),qm 20 27]))))))) (.seq (.ops [.i (.mov 4 (qb true))]) .ret))))⟩
theorem uq:cd mB=some mY:=by kernel_rfl
theorem jU (b:Bytes) (n:Int) (hb:b.length≤1073741824) (hn: -9223372036854775808≤n∧n < 9223372036854775808):VC cd mB (bf [(false,[.sl (bytes b)]),(false,[.int .i64 n])]) (fun rs _=>rs=bl (cZ b n)):=by
 refine aa uq rfl ?_
 simp(disch:=omega) [mY,VY]
 refine aj (bz _ _ _) rfl rfl ?_
 simp(disch:=omega) [VY]
 refine av (fun h1=> ?_) (fun h1=> ?_)
 ·simp(disch:=omega) [h1,VY]
  refine aj (pk _ hn.1 hn.2) rfl rfl ?_
  simp(disch:=omega) [h1,VY]
  refine ab (fun h2=> ?_) (fun h2=> ?_)
  ·simp(disch:=omega) [h1,h2,VY]
   refine aj (eh b hb) rfl rfl ?_
   simp(disch:=omega) [dT,VY]
   have hl:=cL b
   refine aI (σ:=Nat) (f1:=_) (es0:=_) (by simp(disch:=omega) [VY];rfl) (by simp(disch:=omega) [VY];rfl) (fun i=> [(20, .val false [.int .i64 i])]) (fun _=> []) (fun i g=>g+i=(aq b).length∧∀x∈(aq b).take i,(x:Int) < n) 0 (aq b).length (by simp(disch:=omega) [VY]) (by simp(disch:=omega) [VY]) ⟨by omega,by simp⟩ ?_
   rintro i m g ⟨hg,hi⟩
   simp(disch:=omega) [VY]
   refine ab (fun h3=> ?_) (fun h3=> ?_)
   ·have hx:i < (aq b).length:=by omega
    simp(disch:=omega) [kC hx,VY]
    refine ab (fun h4=> ?_) (fun h4=> ?_)
    ·simp(disch:=omega) [VY]
     simp[cZ,h1,h2,Dm hx h4]
    ·simp(disch:=omega) [VY]
     exact⟨i+1,g - 1,by omega,⟨by omega,aV hi hx (by omega)⟩,by simp⟩
   ·simp(disch:=omega) [VY]
    have:i=(aq b).length:=by omega
    subst this
    simp[cZ,h1,h2,Cc hi]
  ·simp(disch:=omega) [h1,h2,cZ,VY]
 ·simp(disch:=omega) [h1,cZ,VY]
theorem ux {l:List Nat} {n:Int} (hp:l.Pairwise (· < ·)) (hl:0 < l.length):du l n=decide ((l[l.length - 1]:Int) < n):=by
 rw[Bool.eq_iff_iff]
 simp only[du,List.all_eq_true,decide_eq_true_eq]
 constructor
 ·intro h;exact h _ (List.getElem_mem _)
 ·intro h x hx
  obtain⟨i,hi,rfl⟩:=List.getElem_of_mem hx
  by_cases he:i=l.length - 1
  ·subst he;exact h
  ·have:=List.pairwise_iff_getElem.1 hp i (l.length - 1) hi (by omega) (by omega)
   omega
theorem rj (b:Bytes):(aq b).Pairwise (· < ·):=List.Pairwise.filter _ List.pairwise_lt_range
abbrev mw:Nat:=206
def na:AF:=⟨2,5,[.tmp 4],(.seq (.ops [.i (.mov 4 (qb false))]) (.seq (.seq (.ops [qm 6 1,qk 8 199 6, .i (.not 8 (.s 7)),qm 9 8, .g 9 false 11 (.mov 10 (.s 0)), .g 9 false 12 (.len 11 false (.s 10)), .g 9 false 13 (.mov 12 (.s 1)), .g 9 false 14 (.call 14 124 false [(.s 12)]), .g 9 false 15 (.bin 14 .neq (.s 11) (.s 13)), .i (.pick 15 (.s 9) (qb true) (.s 14))]) (.cond (.s 15) (.seq (.ops [.i (.mov 4 (qb false))]) .ret) .skip)) (.seq (.ops [qm 16 0,qk 18 207 16,qm 5 17]) (.seq (.ops [qm 18 5,qn 19 18, .i (.bin 20 .eql (.s 19) (qi 0)),qm 21 20, .g 21 false 23 (.mov 22 (.s 5)), .g 21 false 24 (.mov 23 (.s 5)), .g 21 false 25 (.len 24 false (.s 23)), .g 21 false 26 (.bin 25 .sub (.s 24) (qi 1)), .g 21 false 27 (.iad 26 (.s 22) (.s 25) 1), .g 21 false 28 (.ldh 27 (.s 26) 1 false), .g 21 false 29 (.mov 28 (.s 1)), .g 21 false 30 (.bin 29 .lss (.s 27) (.s 28)), .i (.pick 30 (.s 21) (qb true) (.s 29)),qm 4 30]) .ret))))⟩
theorem uN:cd mw=some na:=by kernel_rfl
theorem lq (b:Bytes) (n:Int) (hb:b.length≤1073741824) (hn: -9223372036854775808≤n∧n < 9223372036854775808):VC cd mw (bf [(false,[.sl (bytes b)]),(false,[.int .i64 n])]) (fun rs _=>rs=bl (cZ b n)):=by
 refine aa uN rfl ?_
 simp(disch:=omega) [na,VY]
 refine aj (dJ _) rfl rfl ?_
 simp(disch:=omega) [VY]
 refine av (fun h1=> ?_) (fun h1=> ?_)
 ·simp(disch:=omega) [h1,VY]
  refine aj (pP _ hn.1 hn.2) rfl rfl ?_
  simp(disch:=omega) [h1,VY]
  refine ab (fun h2=> ?_) (fun h2=> ?_)
  ·simp(disch:=omega) [h1,h2,VY]
   refine aj (el b hb) rfl rfl ?_
   have hl:=cL b
   simp(disch:=omega) [dT,VY]
   refine ab (fun h3=> ?_) (fun h3=> ?_)
   ·simp(disch:=omega) [h3,VY]
    simp[cZ,h1,h2,h3,du]
   ·have h4:=List.length_pos_iff.2 h3
    have e3:(1:Int)≤((aq b).length:Int):=by omega
    have hx:(aq b).length - 1 < (aq b).length:=by omega
    have e1:((aq b).length - 1:Int).toNat=(aq b).length - 1:=by omega
    have e2:(0:Int)≤((aq b).length:Int) - 1:=by omega
    simp(disch:=omega) [h3,dT,e1,e2,e3,kC hx,VY]
    simp[cZ,h1,h2,ux (rj b) h4]
  ·simp(disch:=omega) [h1,h2,cZ,VY]
 ·simp(disch:=omega) [h1,cZ,VY]
def pr (x:Nat):Nat:=((List.range 8).filter (x.testBit)).length
theorem yd:∀x < 256,((⟨#[0,1,1,2,1,2,2,3,1,2,2,3,2,3,3,4,1,2,2,3,2,3,3,4,2,3,3,4,3,4,4,5,1,2,2,3,2,3,3,4,2,3,3,4,3,4,4,5,2,3,3,4,3,4,4,5,3,4,4,5,4,5,5,6,1,2,2,3,2,3,3,4,2,3,3,4,3,4,4,5,2,3,3,4,3,4,4,5,3,4,4,5,4,5,5,6,2,3,3,4,3,4,4,5,3,4,4,5,4,5,5,6,3,4,4,5,4,5,5,6,4,5,5,6,5,6,6,7,1,2,2,3,2,3,3,4,2,3,3,4,3,4,4,5,2,3,3,4,3,4,4,5,3,4,4,5,4,5,5,6,2,3,3,4,3,4,4,5,3,4,4,5,4,5,5,6,3,4,4,5,4,5,5,6,4,5,5,6,5,6,6,7,2,3,3,4,3,4,4,5,3,4,4,5,4,5,5,6,3,4,4,5,4,5,5,6,4,5,5,6,5,6,6,7,3,4,4,5,4,5,5,6,4,5,5,6,5,6,6,7,4,5,5,6,5,6,6,7,5,6,6,7,6,7,7,8]⟩:ByteArray).data.toList)[x]? =some (UInt8.ofNat (pr x))∧pr x≤8:=by decide+kernel
abbrev dR:Nat:=266
def dW:AF:=⟨1,3,[.tmp 2],(.seq (.ops [.i (.mov 2 (.c (.val false [.int .i64 0])))]) (.seq (.ops [.i (.mov 3 (.s 0)), .i (.ids 4 (.c (.val false [.str ⟨#[0,1,1,2,1,2,2,3,1,2,2,3,2,3,3,4,1,2,2,3,2,3,3,4,2,3,3,4,3,4,4,5,1,2,2,3,2,3,3,4,2,3,3,4,3,4,4,5,2,3,3,4,3,4,4,5,3,4,4,5,4,5,5,6,1,2,2,3,2,3,3,4,2,3,3,4,3,4,4,5,2,3,3,4,3,4,4,5,3,4,4,5,4,5,5,6,2,3,3,4,3,4,4,5,3,4,4,5,4,5,5,6,3,4,4,5,4,5,5,6,4,5,5,6,5,6,6,7,1,2,2,3,2,3,3,4,2,3,3,4,3,4,4,5,2,3,3,4,3,4,4,5,3,4,4,5,4,5,5,6,2,3,3,4,3,4,4,5,3,4,4,5,4,5,5,6,3,4,4,5,4,5,5,6,4,5,5,6,5,6,6,7,2,3,3,4,3,4,4,5,3,4,4,5,4,5,5,6,3,4,4,5,4,5,5,6,4,5,5,6,5,6,6,7,3,4,4,5,4,5,5,6,4,5,5,6,5,6,6,7,4,5,5,6,5,6,6,7,5,6,6,7,6,7,7,8]⟩])) (.s 3)), .i (.cvi 5 .i64 (.s 4)), .i (.mov 2 (.s 5))]) .ret))⟩
theorem iH:cd dR=some dW:=by kernel_rfl
theorem uD (x:UInt8):VC cd dR (bf [(false,[.int .u8 x.toNat])]) (fun rs _=>rs=it (pr x.toNat)):=by
 obtain⟨e1,e2⟩:=yd x.toNat (yy x)
 have e3:(UInt8.ofNat (pr x.toNat)).toNat=pr x.toNat:=by simp;omega
 refine aa iH rfl ?_
 simp(disch:=omega) only[dW,VE,IY,VP,VB,Im,List.map_cons,List.map_nil,Int.toNat_natCast,e1,e3,simprocAttr,Int.natCast_nonneg,if_true,it]
theorem zq (b:Bytes) (i:Nat) (hi:i < b.length):((List.range (8 * (i+1))).filter (bx b)).length=((List.range (8 * i)).filter (bx b)).length+pr b[i].toNat:=by
 have h8:∀j < 8,bx b (8 * i+j)=b[i].toNat.testBit j:=by
  intro j hj
  have e:(8 * i+j) / 8=i:=by omega
  have e2:(8 * i+j) % 8=j:=by omega
  have:=pg (b:=b) (i:=8 * i+j) (by rw[e];exact hi)
  rw[this,e2]
  simp only[e]
 have e:8 * (i+1)=8 * i+8:=by omega
 rw[e,List.range_add,List.filter_append,List.length_append]
 congr 1
 unfold pr
 rw[List.filter_map,List.length_map]
 congr 1
 refine List.filter_congr fun j hj=> ?_
 simp only[List.mem_range]at hj
 exact h8 j hj
abbrev gG:Nat:=215
def iy:AF:=⟨1,5,[.tmp 2],(.seq (.ops [.i (.mov 2 (qi 0))]) (.seq (.ops [.i (.mov 3 (qi 0))]) (.seq (.seq (.ops [qm 6 0,qn 7 6, .i (.mov 8 (qi 0))]) (.block 0 (.loop [16,15,14,13,12,11,10,9,5] (.seq (.ops [qd 9 .lss 8 7]) (.seq (.cond (.s 9) .skip (.exit 0)) (.seq (.block 1 (.seq (.ops [.i (.iad 10 (.s 6) (.s 8) 1), .i (.ldh 11 (.s 10) 1 false),qm 5 11]) (.ops [qm 12 3,qm 13 5,qk 15 266 13,qd 15 .add 12 14,qm 3 15]))) (.ops [.i (.bin 16 .add (.s 8) (qi 1)),qm 8 16]))))))) (.seq (.ops [qm 17 3,qm 2 17]) .ret))))⟩
theorem pB:cd gG=some iy:=by kernel_rfl
theorem fY (b:Bytes) (hb:b.length≤1073741824):VC cd gG (bf [(false,[.sl (bytes b)])]) (fun rs _=>rs=it (aq b).length):=by
 refine aa pB rfl ?_
 simp(disch:=omega) [iy,VY]
 refine aI (σ:=Nat) (f1:=_) (es0:=_) (by simp(disch:=omega) [VY];rfl) (by simp(disch:=omega) [VY];rfl) (fun i=> [(8, .val false [.int .i64 i]),(3, .val false [.int .i64 ((List.range (8 * i)).filter (bx b)).length])]) (fun _=> []) (fun i g=>g+i=b.length) 0 b.length (by simp(disch:=omega) [VY]) (by simp(disch:=omega) [VY]) (by omega) ?_
 rintro i n g hg
 simp(disch:=omega) [VY]
 refine ab (fun h1=> ?_) (fun h1=> ?_)
 ·have hx:i < b.length:=by omega
  simp(disch:=omega) [gR hx,VY]
  refine aj (uD _) rfl rfl ?_
  have hl:=filter_le (bx b) (8 * i)
  have ho:=(yd b[i].toNat (yy _)).2
  simp(disch:=omega) [VY]
  exact⟨i+1,g - 1,by omega,by omega,by rw[zq b i hx];omega,by omega⟩
 ·simp(disch:=omega) [VY]
  have:i=b.length:=by omega
  subst this
  rfl
abbrev gq:Nat:=255
def gC:AF:=⟨1,3,[.tmp 2],(.seq (.ops [.i (.mov 2 (qi 0))]) (.seq (.ops [qm 3 0,qk 5 207 3,qn 5 4,qm 2 5]) .ret))⟩
theorem pR:cd gq=some gC:=by kernel_rfl
theorem oi (b:Bytes) (hb:b.length≤1073741824):VC cd gq (bf [(false,[.sl (bytes b)])]) (fun rs _=>rs=it (aq b).length):=by
 refine aa pR rfl ?_
 simp(disch:=omega) [gC,VY]
 refine aj (el b hb) rfl rfl ?_
 simp(disch:=omega) [dT,VY]
end Go.Eng.F
namespace Go.Eng.F
def tQ (n:Int):Prop:= -9223372036854775808≤n∧n < 9223372036854775808
def Sz (n:Nat):Prop:=n≤1073741824
theorem uj (x:Bytes):rf (bytes x)=some ⟨x.toArray⟩:=by
 induction x with
 |nil=>rfl
 |cons b x ih=>
  have:bytes (b::x)= [.int .u8 (b.toNat:Int)]::bytes x:=rfl
  rw[this]
  simp only[rf,ih,Int.toNat_natCast]
  congr 1
  simp
theorem DS (a b:Bytes):((⟨a.toArray⟩:ByteArray)=⟨b.toArray⟩)=(a=b):=by
 apply propext
 constructor
 ·intro h;injection h with h;exact Array.toList_inj.2 h|> fun h=>by simpa using h
 ·rintro rfl;rfl
abbrev ir:Nat:=57
def il:AF:=⟨2,4,[.tmp 4],(.seq (.ops [.i (.mov 4 (qb false))]) (.seq (.ops [qm 5 0, .i (.cbs 6 (.s 5)),qm 7 1, .i (.cbs 8 (.s 7)),qd 9 .eql 6 8,qm 4 9]) .ret))⟩
theorem qa:cd ir=some il:=by kernel_rfl
theorem cn (a b:Bytes):VC cd ir (bf [(false,[.sl (bytes a)]),(false,[.sl (bytes b)])]) (fun rs _=>rs=bl (decide (a=b))):=by
 refine aa qa rfl ?_
 simp(disch:=omega) [il,uj,DS,VY]
abbrev gK:Nat:=143
def gw:AF:=⟨2,4,[.tmp 4],(.seq (.ops [.i (.mov 4 (qb false))]) (.seq (.ops [qm 5 0, .i (.cbs 6 (.s 5)),qm 7 1, .i (.cbs 8 (.s 7)),qd 9 .eql 6 8,qm 4 9]) .ret))⟩
theorem pq:cd gK=some gw:=by kernel_rfl
theorem cu (a b:Bytes):VC cd gK (bf [(false,[.sl (bytes a)]),(false,[.sl (bytes b)])]) (fun rs _=>rs=bl (decide (a=b))):=by
 refine aa pq rfl ?_
 simp(disch:=omega) [gw,uj,DS,VY]
structure Qc where
 view:Int
 height:Int
 block:Bytes
 bits:Bytes
 tags:List Bytes
def Qc.c (q:Qc):List D:= [.int .i64 q.view, .int .i64 q.height, .sl (bytes q.block), .sl (bytes q.bits), .sl (mn q.tags)]
def Qc.wf (q:Qc):Prop:=tQ q.view∧tQ q.height∧Sz q.block.length∧Sz q.bits.length∧Sz q.tags.length
def ma (l:bA) (q:Qc):Bool:=l.ok && isNum q.view && isNum q.height && hash q.block && cZ q.bits l.n && decide (q.tags.length=(aq q.bits).length) && hashes q.tags
theorem yl {l:bA} (h:l.ok=true):1≤l.n∧l.n≤10:=by
 simp only[bA.ok,Bool.and_eq_true]at h
 exact ie h.1.1.1.1
theorem sd (x:Bytes):hashes [x]=hash x:=by simp[hashes]
abbrev qt:Nat:=128
def qB:AF:=⟨2,6,[.tmp 4],(.seq (.ops [.i (.lbox 2 (.s 0)), .i (.lbox 3 (.s 1)), .i (.mov 4 (qb false))]) (.seq (.ops [ql 5 2 2 5 true,qk 7 134 5,qm 7 6, .g 7 true 9 (.fad 8 (.s 3) 0), .g 7 true 10 (.ldl 9 3 (.s 8) 1 false), .g 7 true 11 (.call 11 213 false [(.s 9)]), .i (.pick 11 (.s 7) (.s 10) (qb false)),qm 12 11, .g 12 true 14 (.fad 13 (.s 3) 1), .g 12 true 15 (.ldl 14 3 (.s 13) 1 false), .g 12 true 16 (.call 16 213 false [(.s 14)]), .i (.pick 16 (.s 12) (.s 15) (qb false)),qm 17 16, .g 17 true 19 (.fad 18 (.s 3) 2), .g 17 true 20 (.ldl 19 3 (.s 18) 1 false), .g 17 true 21 (.bsl 20 22 1 1 [.nils] [(0,1,(.s 19))]), .g 17 true 22 (.call 22 214 false [(.s 20)]), .i (.pick 22 (.s 17) (.s 21) (qb false)),qm 23 22, .g 23 true 25 (.fad 24 (.s 3) 3), .g 23 true 26 (.ldl 25 3 (.s 24) 1 false), .g 23 true 27 (.fad 26 (.s 2) 0), .g 23 true 28 (.ldl 27 2 (.s 26) 1 false), .g 23 true 29 (.call 29 125 false [(.s 25),(.s 27)]), .i (.pick 29 (.s 23) (.s 28) (qb false)),qm 30 29, .g 30 true 32 (.fad 31 (.s 3) 4), .g 30 true 33 (.ldl 32 3 (.s 31) 1 false), .g 30 true 34 (.len 33 false (.s 32)), .g 30 true 35 (.fad 34 (.s 3) 3), .g 30 true 36 (.ldl 35 3 (.s 34) 1 false), .g 30 true 37 (.call 37 215 false [(.s 35)]), .g 30 true 38 (.bin 37 .eql (.s 33) (.s 36)), .i (.pick 38 (.s 30) (.s 37) (qb false)),qm 39 38, .g 39 true 41 (.fad 40 (.s 3) 4), .g 39 true 42 (.ldl 41 3 (.s 40) 1 false), .g 39 true 43 (.call 43 214 false [(.s 41)]), .i (.pick 43 (.s 39) (.s 42) (qb false)),qm 4 43]) .ret))⟩
theorem yr:cd qt=some qB:=by kernel_rfl
theorem oH (l:bA) (q:Qc) (hq:q.wf):VC cd qt (bf [(true,l.c),(true,q.c)]) (fun rs _=>rs=bl (ma l q)):=by
 obtain⟨w1,w2,w3,w4,w5⟩:=hq
 simp only[tQ,Sz]at w1 w2 w3 w4 w5
 refine aa yr rfl ?_
 simp(disch:=omega) [qB,bA.c,Qc.c,VY]
 refine aj (ek l) rfl rfl ?_
 simp(disch:=omega) [VY]
 refine av (fun h1=> ?_) (fun h1=> ?_) <;>simp(disch:=omega) [h1,ma,VY]
 have hn:=yl h1
 refine aj (oP _) rfl rfl ?_
 simp(disch:=omega) [h1,VY]
 refine av (fun h2=> ?_) (fun h2=> ?_) <;>simp(disch:=omega) [h1,h2,VY]
 refine aj (oP _) rfl rfl ?_
 simp(disch:=omega) [h1,h2,VY]
 refine av (fun h3=> ?_) (fun h3=> ?_) <;>simp(disch:=omega) [h1,h2,h3,VY]
 refine aj (eU [q.block] (by simp)) rfl rfl ?_
 simp(disch:=omega) [h1,h2,h3,sd,VY]
 refine av (fun h4=> ?_) (fun h4=> ?_) <;>simp(disch:=omega) [h1,h2,h3,h4,VY]
 refine aj (jU q.bits l.n (by omega) (by omega)) rfl rfl ?_
 simp(disch:=omega) [h1,h2,h3,h4,VY]
 refine av (fun h5=> ?_) (fun h5=> ?_) <;>simp(disch:=omega) [h1,h2,h3,h4,h5,VY]
 refine aj (fY q.bits (by omega)) rfl rfl ?_
 have hl:=cL q.bits
 simp(disch:=omega) [h1,h2,h3,h4,h5,bJ,VY]
 refine ab (fun h6=> ?_) (fun h6=> ?_)
 ·simp(disch:=omega) [h1,h2,h3,h4,h5,h6,bJ,VY]
  refine aj (eU q.tags (by omega)) rfl rfl ?_
  have h7:q.tags.length=(aq q.bits).length:=by omega
  simp(disch:=omega) [h1,h2,h3,h4,h5,h6,h7,VY]
 ·have h7:¬q.tags.length=(aq q.bits).length:=by omega
  simp(disch:=omega) [h1,h2,h3,h4,h5,h6,h7,bJ,VY]
abbrev qu:Nat:=203
def qD:AF:=⟨2,6,[.tmp 4],(.seq (.ops [.i (.lbox 2 (.s 0)), .i (.lbox 3 (.s 1)), .i (.mov 4 (qb false))]) (.seq (.ops [ql 5 2 2 5 true,qk 7 142 5,qm 7 6, .g 7 true 9 (.fad 8 (.s 3) 0), .g 7 true 10 (.ldl 9 3 (.s 8) 1 false), .g 7 true 11 (.call 11 201 false [(.s 9)]), .i (.pick 11 (.s 7) (.s 10) (qb false)),qm 12 11, .g 12 true 14 (.fad 13 (.s 3) 1), .g 12 true 15 (.ldl 14 3 (.s 13) 1 false), .g 12 true 16 (.call 16 201 false [(.s 14)]), .i (.pick 16 (.s 12) (.s 15) (qb false)),qm 17 16, .g 17 true 19 (.fad 18 (.s 3) 2), .g 17 true 20 (.ldl 19 3 (.s 18) 1 false), .g 17 true 21 (.call 21 202 false [(.s 19)]), .i (.pick 21 (.s 17) (.s 20) (qb false)),qm 22 21, .g 22 true 24 (.fad 23 (.s 3) 3), .g 22 true 25 (.ldl 24 3 (.s 23) 1 false), .g 22 true 26 (.fad 25 (.s 2) 0), .g 22 true 27 (.ldl 26 2 (.s 25) 1 false), .g 22 true 28 (.call 28 206 false [(.s 24),(.s 26)]), .i (.pick 28 (.s 22) (.s 27) (qb false)),qm 29 28, .g 29 true 31 (.fad 30 (.s 3) 4), .g 29 true 32 (.ldl 31 3 (.s 30) 1 false), .g 29 true 33 (.len 32 false (.s 31)), .g 29 true 34 (.fad 33 (.s 3) 3), .g 29 true 35 (.ldl 34 3 (.s 33) 1 false), .g 29 true 36 (.call 36 255 false [(.s 34)]), .g 29 true 37 (.bin 36 .eql (.s 32) (.s 35)), .i (.pick 37 (.s 29) (.s 36) (qb false)),qm 38 37, .g 38 true 40 (.fad 39 (.s 3) 4), .g 38 true 41 (.ldl 40 3 (.s 39) 1 false), .g 38 true 42 (.call 42 256 false [(.s 40)]), .i (.pick 42 (.s 38) (.s 41) (qb false)),qm 4 42]) .ret))⟩
theorem xP:cd qu=some qD:=by kernel_rfl
theorem iK (l:bA) (q:Qc) (hq:q.wf):VC cd qu (bf [(true,l.c),(true,q.c)]) (fun rs _=>rs=bl (ma l q)):=by
 obtain⟨w1,w2,w3,w4,w5⟩:=hq
 simp only[tQ,Sz]at w1 w2 w3 w4 w5
 refine aa xP rfl ?_
 simp(disch:=omega) [qD,bA.c,Qc.c,VY]
 refine aj (dm l) rfl rfl ?_
 simp(disch:=omega) [VY]
 refine av (fun h1=> ?_) (fun h1=> ?_) <;>simp(disch:=omega) [h1,ma,VY]
 have hn:=yl h1
 refine aj (eX _) rfl rfl ?_
 simp(disch:=omega) [h1,VY]
 refine av (fun h2=> ?_) (fun h2=> ?_) <;>simp(disch:=omega) [h1,h2,VY]
 refine aj (eX _) rfl rfl ?_
 simp(disch:=omega) [h1,h2,VY]
 refine av (fun h3=> ?_) (fun h3=> ?_) <;>simp(disch:=omega) [h1,h2,h3,VY]
 refine aj (eY _) rfl rfl ?_
 simp(disch:=omega) [h1,h2,h3,VY]
 refine av (fun h4=> ?_) (fun h4=> ?_) <;>simp(disch:=omega) [h1,h2,h3,h4,VY]
 refine aj (lq q.bits l.n (by omega) (by omega)) rfl rfl ?_
 simp(disch:=omega) [h1,h2,h3,h4,VY]
 refine av (fun h5=> ?_) (fun h5=> ?_) <;>simp(disch:=omega) [h1,h2,h3,h4,h5,VY]
 refine aj (oi q.bits (by omega)) rfl rfl ?_
 have hl:=cL q.bits
 simp(disch:=omega) [h1,h2,h3,h4,h5,bJ,VY]
 refine ab (fun h6=> ?_) (fun h6=> ?_)
 ·simp(disch:=omega) [h1,h2,h3,h4,h5,h6,bJ,VY]
  refine aj (xd q.tags (by omega)) rfl rfl ?_
  have h7:q.tags.length=(aq q.bits).length:=by omega
  simp(disch:=omega) [h1,h2,h3,h4,h5,h6,h7,VY]
 ·have h7:¬q.tags.length=(aq q.bits).length:=by omega
  simp(disch:=omega) [h1,h2,h3,h4,h5,h6,h7,bJ,VY]
structure Head where
 view:Int
 height:Int
 proposer:Int
 parent:Bytes
 root:Bytes
 qc:Qc
def Head.c (h:Head):List D:= [.int .i64 h.view, .int .i64 h.height, .int .i64 h.proposer, .sl (bytes h.parent), .sl (bytes h.root), .int .i64 h.qc.view, .int .i64 h.qc.height, .sl (bytes h.qc.block), .sl (bytes h.qc.bits), .sl (mn h.qc.tags)]
def Head.wf (h:Head):Prop:=tQ h.view∧tQ h.height∧tQ h.proposer∧Sz h.parent.length∧Sz h.root.length∧h.qc.wf
def fits (h:Head):Bool:=decide (h.qc.view < h.view) && decide (h.qc.height=h.height - 1) && decide (h.qc.block=h.parent)
abbrev eO:Nat:=223
def eP:AF:=⟨1,5,[.tmp 2],(.seq (.ops [.i (.lbox 1 (.s 0)), .i (.mov 2 (qb false))]) (.seq (.ops [qf 3 1 5,qf 4 3 0,ql 5 1 4 1 false,qf 6 1 0,ql 7 1 6 1 false,qd 8 .lss 5 7,qm 9 8, .g 9 true 11 (.fad 10 (.s 1) 5), .g 9 true 12 (.fad 11 (.s 10) 1), .g 9 true 13 (.ldl 12 1 (.s 11) 1 false), .g 9 true 14 (.fad 13 (.s 1) 1), .g 9 true 15 (.ldl 14 1 (.s 13) 1 false), .g 9 true 16 (.bin 15 .sub (.s 14) (qi 1)), .g 9 true 17 (.bin 16 .eql (.s 12) (.s 15)), .i (.pick 17 (.s 9) (.s 16) (qb false)),qm 18 17, .g 18 true 20 (.fad 19 (.s 1) 5), .g 18 true 21 (.fad 20 (.s 19) 2), .g 18 true 22 (.ldl 21 1 (.s 20) 1 false), .g 18 true 23 (.fad 22 (.s 1) 3), .g 18 true 24 (.ldl 23 1 (.s 22) 1 false), .g 18 true 25 (.call 25 57 false [(.s 21),(.s 23)]), .i (.pick 25 (.s 18) (.s 24) (qb false)),qm 2 25]) .ret))⟩
theorem lW:cd eO=some eP:=by kernel_rfl
theorem zj (h:Head) (h1:1≤h.height) (h2:tQ h.height):VC cd eO (bf [(true,h.c)]) (fun rs _=>rs=bl (fits h)):=by
 simp only[tQ]at h2
 refine aa lW rfl ?_
 simp(disch:=omega) [eP,Head.c,VY]
 refine ab (fun g1=> ?_) (fun g1=> ?_) <;>simp(disch:=omega) [g1,fits,VY]
 refine ab (fun g2=> ?_) (fun g2=> ?_) <;>simp(disch:=omega) [g1,g2,VY]
 refine aj (cn _ _) rfl rfl ?_
 simp(disch:=omega) [g1,g2,VY]
abbrev ly:Nat:=204
def kG:AF:=⟨1,5,[.tmp 2],(.seq (.ops [.i (.lbox 1 (.s 0)), .i (.mov 2 (qb false))]) (.seq (.ops [qf 3 1 5,qf 4 3 0,ql 5 1 4 1 false,qf 6 1 0,ql 7 1 6 1 false,qd 8 .lss 5 7,qm 9 8, .g 9 true 11 (.fad 10 (.s 1) 5), .g 9 true 12 (.fad 11 (.s 10) 1), .g 9 true 13 (.ldl 12 1 (.s 11) 1 false), .g 9 true 14 (.fad 13 (.s 1) 1), .g 9 true 15 (.ldl 14 1 (.s 13) 1 false), .g 9 true 16 (.bin 15 .sub (.s 14) (qi 1)), .g 9 true 17 (.bin 16 .eql (.s 12) (.s 15)), .i (.pick 17 (.s 9) (.s 16) (qb false)),qm 18 17, .g 18 true 20 (.fad 19 (.s 1) 5), .g 18 true 21 (.fad 20 (.s 19) 2), .g 18 true 22 (.ldl 21 1 (.s 20) 1 false), .g 18 true 23 (.fad 22 (.s 1) 3), .g 18 true 24 (.ldl 23 1 (.s 22) 1 false), .g 18 true 25 (.call 25 143 false [(.s 21),(.s 23)]), .i (.pick 25 (.s 18) (.s 24) (qb false)),qm 2 25]) .ret))⟩
theorem sA:cd ly=some kG:=by kernel_rfl
theorem zO (h:Head) (h1:1≤h.height) (h2:tQ h.height):VC cd ly (bf [(true,h.c)]) (fun rs _=>rs=bl (fits h)):=by
 simp only[tQ]at h2
 refine aa sA rfl ?_
 simp(disch:=omega) [kG,Head.c,VY]
 refine ab (fun g1=> ?_) (fun g1=> ?_) <;>simp(disch:=omega) [g1,fits,VY]
 refine ab (fun g2=> ?_) (fun g2=> ?_) <;>simp(disch:=omega) [g1,g2,VY]
 refine aj (cu _ _) rfl rfl ?_
 simp(disch:=omega) [g1,g2,VY]
def bE (l:bA) (h:Head):Bool:=ma l h.qc && isNum h.view && ml h.height 1 1152921504606846975 && ml h.proposer 0 (l.n - 1) && hash h.parent && hash h.root && fits h
theorem xF {l:bA} {q:Qc} (h:ma l q=true):l.ok=true:=by
 simp only[ma,Bool.and_eq_true]at h
 exact h.1.1.1.1.1.1
theorem tg (x y:Bytes):hashes [x,y]=(hash x && hash y):=by simp[hashes]
abbrev mz:Nat:=140
def mP:AF:=⟨2,6,[.tmp 4],(.seq (.ops [.i (.lbox 2 (.s 0)), .i (.lbox 3 (.s 1)), .i (.mov 4 (qb false))]) (.seq (.ops [ql 5 2 2 5 true,qf 6 3 5,ql 7 3 6 5 true, .i (.call 9 128 false [(.s 5),(.s 7)]),qm 9 8, .g 9 true 11 (.fad 10 (.s 3) 0), .g 9 true 12 (.ldl 11 3 (.s 10) 1 false), .g 9 true 13 (.call 13 213 false [(.s 11)]), .i (.pick 13 (.s 9) (.s 12) (qb false)),qm 14 13, .g 14 true 16 (.fad 15 (.s 3) 1), .g 14 true 17 (.ldl 16 3 (.s 15) 1 false), .g 14 true 18 (.call 18 62 false [(.s 16),(qi 1),(qi 1152921504606846975)]), .i (.pick 18 (.s 14) (.s 17) (qb false)),qm 19 18, .g 19 true 21 (.fad 20 (.s 3) 2), .g 19 true 22 (.ldl 21 3 (.s 20) 1 false), .g 19 true 23 (.fad 22 (.s 2) 0), .g 19 true 24 (.ldl 23 2 (.s 22) 1 false), .g 19 true 25 (.bin 24 .sub (.s 23) (qi 1)), .g 19 true 26 (.call 26 62 false [(.s 21),(qi 0),(.s 24)]), .i (.pick 26 (.s 19) (.s 25) (qb false)),qm 27 26, .g 27 true 29 (.fad 28 (.s 3) 3), .g 27 true 30 (.ldl 29 3 (.s 28) 1 false), .g 27 true 31 (.fad 30 (.s 3) 4), .g 27 true 32 (.ldl 31 3 (.s 30) 1 false), .g 27 true 33 (.bsl 32 22 1 2 [.nils] [(0,1,(.s 29)),(1,1,(.s 31))]), .g 27 true 34 (.call 34 214 false [(.s 32)]), .i (.pick 34 (.s 27) (.s 33) (qb false)),qm 35 34, .g 35 true 37 (.ldl 36 3 (.s 3) 10 true), .g 35 true 38 (.call 38 223 false [(.s 36)]), .i (.pick 38 (.s 35) (.s 37) (qb false)),qm 4 38]) .ret))⟩
theorem uP:cd mz=some mP:=by kernel_rfl
theorem dX (l:bA) (h:Head) (hw:h.wf):VC cd mz (bf [(true,l.c),(true,h.c)]) (fun rs _=>rs=bl (bE l h)):=by
 obtain⟨w1,w2,w3,w4,w5,w6⟩:=hw
 have w2':=w2
 simp only[tQ,Sz]at w1 w2 w3 w4 w5
 refine aa uP rfl ?_
 simp(disch:=omega) [mP,bA.c,Head.c,VY]
 refine aj (oH l h.qc w6) rfl rfl ?_
 simp(disch:=omega) [VY]
 refine av (fun h1=> ?_) (fun h1=> ?_) <;>simp(disch:=omega) [h1,bE,VY]
 have hn:=yl (xF h1)
 refine aj (oP _) rfl rfl ?_
 simp(disch:=omega) [h1,VY]
 refine av (fun h2=> ?_) (fun h2=> ?_) <;>simp(disch:=omega) [h1,h2,VY]
 refine aj (bz _ _ _) rfl rfl ?_
 simp(disch:=omega) [h1,h2,VY]
 refine av (fun h3=> ?_) (fun h3=> ?_) <;>simp(disch:=omega) [h1,h2,h3,VY]
 refine aj (bz _ _ _) rfl rfl ?_
 simp(disch:=omega) [h1,h2,h3,VY]
 refine av (fun h4=> ?_) (fun h4=> ?_) <;>simp(disch:=omega) [h1,h2,h3,h4,VY]
 refine aj (eU [h.parent,h.root] (by simp)) rfl rfl ?_
 simp(disch:=omega) [h1,h2,h3,h4,VY]
 refine av (fun h5=> ?_) (fun h5=> ?_)
 ·have h6:hash h.parent=true∧hash h.root=true:=by simpa[tg]using h5
  simp(disch:=omega) [h1,h2,h3,h4,h5,VY]
  refine aj (zj h (ie h3).1 w2') rfl rfl ?_
  simp(disch:=omega) [h1,h2,h3,h4,h5,h6,VY]
 ·simp(disch:=omega) [h1,h2,h3,h4,h5,VY]
  rw[tg]at h5
  simp only[Bool.and_eq_false_iff]at h5
  rcases h5 with h5|h5 <;>simp[h5]
abbrev mF:Nat:=118
def mW:AF:=⟨2,6,[.tmp 4],(.seq (.ops [.i (.lbox 2 (.s 0)), .i (.lbox 3 (.s 1)), .i (.mov 4 (qb false))]) (.seq (.ops [ql 5 2 2 5 true,qk 7 142 5,qm 7 6, .g 7 true 9 (.fad 8 (.s 3) 0), .g 7 true 10 (.ldl 9 3 (.s 8) 1 false), .g 7 true 11 (.call 11 201 false [(.s 9)]), .i (.pick 11 (.s 7) (.s 10) (qb false)),qm 12 11, .g 12 true 14 (.fad 13 (.s 3) 1), .g 12 true 15 (.ldl 14 3 (.s 13) 1 false), .g 12 true 16 (.call 16 152 false [(.s 14),(qi 1),(qi 1152921504606846975)]), .i (.pick 16 (.s 12) (.s 15) (qb false)),qm 17 16, .g 17 true 19 (.fad 18 (.s 3) 2), .g 17 true 20 (.ldl 19 3 (.s 18) 1 false), .g 17 true 21 (.fad 20 (.s 2) 0), .g 17 true 22 (.ldl 21 2 (.s 20) 1 false), .g 17 true 23 (.bin 22 .sub (.s 21) (qi 1)), .g 17 true 24 (.call 24 152 false [(.s 19),(qi 0),(.s 22)]), .i (.pick 24 (.s 17) (.s 23) (qb false)),qm 25 24, .g 25 true 27 (.fad 26 (.s 3) 3), .g 25 true 28 (.ldl 27 3 (.s 26) 1 false), .g 25 true 29 (.call 29 202 false [(.s 27)]), .i (.pick 29 (.s 25) (.s 28) (qb false)),qm 30 29, .g 30 true 32 (.fad 31 (.s 3) 4), .g 30 true 33 (.ldl 32 3 (.s 31) 1 false), .g 30 true 34 (.call 34 202 false [(.s 32)]), .i (.pick 34 (.s 30) (.s 33) (qb false)),qm 35 34, .g 35 true 37 (.ldl 36 2 (.s 2) 5 true), .g 35 true 38 (.fad 37 (.s 3) 5), .g 35 true 39 (.ldl 38 3 (.s 37) 5 true), .g 35 true 40 (.call 40 203 false [(.s 36),(.s 38)]), .i (.pick 40 (.s 35) (.s 39) (qb false)),qm 41 40, .g 41 true 43 (.ldl 42 3 (.s 3) 10 true), .g 41 true 44 (.call 44 204 false [(.s 42)]), .i (.pick 44 (.s 41) (.s 43) (qb false)),qm 4 44]) .ret))⟩
theorem uA:cd mF=some mW:=by kernel_rfl
theorem eb (l:bA) (h:Head) (hw:h.wf):VC cd mF (bf [(true,l.c),(true,h.c)]) (fun rs _=>rs=bl (bE l h)):=by
 obtain⟨w1,w2,w3,w4,w5,w6⟩:=hw
 have w2':=w2
 simp only[tQ,Sz]at w1 w2 w3 w4 w5
 have hlim:l.ok=false→ma l h.qc=false:=fun e=>by simp[ma,e]
 refine aa uA rfl ?_
 simp(disch:=omega) [mW,bA.c,Head.c,VY]
 refine aj (dm l) rfl rfl ?_
 simp(disch:=omega) [VY]
 refine av (fun h0=> ?_) (fun h0=> ?_)
 case refine_2=>simp(disch:=omega) [h0,bE,hlim h0,VY]
 simp(disch:=omega) [h0,VY]
 have hn:=yl h0
 refine aj (eX _) rfl rfl ?_
 simp(disch:=omega) [h0,VY]
 refine av (fun h2=> ?_) (fun h2=> ?_) <;>simp(disch:=omega) [h0,h2,bE,VY]
 refine aj (cO _ _ _) rfl rfl ?_
 simp(disch:=omega) [h0,h2,VY]
 refine av (fun h3=> ?_) (fun h3=> ?_) <;>simp(disch:=omega) [h0,h2,h3,VY]
 refine aj (cO _ _ _) rfl rfl ?_
 simp(disch:=omega) [h0,h2,h3,VY]
 refine av (fun h4=> ?_) (fun h4=> ?_) <;>simp(disch:=omega) [h0,h2,h3,h4,VY]
 refine aj (eY _) rfl rfl ?_
 simp(disch:=omega) [h0,h2,h3,h4,VY]
 refine av (fun h5=> ?_) (fun h5=> ?_) <;>simp(disch:=omega) [h0,h2,h3,h4,h5,VY]
 refine aj (eY _) rfl rfl ?_
 simp(disch:=omega) [h0,h2,h3,h4,h5,VY]
 refine av (fun h6=> ?_) (fun h6=> ?_) <;>simp(disch:=omega) [h0,h2,h3,h4,h5,h6,VY]
 refine aj (iK l h.qc w6) rfl rfl ?_
 simp(disch:=omega) [h0,h2,h3,h4,h5,h6,VY]
 refine av (fun h1=> ?_) (fun h1=> ?_) <;>simp(disch:=omega) [h0,h1,h2,h3,h4,h5,h6,VY]
 refine aj (zO h (ie h3).1 w2') rfl rfl ?_
 simp(disch:=omega) [h0,h1,h2,h3,h4,h5,h6,VY]
def iO (l:List Head):List (List D):=l.map Head.c
theorem bb (l:List Head):(iO l).length=l.length:=by simp[iO]
theorem da {l:List Head} {i:Nat} (h:i < l.length):(iO l)[i]? =some l[i].c:=by simp[iO,h]
theorem Av (l:List Head):wid 10 (iO l)=true:=by
 induction l with
 |nil=>rfl
 |cons n l ih=>simp only[iO,List.map_cons,wid]at ih⊢;simpa[Head.c]using ih
def lC (l:bA) (hs:List Head):Bool:=hs.all (bE l)
theorem sX {l:bA} {hs:List Head} (h:∀x∈hs.take hs.length,bE l x=true):lC l hs=true:=by
 rw[List.take_length]at h
 simpa[lC]using h
theorem sx {l:bA} {hs:List Head} {i:Nat} (hi:i < hs.length) (h:bE l hs[i]=false):lC l hs=false:=by
 simp only[lC,List.all_eq_false]
 exact⟨hs[i],List.getElem_mem hi,by simp[h]⟩
def xb (hs:List Head):Prop:=Sz hs.length∧∀h∈hs,h.wf
abbrev iS:Nat:=131
def jn:AF:=⟨2,5,[.tmp 4],(.seq (.ops [.i (.lbox 2 (.s 0)), .i (.mov 4 (qb false))]) (.seq (.seq (.ops [qm 7 1,qn 8 7, .i (.mov 9 (qi 0))]) (.block 0 (.loop [17,16,15,14,13,12,11,10,6] (.seq (.ops [qd 10 .lss 9 8]) (.seq (.cond (.s 10) .skip (.exit 0)) (.seq (.block 1 (.seq (.ops [.i (.iad 11 (.s 7) (.s 9) 10), .i (.ldh 12 (.s 11) 10 true), .i (.lal 6 qz),qs 6 6 12 10]) (.seq (.ops [ql 13 2 2 5 true,ql 14 6 6 10 true, .i (.call 16 140 false [(.s 13),(.s 14)]), .i (.not 16 (.s 15))]) (.cond (.s 16) (.seq (.ops [.i (.mov 4 (qb false))]) .ret) .skip)))) (.ops [.i (.bin 17 .add (.s 9) (qi 1)),qm 9 17]))))))) (.seq (.ops [.i (.mov 4 (qb true))]) .ret)))⟩
theorem rv:cd iS=some jn:=by kernel_rfl
theorem xL (l:bA) (hs:List Head) (hw:xb hs):VC cd iS (bf [(true,l.c),(false,[.sl (iO hs)])]) (fun rs _=>rs=bl (lC l hs)):=by
 obtain⟨w1,w2⟩:=hw
 simp only[Sz]at w1
 refine aa rv rfl ?_
 simp(disch:=omega) [jn,bA.c,bb,VY]
 refine aI (σ:=Nat) (f1:=_) (es0:=_) (by simp(disch:=omega) [VY];rfl) (by simp(disch:=omega) [VY];rfl) (fun i=> [(9, .val false [.int .i64 i])]) (fun _=> []) (fun i g=>g+i=hs.length∧∀x∈hs.take i,bE l x=true) 0 hs.length (by simp(disch:=omega) [VY]) (by simp(disch:=omega) [VY]) ⟨by omega,by simp⟩ ?_
 rintro i n g ⟨hg,hi⟩
 simp(disch:=omega) [VY]
 refine ab (fun h1=> ?_) (fun h1=> ?_)
 ·have hx:i < hs.length:=by omega
  simp(disch:=omega) [da hx,Head.c,VY]
  refine aj (dX l hs[i] (w2 _ (List.getElem_mem hx))) rfl rfl ?_
  simp(disch:=omega) [VY]
  refine av (fun h2=> ?_) (fun h2=> ?_)
  ·simp(disch:=omega) [VY]
   exact⟨i+1,g - 1,by omega,⟨by omega,aV hi hx h2⟩,by simp⟩
  ·simp(disch:=omega) [VY]
   exact sx hx h2
 ·simp(disch:=omega) [VY]
  have:i=hs.length:=by omega
  subst this
  exact sX hi
end Go.Eng.F
namespace Go.Eng.F
structure Proof where
 heads:List Head
 qc:Qc
def Proof.c (p:Proof):List D:= [.sl (iO p.heads), .int .i64 p.qc.view, .int .i64 p.qc.height, .sl (bytes p.qc.block), .sl (bytes p.qc.bits), .sl (mn p.qc.tags)]
def Proof.wf (p:Proof):Prop:=xb p.heads∧p.qc.wf
abbrev gJ:Nat:=60
def gx:AF:=⟨1,3,[.tmp 2],(.seq (.ops [.i (.mov 2 (.c (.val false [.nils])))]) (.seq (.ops [.i (.bse 3),qm 4 0, .i (.app 5 5 1 1 (.s 3) (.s 4)),qm 2 5]) .ret))⟩
theorem qe:cd gJ=some gx:=by kernel_rfl
theorem bm (x:Bytes) (hx:x.length≤1099511627776):VC cd gJ (bf [(false,[.sl (bytes x)])]) (fun rs _=>rs= [(false,[.o true (some (5,1)) (bytes x)])]):=by
 refine aa qe rfl ?_
 simp(disch:=omega) [gx,VY]
abbrev jQ:Nat:=115
def kq:AF:=⟨1,3,[.tmp 2],(.seq (.ops [.i (.mov 2 (.c (.val false [.nils])))]) (.seq (.ops [.i (.bse 3),qm 4 0, .i (.app 5 5 1 1 (.s 3) (.s 4)),qm 2 5]) .ret))⟩
theorem ti:cd jQ=some kq:=by kernel_rfl
theorem bX (x:Bytes) (hx:x.length≤1099511627776):VC cd jQ (bf [(false,[.sl (bytes x)])]) (fun rs _=>rs= [(false,[.o true (some (5,1)) (bytes x)])]):=by
 refine aa ti rfl ?_
 simp(disch:=omega) [kq,VY]
def Aw (l:List Bytes):Prop:=Sz l.length∧∀x∈l,Sz x.length
theorem yR {l:List Bytes} {i:Nat} (h:i < l.length):mn (l.take i)++ [[.sl (bytes l[i])]]=mn (l.take (i+1)):=by
 have e:mn (l.take (i+1))=mn (l.take i)++mn [l[i]]:=by
  rw[List.take_add_one,List.getElem?_eq_getElem h];exact List.map_append
 rw[e];rfl
abbrev jc:Nat:=220
def ju:AF:=⟨1,5,[.tmp 2],(.seq (.ops [.i (.mov 2 (.c (.val false [.nils])))]) (.seq (.ops [.i (.bse 6),qm 3 6]) (.seq (.seq (.ops [qm 7 0,qn 8 7, .i (.mov 9 (qi 0))]) (.block 0 (.loop [18,17,16,15,14,13,12,11,10,5] (.seq (.ops [qd 10 .lss 9 8]) (.seq (.cond (.s 10) .skip (.exit 0)) (.seq (.block 1 (.seq (.ops [.i (.iad 11 (.s 7) (.s 9) 1), .i (.ldh 12 (.s 11) 1 false),qm 5 12]) (.ops [qm 13 3,qm 14 5,qk 16 60 14, .i (.lsl 16 1 1 [.nils] [(0,1,(.s 15))]), .i (.app 17 22 1 24 (.s 13) (.s 16)),qm 3 17]))) (.ops [.i (.bin 18 .add (.s 9) (qi 1)),qm 9 18]))))))) (.seq (.ops [qm 19 3,qm 2 19]) .ret))))⟩
theorem qL:cd jc=some ju:=by kernel_rfl
theorem yC (l:List Bytes) (hw:Aw l):VC cd jc (bf [(false,[.sl (mn l)])]) (fun rs _=>rs= [(false,[.o true (some (22,1)) (mn l)])]):=by
 obtain⟨w1,w2⟩:=hw
 simp only[Sz]at w1 w2
 refine aa qL rfl ?_
 simp(disch:=omega) [ju,bJ,VY]
 refine aI (σ:=Nat×Nat) (f1:=_) (es0:=_) (by simp(disch:=omega) [VY];rfl) (by simp(disch:=omega) [VY];rfl) (fun p=> [(9, .val false [.int .i64 p.1]),(3, .val false [.ow 6 p.2])]) (fun p=> [(6, .sl p.2 true true (some (22,1)) (mn (l.take p.1)))])
  (fun p g=>g+p.1=l.length) (0,1) l.length (by simp(disch:=omega) [VY]) (by simp(disch:=omega) [mn,VY]) (by omega) ?_
 rintro⟨i,v⟩ n g hg
 simp only at hg
 simp(disch:=omega) [VY]
 refine ab (fun h1=> ?_) (fun h1=> ?_)
 ·have hx:i < l.length:=by omega
  simp(disch:=omega) [fB hx,VY]
  refine aj (bm l[i] (by have:=w2 _ (List.getElem_mem hx);omega)) rfl rfl ?_
  have hl:(mn (l.take i)).length=i:=by rw[bJ];simp;omega
  simp(disch:=omega) [hl,yR hx,VY]
  exact⟨i+1,n+1,g - 1,by omega,by omega,⟨by omega,by omega⟩,by omega,rfl⟩
 ·simp(disch:=omega) [VY]
  have:i=l.length:=by omega
  subst this
  rw[List.take_length]
abbrev kM:Nat:=225
def lz:AF:=⟨1,5,[.tmp 2],(.seq (.ops [.i (.mov 2 (.c (.val false [.nils])))]) (.seq (.ops [.i (.bse 6),qm 3 6]) (.seq (.seq (.ops [qm 7 0,qn 8 7, .i (.mov 9 (qi 0))]) (.block 0 (.loop [18,17,16,15,14,13,12,11,10,5] (.seq (.ops [qd 10 .lss 9 8]) (.seq (.cond (.s 10) .skip (.exit 0)) (.seq (.block 1 (.seq (.ops [.i (.iad 11 (.s 7) (.s 9) 1), .i (.ldh 12 (.s 11) 1 false),qm 5 12]) (.ops [qm 13 3,qm 14 5,qk 16 115 14, .i (.lsl 16 1 1 [.nils] [(0,1,(.s 15))]), .i (.app 17 22 1 24 (.s 13) (.s 16)),qm 3 17]))) (.ops [.i (.bin 18 .add (.s 9) (qi 1)),qm 9 18]))))))) (.seq (.ops [qm 19 3,qm 2 19]) .ret))))⟩
theorem sR:cd kM=some lz:=by kernel_rfl
theorem zh (l:List Bytes) (hw:Aw l):VC cd kM (bf [(false,[.sl (mn l)])]) (fun rs _=>rs= [(false,[.o true (some (22,1)) (mn l)])]):=by
 obtain⟨w1,w2⟩:=hw
 simp only[Sz]at w1 w2
 refine aa sR rfl ?_
 simp(disch:=omega) [lz,bJ,VY]
 refine aI (σ:=Nat×Nat) (f1:=_) (es0:=_) (by simp(disch:=omega) [VY];rfl) (by simp(disch:=omega) [VY];rfl) (fun p=> [(9, .val false [.int .i64 p.1]),(3, .val false [.ow 6 p.2])]) (fun p=> [(6, .sl p.2 true true (some (22,1)) (mn (l.take p.1)))])
  (fun p g=>g+p.1=l.length) (0,1) l.length (by simp(disch:=omega) [VY]) (by simp(disch:=omega) [mn,VY]) (by omega) ?_
 rintro⟨i,v⟩ n g hg
 simp only at hg
 simp(disch:=omega) [VY]
 refine ab (fun h1=> ?_) (fun h1=> ?_)
 ·have hx:i < l.length:=by omega
  simp(disch:=omega) [fB hx,VY]
  refine aj (bX l[i] (by have:=w2 _ (List.getElem_mem hx);omega)) rfl rfl ?_
  have hl:(mn (l.take i)).length=i:=by rw[bJ];simp;omega
  simp(disch:=omega) [hl,yR hx,VY]
  exact⟨i+1,n+1,g - 1,by omega,by omega,⟨by omega,by omega⟩,by omega,rfl⟩
 ·simp(disch:=omega) [VY]
  have:i=l.length:=by omega
  subst this
  rw[List.take_length]
def Qc.o (q:Qc):List E:= [.p (.int .i64 q.view), .p (.int .i64 q.height), .o true (some (5,1)) (bytes q.block), .o true (some (5,1)) (bytes q.bits), .o true (some (22,1)) (mn q.tags)]
def Qc.wc (q:Qc):Prop:=q.wf∧∀x∈q.tags,Sz x.length
theorem Qc.wc.t {q:Qc} (h:q.wc):Aw q.tags:=⟨h.1.2.2.2.2,h.2⟩
abbrev hY:Nat:=133
def gL:AF:=⟨1,5,[.cell 2 5 true],(.seq (.ops [.i (.lbox 1 (.s 0)), .i (.lal 2 [.int .i64 0, .int .i64 0, .nils, .nils, .nils])]) (.seq (.ops [qf 3 1 0,ql 4 1 3 1 false,qf 5 1 1,ql 6 1 5 1 false,qf 7 1 2,ql 8 1 7 1 false,qk 10 60 8,qf 10 1 3,ql 11 1 10 1 false,qk 13 60 11,qf 13 1 4,ql 14 1 13 1 false,qk 16 220 14, .i (.bld 16 [.int .i64 0, .int .i64 0, .nils, .nils, .nils] [(0,1,(.s 4)),(1,1,(.s 6)),(2,1,(.s 9)),(3,1,(.s 12)),(4,1,(.s 15))]),qs 2 2 16 5]) .ret))⟩
theorem pf:cd hY=some gL:=by kernel_rfl
theorem wg (q:Qc) (hw:q.wc):VC cd hY (bf [(true,q.c)]) (fun rs _=>rs= [(true,q.o)]):=by
 have ht:=hw.t
 obtain⟨⟨w1,w2,w3,w4,w5⟩,w6⟩:=hw
 simp only[Sz]at w3 w4
 refine aa pf rfl ?_
 simp(disch:=omega) [gL,Qc.c,VY]
 refine aj (bm _ (by omega)) rfl rfl ?_
 simp(disch:=omega) [VY]
 refine aj (bm _ (by omega)) rfl rfl ?_
 simp(disch:=omega) [VY]
 refine aj (yC _ ht) rfl rfl ?_
 simp(disch:=omega) [Qc.o,VY]
abbrev kd:Nat:=145
def lj:AF:=⟨1,5,[.cell 2 5 true],(.seq (.ops [.i (.lbox 1 (.s 0)), .i (.lal 2 [.int .i64 0, .int .i64 0, .nils, .nils, .nils])]) (.seq (.ops [qf 3 1 0,ql 4 1 3 1 false,qf 5 1 1,ql 6 1 5 1 false,qf 7 1 2,ql 8 1 7 1 false,qk 10 115 8,qf 10 1 3,ql 11 1 10 1 false,qk 13 115 11,qf 13 1 4,ql 14 1 13 1 false,qk 16 225 14, .i (.bld 16 [.int .i64 0, .int .i64 0, .nils, .nils, .nils] [(0,1,(.s 4)),(1,1,(.s 6)),(2,1,(.s 9)),(3,1,(.s 12)),(4,1,(.s 15))]),qs 2 2 16 5]) .ret))⟩
theorem sy:cd kd=some lj:=by kernel_rfl
theorem zA (q:Qc) (hw:q.wc):VC cd kd (bf [(true,q.c)]) (fun rs _=>rs= [(true,q.o)]):=by
 have ht:=hw.t
 obtain⟨⟨w1,w2,w3,w4,w5⟩,w6⟩:=hw
 simp only[Sz]at w3 w4
 refine aa sy rfl ?_
 simp(disch:=omega) [lj,Qc.c,VY]
 refine aj (bX _ (by omega)) rfl rfl ?_
 simp(disch:=omega) [VY]
 refine aj (bX _ (by omega)) rfl rfl ?_
 simp(disch:=omega) [VY]
 refine aj (zh _ ht) rfl rfl ?_
 simp(disch:=omega) [Qc.o,VY]
def Head.o (h:Head):List E:= [.p (.int .i64 h.view), .p (.int .i64 h.height), .p (.int .i64 h.proposer), .o true (some (5,1)) (bytes h.parent), .o true (some (5,1)) (bytes h.root), .p (.int .i64 h.qc.view), .p (.int .i64 h.qc.height), .o true (some (5,1)) (bytes h.qc.block), .o true (some (5,1)) (bytes h.qc.bits), .o true (some (22,1)) (mn h.qc.tags)]
def Head.wc (h:Head):Prop:=h.wf∧∀x∈h.qc.tags,Sz x.length
abbrev fm:Nat:=54
def fg:AF:=⟨1,5,[.cell 2 10 true],(.seq (.ops [.i (.lbox 1 (.s 0)), .i (.lal 2 qz)]) (.seq (.ops [qf 3 1 0,ql 4 1 3 1 false,qf 5 1 1,ql 6 1 5 1 false,qf 7 1 2,ql 8 1 7 1 false,qf 9 1 3,ql 10 1 9 1 false,qk 12 60 10,qf 12 1 4,ql 13 1 12 1 false,qk 15 60 13,qf 15 1 5,ql 16 1 15 5 true,qk 18 133 16, .i (.bld 18 qz [(0,1,(.s 4)),(1,1,(.s 6)),(2,1,(.s 8)),(3,1,(.s 11)),(4,1,(.s 14)),(5,5,(.s 17))]),qs 2 2 18 10]) .ret))⟩
theorem nE:cd fm=some fg:=by kernel_rfl
theorem tY (h:Head) (hw:h.wc):VC cd fm (bf [(true,h.c)]) (fun rs _=>rs= [(true,h.o)]):=by
 obtain⟨⟨w1,w2,w3,w4,w5,w6⟩,w7⟩:=hw
 simp only[Sz]at w4 w5
 refine aa nE rfl ?_
 simp(disch:=omega) [fg,Head.c,VY]
 refine aj (bm _ (by omega)) rfl rfl ?_
 simp(disch:=omega) [VY]
 refine aj (bm _ (by omega)) rfl rfl ?_
 simp(disch:=omega) [VY]
 refine aj (wg h.qc ⟨w6,w7⟩) rfl rfl ?_
 simp(disch:=omega) [Head.o,Qc.o,VY]
abbrev ku:Nat:=68
def jV:AF:=⟨1,5,[.cell 2 10 true],(.seq (.ops [.i (.lbox 1 (.s 0)), .i (.lal 2 qz)]) (.seq (.ops [qf 3 1 0,ql 4 1 3 1 false,qf 5 1 1,ql 6 1 5 1 false,qf 7 1 2,ql 8 1 7 1 false,qf 9 1 3,ql 10 1 9 1 false,qk 12 115 10,qf 12 1 4,ql 13 1 12 1 false,qk 15 115 13,qf 15 1 5,ql 16 1 15 5 true,qk 18 145 16, .i (.bld 18 qz [(0,1,(.s 4)),(1,1,(.s 6)),(2,1,(.s 8)),(3,1,(.s 11)),(4,1,(.s 14)),(5,5,(.s 17))]),qs 2 2 18 10]) .ret))⟩
theorem tO:cd ku=some jV:=by kernel_rfl
theorem zG (h:Head) (hw:h.wc):VC cd ku (bf [(true,h.c)]) (fun rs _=>rs= [(true,h.o)]):=by
 obtain⟨⟨w1,w2,w3,w4,w5,w6⟩,w7⟩:=hw
 simp only[Sz]at w4 w5
 refine aa tO rfl ?_
 simp(disch:=omega) [jV,Head.c,VY]
 refine aj (bX _ (by omega)) rfl rfl ?_
 simp(disch:=omega) [VY]
 refine aj (bX _ (by omega)) rfl rfl ?_
 simp(disch:=omega) [VY]
 refine aj (zA h.qc ⟨w6,w7⟩) rfl rfl ?_
 simp(disch:=omega) [Head.o,Qc.o,VY]
end Go.Eng.F
namespace Go.Eng.F
open Go.Eng.U (wv ak br iC)
theorem nB {n:Int} (h:IntKind.i64.min≤n∧n≤IntKind.i64.max):tQ n:=by
 have h1:IntKind.i64.min= -9223372036854775808:=rfl
 have h2:IntKind.i64.max=9223372036854775807:=rfl
 unfold tQ
 omega
theorem nI {n:Int} (h:tQ n):aG (.int .i64) (.i n):=by
 have h1:IntKind.i64.min= -9223372036854775808:=rfl
 have h2:IntKind.i64.max=9223372036854775807:=rfl
 unfold tQ at h
 simp only[aG]
 omega
theorem hU:maxLen=9223372036854775807:=rfl
theorem eH (l:List Bytes):enc (.sl (.sl (.int .u8))) (pM l)= [.sl (mn l)]:=Fh l
theorem eT (k:IntKind) (n:Int):enc (.int k) (.i n)= [.int k n]:=rfl
theorem ia (b:Bool):enc .bool (.b b)= [.bool b]:=rfl
theorem gh (ts:List Ty) (vs:List Tv):enc (.st ts) (.r vs)=nS ts vs:=rfl
theorem cX (t:Ty) (ts:List Ty) (v:Tv) (vs:List Tv):nS (t::ts) (v::vs)=enc t v++nS ts vs:=rfl
theorem dA:nS [] []= []:=rfl
theorem zQ (t:Ty) (xs:List Tv):enc (.sl t) (.l xs)= [.sl (xs.map (enc t))]:=rfl
theorem bN {t:Ty} {ts:List Ty} {v:Tv} {vs:List Tv}:cS (t::ts) (v::vs)↔aG t v∧cS ts vs:=by simp only[cS]
theorem iP:cS [] []↔True:=by simp only[cS]
theorem dZ {ts:List Ty} {vs:List Tv}:aG (.st ts) (.r vs)↔cS ts vs:=by simp only[aG]
theorem ok_int {k:IntKind} {n:Int}:aG (.int k) (.i n)↔k.min≤n∧n≤k.max:=by simp only[aG]
theorem A8 {t:Ty} {xs:List Tv}:aG (.sl t) (.l xs)↔xs.length≤maxLen∧∀x∈xs,aG t x:=by simp only[aG]
theorem vg {x:Bytes} (h:wt (xo x)≤1048576):Sz x.length:=by rw[F8]at h;unfold Sz;omega
theorem CS {l:List Bytes} (h:wt (pM l)≤1048576):Sz l.length∧∀x∈l,Sz x.length:=by
 obtain⟨h1,h2⟩:=Hu l
 unfold Sz
 exact⟨by omega,fun x hx=>by have:=h2 x hx;omega⟩
theorem vC {x:Bytes} (h:Sz x.length):aG (.sl (.int .u8)) (xo x):=F1 (by unfold Sz at h;rw[hU];omega)
theorem DL {l:List Bytes} (h:Sz l.length) (h2:∀x∈l,Sz x.length):aG (.sl (.sl (.int .u8))) (pM l):=Hk (by unfold Sz at h;rw[hU];omega) fun x hx=>by have:=h2 x hx;unfold Sz at this;rw[hU];omega
theorem oc (l:List Int):enc (.sl (.int .i64)) (Gb l)= [.sl (l.map fun n=> [.int .i64 n])]:=by
 simp only[Gb,zQ,List.map_map]
 congr 2
theorem lJ (s:ByteArray):enc .str (.s s)= [.str s]:=rfl
def bA.tv (l:bA):Tv:= .r [.i l.n, .i l.tx, .i l.txs, .i l.frame, .i l.heads]
theorem bA.enc (l:bA):enc br l.tv=l.c:=rfl
theorem bA.ex {v:Tv} (h:aG br v):∃l:bA,v=l.tv:=by
 obtain⟨vs,rfl,h⟩:=h.st
 obtain⟨v0,_,rfl,h0,h⟩:=h.step
 obtain⟨v1,_,rfl,h1,h⟩:=h.step
 obtain⟨v2,_,rfl,h2,h⟩:=h.step
 obtain⟨v3,_,rfl,h3,h⟩:=h.step
 obtain⟨v4,_,rfl,h4,h⟩:=h.step
 obtain rfl:=h.fin
 obtain⟨n0,rfl,_⟩:=h0.int
 obtain⟨n1,rfl,_⟩:=h1.int
 obtain⟨n2,rfl,_⟩:=h2.int
 obtain⟨n3,rfl,_⟩:=h3.int
 obtain⟨n4,rfl,_⟩:=h4.int
 exact⟨⟨n0,n1,n2,n3,n4⟩,rfl⟩
def Qc.tv (q:Qc):Tv:= .r [.i q.view, .i q.height,xo q.block,xo q.bits,pM q.tags]
theorem Qc.enc (q:Qc):enc wv q.tv=q.c:=by simp only[Qc.tv,gh,cX,dA,eT,iM,eH,Qc.c,List.cons_append,List.nil_append]
theorem Qc.ex {v:Tv} (h:aG wv v):∃q:Qc,v=q.tv:=by
 obtain⟨vs,rfl,h⟩:=h.st
 obtain⟨v0,_,rfl,h0,h⟩:=h.step
 obtain⟨v1,_,rfl,h1,h⟩:=h.step
 obtain⟨v2,_,rfl,h2,h⟩:=h.step
 obtain⟨v3,_,rfl,h3,h⟩:=h.step
 obtain⟨v4,_,rfl,h4,h⟩:=h.step
 obtain rfl:=h.fin
 obtain⟨n0,rfl,_⟩:=h0.int
 obtain⟨n1,rfl,_⟩:=h1.int
 obtain⟨n2,rfl⟩:=nz h2
 obtain⟨n3,rfl⟩:=nz h3
 obtain⟨n4,rfl⟩:=AW h4
 exact⟨⟨n0,n1,n2,n3,n4⟩,rfl⟩
theorem Qc.of {q:Qc} (h:aG wv q.tv) (hw:wt q.tv≤1048576):q.wc:=by
 simp only[Qc.tv,dZ,bN,ok_int]at h
 simp only[Qc.tv,wt,cW]at hw
 obtain⟨h0,h1,_⟩:=h
 have h4:=CS (l:=q.tags) (by omega)
 exact⟨⟨nB h0,nB h1,vg (by omega),vg (by omega),h4.1⟩,h4.2⟩
theorem Qc.wc.tok {q:Qc} (h:q.wc):aG wv q.tv:=by
 obtain⟨⟨h0,h1,h2,h3,h4⟩,h5⟩:=h
 simp only[Qc.tv,dZ,bN]
 exact⟨nI h0,nI h1,vC h2,vC h3,DL h4 h5,iP.2 trivial⟩
theorem Qc.rs (q:Qc):vy q.o (Go.Eng.enc wv q.tv):=by
 rw[Qc.enc]
 simp only[Qc.o,Qc.c,vy,D.leaf,and_self]
def Head.tv (h:Head):Tv:= .r [.i h.view, .i h.height, .i h.proposer,xo h.parent,xo h.root,h.qc.tv]
theorem Head.enc (h:Head):enc ak h.tv=h.c:=by simp only[Head.tv,Qc.enc,gh,cX,dA,eT,iM,eH,Head.c,Qc.c,List.cons_append,List.nil_append]
theorem Head.ex {v:Tv} (h:aG ak v):∃q:Head,v=q.tv:=by
 obtain⟨vs,rfl,h⟩:=h.st
 obtain⟨v0,_,rfl,h0,h⟩:=h.step
 obtain⟨v1,_,rfl,h1,h⟩:=h.step
 obtain⟨v2,_,rfl,h2,h⟩:=h.step
 obtain⟨v3,_,rfl,h3,h⟩:=h.step
 obtain⟨v4,_,rfl,h4,h⟩:=h.step
 obtain⟨v5,_,rfl,h5,h⟩:=h.step
 obtain rfl:=h.fin
 obtain⟨n0,rfl,_⟩:=h0.int
 obtain⟨n1,rfl,_⟩:=h1.int
 obtain⟨n2,rfl,_⟩:=h2.int
 obtain⟨n3,rfl⟩:=nz h3
 obtain⟨n4,rfl⟩:=nz h4
 obtain⟨n5,rfl⟩:=Qc.ex h5
 exact⟨⟨n0,n1,n2,n3,n4,n5⟩,rfl⟩
theorem Head.of {q:Head} (h:aG ak q.tv) (hw:wt q.tv≤1048576):q.wc:=by
 simp only[Head.tv,dZ,bN]at h
 simp only[Head.tv,wt,cW]at hw
 obtain⟨h0,h1,h2,_,_,h5,_⟩:=h
 have h4:=Qc.of h5 (by omega)
 exact⟨⟨nB (ok_int.1 h0),nB (ok_int.1 h1),nB (ok_int.1 h2),vg (by omega),vg (by omega),h4.1⟩,h4.2⟩
theorem Head.wc.tok {q:Head} (h:q.wc):aG ak q.tv:=by
 obtain⟨⟨h0,h1,h2,h3,h4,h5⟩,h6⟩:=h
 simp only[Head.tv,dZ,bN]
 exact⟨nI h0,nI h1,nI h2,vC h3,vC h4,Qc.wc.tok ⟨h5,h6⟩,iP.2 trivial⟩
theorem Head.rs (q:Head):vy q.o (Go.Eng.enc ak q.tv):=by
 rw[Head.enc]
 simp only[Head.o,Head.c,vy,D.leaf,and_self]
def fw (l:List Head):Tv:= .l (l.map Head.tv)
theorem f9 (l:List Head):enc (.sl ak) (fw l)= [.sl (iO l)]:=by
 simp only[fw,zQ,List.map_map,iO]
 congr 2
 exact List.map_congr_left fun x _=>Head.enc x
theorem rN {v:Tv} (h:aG (.sl ak) v):∃l,v=fw l:=by
 obtain⟨xs,rfl,_,h2⟩:=h.sl
 obtain⟨ys,rfl⟩:=oN (f:=Head.tv) (P:=aG ak) (fun v hv=>Head.ex hv) h2
 exact⟨ys,rfl⟩
theorem wy {l:List Head} (h:aG (.sl ak) (fw l)) (hw:wt (fw l)≤1048576):Sz l.length∧∀x∈l,x.wc:=by
 unfold fw at h hw
 rw[FA]at hw
 have h2:=(A8.1 h).2
 simp only[List.length_map]at hw
 refine⟨by unfold Sz;omega,fun x hx=>Head.of (h2 _ (List.mem_map_of_mem hx)) ?_⟩
 have:=rP (f:=Head.tv) hx
 omega
def Proof.tv (p:Proof):Tv:= .r [fw p.heads,p.qc.tv]
theorem Proof.enc (p:Proof):enc iC p.tv=p.c:=by simp only[Proof.tv,Qc.enc,f9,gh,cX,dA,eT,Proof.c,Qc.c,List.cons_append,List.nil_append]
theorem Proof.ex {v:Tv} (h:aG iC v):∃q:Proof,v=q.tv:=by
 obtain⟨vs,rfl,h⟩:=h.st
 obtain⟨v0,_,rfl,h0,h⟩:=h.step
 obtain⟨v1,_,rfl,h1,h⟩:=h.step
 obtain rfl:=h.fin
 obtain⟨n0,rfl⟩:=rN h0
 obtain⟨n1,rfl⟩:=Qc.ex h1
 exact⟨⟨n0,n1⟩,rfl⟩
theorem Proof.of {q:Proof} (h:aG iC q.tv) (hw:wt q.tv≤1048576):q.wf∧(∀h∈q.heads,h.wc)∧q.qc.wc:=by
 simp only[Proof.tv,dZ,bN]at h
 simp only[Proof.tv,wt,cW]at hw
 obtain⟨h0,h1,_⟩:=h
 have h4:=Qc.of h1 (by omega)
 have h5:=wy h0 (by omega)
 exact⟨⟨⟨h5.1,fun h hh=>(h5.2 h hh).1⟩,h4.1⟩,h5.2,h4⟩
theorem _root_.Go.Eng.df.IL {h:H} {T:Ty} {v:Tv} {al:List (Ty×Tv)} {ms:List (Bool×List C)} (ha:df h ((T,v)::al) ms):aG T v∧∃mr,df h al mr:=by
 obtain⟨cs,mr,rfl,⟨S,h1⟩,h2⟩:=ha
 exact⟨h1.ok,mr,h2⟩
def Jy (h:H) (ts:List (Ty×Tv)) (r:V) (h':H):Prop:=∃t css S,h'=h++t∧r=cH css∧AP h' ts css S∧bW h' S∧∀i∈S,h.length≤i
end Go.Eng.F
namespace Go.Eng.F
open Go.Eng.U (wv ak br iC cg TTable nu qH)
structure Row where
 weight:Int
 key:Bytes
def Row.c (r:Row):List D:= [.int .i64 r.weight, .sl (bytes r.key)]
def Row.wf (r:Row):Prop:=tQ r.weight∧Sz r.key.length
structure Table where
 rows:List Row
def rws (l:List Row):List (List D):=l.map Row.c
theorem cq (l:List Row):(rws l).length=l.length:=by simp[rws]
theorem fP {l:List Row} {i:Nat} (h:i < l.length):(rws l)[i]? =some [.int .i64 l[i].weight, .sl (bytes l[i].key)]:=by simp[rws,h,Row.c]
def Table.c (t:Table):List D:= [.sl (rws t.rows)]
def Table.wf (t:Table):Prop:=Sz t.rows.length∧∀r∈t.rows,r.wf
def hG (r:Row):Bool:=ml r.weight 1 1099511627776 && ml r.key.length 1 64
def bU (t:Table):Bool:=t.rows.all hG && ml t.rows.length 1 10
theorem A4 {t:Table} (h:∀x∈t.rows.take t.rows.length,hG x=true):bU t=ml t.rows.length 1 10:=by
 rw[List.take_length]at h
 simp only[bU,List.all_eq_true.2 h,Bool.true_and]
theorem rM {t:Table} {i:Nat} (hi:i < t.rows.length) (h:hG t.rows[i]=false):bU t=false:=by
 have:t.rows.all hG=false:=List.all_eq_false.2 ⟨t.rows[i],List.getElem_mem hi,by simp[h]⟩
 simp[bU,this]
abbrev kj:Nat:=135
def jT:AF:=⟨1,5,[.tmp 2],(.seq (.ops [.i (.lbox 1 (.s 0)), .i (.mov 2 (qb false))]) (.seq (.seq (.ops [qf 5 1 0,ql 6 1 5 1 false,qn 7 6, .i (.mov 8 (qi 0))]) (.block 0 (.loop [23,22,21,20,19,18,17,16,15,14,13,12,11,10,9,4] (.seq (.ops [qd 9 .lss 8 7]) (.seq (.cond (.s 9) .skip (.exit 0)) (.seq (.block 1 (.seq (.ops [.i (.iad 10 (.s 6) (.s 8) 2), .i (.ldh 11 (.s 10) 2 true), .i (.lal 4 [.int .i64 0, .nils]),qs 4 4 11 2]) (.seq (.ops [qf 12 4 0,ql 13 4 12 1 false, .i (.call 15 62 false [(.s 13),(qi 1),(qi 1099511627776)]), .i (.not 15 (.s 14)),qm 16 15, .g 16 false 18 (.fad 17 (.s 4) 1), .g 16 false 19 (.ldl 18 4 (.s 17) 1 false), .g 16 false 20 (.len 19 false (.s 18)), .g 16 false 21 (.call 21 62 false [(.s 19),(qi 1),(qi 64)]), .g 16 false 22 (.not 21 (.s 20)), .i (.pick 22 (.s 16) (qb true) (.s 21))]) (.cond (.s 22) (.seq (.ops [.i (.mov 2 (qb false))]) .ret) .skip)))) (.ops [.i (.bin 23 .add (.s 8) (qi 1)),qm 8 23]))))))) (.seq (.ops [qf 24 1 0,ql 25 1 24 1 false,qn 26 25, .i (.call 28 62 false [(.s 26),(qi 1),(qi 10)]),qm 2 27]) .ret)))⟩
theorem tl:cd kj=some jT:=by kernel_rfl
theorem ck (t:Table) (hw:t.wf):VC cd kj (bf [(true,t.c)]) (fun rs _=>rs=bl (bU t)):=by
 obtain⟨w1,w2⟩:=hw
 simp only[Sz]at w1
 refine aa tl rfl ?_
 simp(disch:=omega) [jT,Table.c,cq,VY]
 refine aI (σ:=Nat) (f1:=_) (es0:=_) (by simp(disch:=omega) [VY];rfl) (by simp(disch:=omega) [VY];rfl) (fun i=> [(8, .val false [.int .i64 i])]) (fun _=> []) (fun i g=>g+i=t.rows.length∧∀x∈t.rows.take i,hG x=true) 0 t.rows.length (by simp(disch:=omega) [VY]) (by simp(disch:=omega) [VY]) ⟨by omega,by simp⟩ ?_
 rintro i n g ⟨hg,hi⟩
 simp(disch:=omega) [VY]
 refine ab (fun h1=> ?_) (fun h1=> ?_)
 ·have hx:i < t.rows.length:=by omega
  have w3:=(w2 _ (List.getElem_mem hx)).2
  simp only[Sz]at w3
  simp(disch:=omega) [fP hx,VY]
  refine aj (bz _ _ _) rfl rfl ?_
  simp(disch:=omega) [VY]
  refine av (fun h2=> ?_) (fun h2=> ?_)
  ·simp(disch:=omega) [h2,VY]
   refine aj (bz _ _ _) rfl rfl ?_
   simp(disch:=omega) [h2,VY]
   refine av (fun h3=> ?_) (fun h3=> ?_)
   ·simp(disch:=omega) [h2,h3,VY]
    exact⟨i+1,g - 1,by omega,⟨by omega,aV hi hx (by simp[hG,h2,h3])⟩,by simp⟩
   ·simp(disch:=omega) [h2,h3,VY]
    exact rM hx (by simp[hG,h2,h3])
  ·simp(disch:=omega) [h2,VY]
   exact rM hx (by simp[hG,h2])
 ·simp(disch:=omega) [cq,VY]
  have:i=t.rows.length:=by omega
  subst this
  refine aj (bz _ _ _) rfl rfl ?_
  simp(disch:=omega) [A4 hi,VY]
abbrev jS:Nat:=200
def kZ:AF:=⟨1,5,[.tmp 2],(.seq (.ops [.i (.lbox 1 (.s 0)), .i (.mov 2 (qb false))]) (.seq (.seq (.ops [qf 5 1 0,ql 6 1 5 1 false,qn 7 6, .i (.mov 8 (qi 0))]) (.block 0 (.loop [23,22,21,20,19,18,17,16,15,14,13,12,11,10,9,4] (.seq (.ops [qd 9 .lss 8 7]) (.seq (.cond (.s 9) .skip (.exit 0)) (.seq (.block 1 (.seq (.ops [.i (.iad 10 (.s 6) (.s 8) 2), .i (.ldh 11 (.s 10) 2 true), .i (.lal 4 [.int .i64 0, .nils]),qs 4 4 11 2]) (.seq (.ops [qf 12 4 0,ql 13 4 12 1 false, .i (.call 15 152 false [(.s 13),(qi 1),(qi 1099511627776)]), .i (.not 15 (.s 14)),qm 16 15, .g 16 false 18 (.fad 17 (.s 4) 1), .g 16 false 19 (.ldl 18 4 (.s 17) 1 false), .g 16 false 20 (.len 19 false (.s 18)), .g 16 false 21 (.call 21 152 false [(.s 19),(qi 1),(qi 64)]), .g 16 false 22 (.not 21 (.s 20)), .i (.pick 22 (.s 16) (qb true) (.s 21))]) (.cond (.s 22) (.seq (.ops [.i (.mov 2 (qb false))]) .ret) .skip)))) (.ops [.i (.bin 23 .add (.s 8) (qi 1)),qm 8 23]))))))) (.seq (.ops [qf 24 1 0,ql 25 1 24 1 false,qn 26 25,qk 28 199 26,qm 2 27]) .ret)))⟩
theorem tU:cd jS=some kZ:=by kernel_rfl
theorem cj (t:Table) (hw:t.wf):VC cd jS (bf [(true,t.c)]) (fun rs _=>rs=bl (bU t)):=by
 obtain⟨w1,w2⟩:=hw
 simp only[Sz]at w1
 refine aa tU rfl ?_
 simp(disch:=omega) [kZ,Table.c,cq,VY]
 refine aI (σ:=Nat) (f1:=_) (es0:=_) (by simp(disch:=omega) [VY];rfl) (by simp(disch:=omega) [VY];rfl) (fun i=> [(8, .val false [.int .i64 i])]) (fun _=> []) (fun i g=>g+i=t.rows.length∧∀x∈t.rows.take i,hG x=true) 0 t.rows.length (by simp(disch:=omega) [VY]) (by simp(disch:=omega) [VY]) ⟨by omega,by simp⟩ ?_
 rintro i n g ⟨hg,hi⟩
 simp(disch:=omega) [VY]
 refine ab (fun h1=> ?_) (fun h1=> ?_)
 ·have hx:i < t.rows.length:=by omega
  have w3:=(w2 _ (List.getElem_mem hx)).2
  simp only[Sz]at w3
  simp(disch:=omega) [fP hx,VY]
  refine aj (cO _ _ _) rfl rfl ?_
  simp(disch:=omega) [VY]
  refine av (fun h2=> ?_) (fun h2=> ?_)
  ·simp(disch:=omega) [h2,VY]
   refine aj (cO _ _ _) rfl rfl ?_
   simp(disch:=omega) [h2,VY]
   refine av (fun h3=> ?_) (fun h3=> ?_)
   ·simp(disch:=omega) [h2,h3,VY]
    exact⟨i+1,g - 1,by omega,⟨by omega,aV hi hx (by simp[hG,h2,h3])⟩,by simp⟩
   ·simp(disch:=omega) [h2,h3,VY]
    exact rM hx (by simp[hG,h2,h3])
  ·simp(disch:=omega) [h2,VY]
   exact rM hx (by simp[hG,h2])
 ·simp(disch:=omega) [cq,VY]
  have:i=t.rows.length:=by omega
  subst this
  refine aj (dJ _) rfl rfl ?_
  simp(disch:=omega) [A4 hi,VY]
def og (l:bA) (t:Table):Bool:=l.ok && bU t && decide ((t.rows.length:Int)=l.n)
abbrev jW:Nat:=55
def kD:AF:=⟨2,5,[.tmp 4],(.seq (.ops [.i (.lbox 2 (.s 0)), .i (.lbox 3 (.s 1)), .i (.mov 4 (qb false))]) (.seq (.ops [ql 5 2 2 5 true,qk 7 134 5,qm 7 6, .g 7 true 9 (.ldl 8 3 (.s 3) 1 true), .g 7 true 10 (.call 10 135 false [(.s 8)]), .i (.pick 10 (.s 7) (.s 9) (qb false)),qm 11 10, .g 11 true 13 (.fad 12 (.s 3) 0), .g 11 true 14 (.ldl 13 3 (.s 12) 1 false), .g 11 true 15 (.len 14 false (.s 13)), .g 11 true 16 (.fad 15 (.s 2) 0), .g 11 true 17 (.ldl 16 2 (.s 15) 1 false), .g 11 true 18 (.bin 17 .eql (.s 14) (.s 16)), .i (.pick 18 (.s 11) (.s 17) (qb false)),qm 4 18]) .ret))⟩
theorem si:cd jW=some kD:=by kernel_rfl
theorem zV (l:bA) (t:Table) (hw:t.wf):VC cd jW (bf [(true,l.c),(true,t.c)]) (fun rs _=>rs=bl (og l t)):=by
 have w1:=hw.1
 simp only[Sz]at w1
 refine aa si rfl ?_
 simp(disch:=omega) [kD,bA.c,Table.c,VY]
 refine aj (ek l) rfl rfl ?_
 simp(disch:=omega) [VY]
 refine av (fun h1=> ?_) (fun h1=> ?_) <;>simp(disch:=omega) [h1,og,VY]
 refine aj (ck t hw) rfl rfl ?_
 simp(disch:=omega) [h1,VY]
 refine av (fun h2=> ?_) (fun h2=> ?_) <;>simp(disch:=omega) [h1,h2,cq,VY]
abbrev kB:Nat:=117
def kx:AF:=⟨2,5,[.tmp 4],(.seq (.ops [.i (.lbox 2 (.s 0)), .i (.lbox 3 (.s 1)), .i (.mov 4 (qb false))]) (.seq (.ops [ql 5 2 2 5 true,qk 7 142 5,qm 7 6, .g 7 true 9 (.ldl 8 3 (.s 3) 1 true), .g 7 true 10 (.call 10 200 false [(.s 8)]), .i (.pick 10 (.s 7) (.s 9) (qb false)),qm 11 10, .g 11 true 13 (.fad 12 (.s 2) 0), .g 11 true 14 (.ldl 13 2 (.s 12) 1 false), .g 11 true 15 (.fad 14 (.s 3) 0), .g 11 true 16 (.ldl 15 3 (.s 14) 1 false), .g 11 true 17 (.len 16 false (.s 15)), .g 11 true 18 (.bin 17 .eql (.s 13) (.s 16)), .i (.pick 18 (.s 11) (.s 17) (qb false)),qm 4 18]) .ret))⟩
theorem sk:cd kB=some kx:=by kernel_rfl
theorem zH (l:bA) (t:Table) (hw:t.wf):VC cd kB (bf [(true,l.c),(true,t.c)]) (fun rs _=>rs=bl (og l t)):=by
 have w1:=hw.1
 simp only[Sz]at w1
 refine aa sk rfl ?_
 simp(disch:=omega) [kx,bA.c,Table.c,VY]
 refine aj (dm l) rfl rfl ?_
 simp(disch:=omega) [VY]
 refine av (fun h1=> ?_) (fun h1=> ?_) <;>simp(disch:=omega) [h1,og,VY]
 refine aj (cj t hw) rfl rfl ?_
 simp(disch:=omega) [h1,VY]
 refine av (fun h2=> ?_) (fun h2=> ?_) <;>simp(disch:=omega) [h1,h2,cq,eq_comm,VY]
def Row.tv (x:Row):Tv:= .r [.i x.weight,xo x.key]
theorem Row.enc (x:Row):enc cg x.tv=x.c:=by simp only[Row.tv,gh,cX,dA,eT,ia,lJ,iM,eH,oc,Row.c,List.cons_append,List.nil_append,List.append_assoc]
theorem Row.ex {v:Tv} (h:aG cg v):∃x:Row,v=x.tv:=by
 obtain⟨vs,rfl,h⟩:=h.st
 obtain⟨v0,_,rfl,h0,h⟩:=h.step
 obtain⟨v1,_,rfl,h1,h⟩:=h.step
 obtain rfl:=h.fin
 obtain⟨n0,rfl,_⟩:=h0.int
 obtain⟨n1,rfl⟩:=nz h1
 exact⟨⟨n0,n1⟩,rfl⟩
theorem Row.of {x:Row} (h:aG cg x.tv) (hw:wt x.tv≤1048576):x.wf:=by
 simp only[Row.tv,dZ,bN]at h
 simp only[Row.tv,wt,cW]at hw
 obtain⟨h0,h1,_⟩:=h
 exact⟨nB (ok_int.1 h0),vg (by omega)⟩
theorem Row.wf.tok {x:Row} (h:x.wf):aG cg x.tv:=by
 simp only[Row.tv,dZ,bN]
 obtain⟨h0,h1⟩:=h
 exact⟨nI h0,vC h1,iP.2 trivial⟩
def wo (l:List Row):Tv:= .l (l.map Row.tv)
theorem FK (l:List Row):enc (.sl cg) (wo l)= [.sl (rws l)]:=by
 simp only[wo,zQ,List.map_map,rws]
 congr 2
 exact List.map_congr_left fun x _=>Row.enc x
theorem Fa {v:Tv} (h:aG (.sl cg) v):∃l,v=wo l:=by
 obtain⟨xs,rfl,_,h2⟩:=h.sl
 obtain⟨ys,rfl⟩:=oN (f:=Row.tv) (P:=aG cg) (fun v hv=>Row.ex hv) h2
 exact⟨ys,rfl⟩
theorem GU {l:List Row} (h:aG (.sl cg) (wo l)) (hw:wt (wo l)≤1048576):Sz l.length∧∀x∈l,x.wf:=by
 unfold wo at h hw
 rw[FA]at hw
 have h2:=(A8.1 h).2
 simp only[List.length_map]at hw
 refine⟨by unfold Sz;omega,fun x hx=>Row.of (h2 _ (List.mem_map_of_mem hx)) ?_⟩
 have:=rP (f:=Row.tv) hx
 omega
theorem Eg {l:List Row} (h:Sz l.length∧∀x∈l,x.wf):aG (.sl cg) (wo l):=by
 unfold wo
 refine A8.2 ⟨by have:=h.1;unfold Sz at this;rw[List.length_map,hU];omega,fun v hv=> ?_⟩
 obtain⟨x,hx,rfl⟩:=List.mem_map.1 hv
 exact(h.2 x hx).tok
def Table.tv (x:Table):Tv:= .r [wo x.rows]
theorem Table.enc (x:Table):enc TTable x.tv=x.c:=by simp only[Table.tv,FK,gh,cX,dA,eT,ia,lJ,iM,eH,oc,Table.c,List.cons_append,List.nil_append,List.append_assoc]
theorem Table.ex {v:Tv} (h:aG TTable v):∃x:Table,v=x.tv:=by
 obtain⟨vs,rfl,h⟩:=h.st
 obtain⟨v0,_,rfl,h0,h⟩:=h.step
 obtain rfl:=h.fin
 obtain⟨n0,rfl⟩:=Fa h0
 exact⟨⟨n0⟩,rfl⟩
theorem Table.of {x:Table} (h:aG TTable x.tv) (hw:wt x.tv≤1048576):x.wf:=by
 simp only[Table.tv,dZ,bN]at h
 simp only[Table.tv,wt,cW]at hw
 obtain⟨h0,_⟩:=h
 exact GU h0 (by omega)
theorem Table.wf.tok {x:Table} (h:x.wf):aG TTable x.tv:=by
 simp only[Table.tv,dZ,bN]
 have h0:=h
 exact⟨Eg h0,iP.2 trivial⟩
end Go.Eng.F
namespace Go.Eng.F
open Go.Eng.U (wv ak br iC IV pG)
def Proof.wc (p:Proof):Prop:=p.wf∧(∀h∈p.heads,h.wc)∧p.qc.wc
def Proof.o (p:Proof):List E:= [.o true (some (40,10)) (iO p.heads), .p (.int .i64 p.qc.view), .p (.int .i64 p.qc.height), .o true (some (5,1)) (bytes p.qc.block), .o true (some (5,1)) (bytes p.qc.bits), .o true (some (22,1)) (mn p.qc.tags)]
theorem tN {l:List Head} (h:Sz l.length) (h2:∀x∈l,x.wc):aG (.sl ak) (fw l):=by
 unfold fw
 refine A8.2 ⟨by unfold Sz at h;rw[List.length_map,hU];omega,fun v hv=> ?_⟩
 obtain⟨x,hx,rfl⟩:=List.mem_map.1 hv
 exact(h2 x hx).tok
theorem Proof.wc.tok {q:Proof} (h:q.wc):aG iC q.tv:=by
 simp only[Proof.tv,dZ,bN]
 exact⟨tN h.1.1.1 h.2.1,h.2.2.tok,iP.2 trivial⟩
structure Block where
 head:Head
 txs:List Bytes
def Block.c (x:Block):List D:=x.head.c++ [.sl (mn x.txs)]
def Block.wc (x:Block):Prop:=x.head.wc∧Aw x.txs
def Block.o (x:Block):List E:= [.p (.int .i64 x.head.view), .p (.int .i64 x.head.height), .p (.int .i64 x.head.proposer), .o true (some (5,1)) (bytes x.head.parent), .o true (some (5,1)) (bytes x.head.root), .p (.int .i64 x.head.qc.view), .p (.int .i64 x.head.qc.height), .o true (some (5,1)) (bytes x.head.qc.block), .o true (some (5,1)) (bytes x.head.qc.bits), .o true (some (22,1)) (mn x.head.qc.tags), .o true (some (22,1)) (mn x.txs)]
def Block.tv (x:Block):Tv:= .r [x.head.tv,pM x.txs]
theorem Block.enc (x:Block):enc pG x.tv=x.c:=by simp only[Block.tv,Head.enc,gh,cX,dA,eT,ia,lJ,iM,eH,oc,Block.c,Head.c,Head.c,Qc.c,List.cons_append,List.nil_append,List.append_assoc]
theorem Block.ex {v:Tv} (h:aG pG v):∃x:Block,v=x.tv:=by
 obtain⟨vs,rfl,h⟩:=h.st
 obtain⟨v0,_,rfl,h0,h⟩:=h.step
 obtain⟨v1,_,rfl,h1,h⟩:=h.step
 obtain rfl:=h.fin
 obtain⟨n0,rfl⟩:=Head.ex h0
 obtain⟨n1,rfl⟩:=AW h1
 exact⟨⟨n0,n1⟩,rfl⟩
theorem Block.of {x:Block} (h:aG pG x.tv) (hw:wt x.tv≤1048576):x.wc:=by
 simp only[Block.tv,dZ,bN]at h
 simp only[Block.tv,wt,cW]at hw
 obtain⟨h0,h1,_⟩:=h
 exact⟨Head.of h0 (by omega),CS (by omega)⟩
theorem Block.wc.tok {x:Block} (h:x.wc):aG pG x.tv:=by
 simp only[Block.tv,dZ,bN]
 obtain⟨h0,h1⟩:=h
 exact⟨h0.tok,DL h1.1 h1.2,iP.2 trivial⟩
end Go.Eng.F
namespace Go.Eng.F
def word (x:Int):Bool:=ml x 0 4294967295
abbrev my:Nat:=267
def mN:AF:=⟨1,3,[.tmp 2],(.seq (.ops [.i (.mov 2 (qb false))]) (.seq (.ops [qm 3 0, .i (.call 5 62 false [(.s 3),(qi 0),(qi 4294967295)]),qm 2 4]) .ret))⟩
theorem uS:cd my=some mN:=by kernel_rfl
theorem vL (x:Int):VC cd my (bf [(false,[.int .i64 x])]) (fun rs _=>rs=bl (word x)):=by
 refine aa uS rfl ?_
 simp(disch:=omega) [mN,VY]
 refine aj (bz _ _ _) rfl rfl ?_
 simp(disch:=omega) [word,VY]
abbrev lh:Nat:=281
def kJ:AF:=⟨1,3,[.tmp 2],(.seq (.ops [.i (.mov 2 (qb false))]) (.seq (.ops [qm 3 0, .i (.call 5 152 false [(.s 3),(qi 0),(qi 4294967295)]),qm 2 4]) .ret))⟩
theorem td:cd lh=some kJ:=by kernel_rfl
theorem zM (x:Int):VC cd lh (bf [(false,[.int .i64 x])]) (fun rs _=>rs=bl (word x)):=by
 refine aa td rfl ?_
 simp(disch:=omega) [kJ,VY]
 refine aj (cO _ _ _) rfl rfl ?_
 simp(disch:=omega) [word,VY]
def turn (x:Int) (n:Nat):Int:=aF .and .i64 (aF .or .i64 (x.fdiv (2 ^ n)) (IntKind.i64.wrap (x * 2 ^ (32 - n)))) 4294967295
abbrev k9:Nat:=282
def j3:AF:=⟨2,4,[.tmp 4],(.seq (.ops [.i (.mov 4 (qi 0))]) (.seq (.ops [qm 5 0,qm 6 1,qd 7 .shr 5 6,qm 8 0,qm 9 1, .i (.bin 10 .sub (qi 32) (.s 9)),qd 11 .shl 8 10,qd 12 .or 7 11, .i (.bin 13 .and (.s 12) (qi 4294967295)),qm 4 13]) .ret))⟩
theorem sH:cd k9=some j3:=by kernel_rfl
theorem cv (x:Int) (n:Nat) (hn:n≤31):VC cd k9 (bf [(false,[.int .i64 x]),(false,[.int .i64 (n:Int)])]) (fun rs _=>rs=it (turn x n)):=by
 have e0:¬(n:Int) < 0:=by omega
 have e1:min n 64=n:=by omega
 have e2:¬(32:Int) - (n:Int) < 0:=by omega
 have e3:((32:Int) - (n:Int)).toNat=32 - n:=by omega
 have e4:min (32 - n) 64=32 - n:=by omega
 refine aa sH rfl ?_
 simp(disch:=omega) [j3,turn,e0,e1,e2,e3,e4,IntKind.bits,VY]
abbrev hQ:Nat:=269
def iw:AF:=⟨2,5,[.tmp 4],(.seq (.ops [.i (.mov 4 (qi 0))]) (.seq (.seq (.ops [qm 5 0,qk 7 267 5, .i (.not 7 (.s 6)),qm 8 7, .g 8 false 10 (.mov 9 (.s 1)), .g 8 false 11 (.call 11 62 false [(.s 9),(qi 0),(qi 31)]), .g 8 false 12 (.not 11 (.s 10)), .i (.pick 12 (.s 8) (qb true) (.s 11))]) (.cond (.s 12) (.seq (.ops [.i (.mov 4 (qi 0))]) .ret) .skip)) (.seq (.ops [qm 13 0,qm 14 1,qd 15 .shr 13 14,qm 16 0,qm 17 1, .i (.bin 18 .sub (qi 32) (.s 17)),qd 19 .shl 16 18,qd 20 .or 15 19, .i (.bin 21 .and (.s 20) (qi 4294967295)),qm 4 21]) .ret)))⟩
theorem oW:cd hQ=some iw:=by kernel_rfl
theorem bI (x:Int) (n:Nat) (hn:n≤31) (hx:word x=true):VC cd hQ (bf [(false,[.int .i64 x]),(false,[.int .i64 (n:Int)])]) (fun rs _=>rs=it (turn x n)):=by
 have e0:¬(n:Int) < 0:=by omega
 have e1:min n 64=n:=by omega
 have e2:¬(32:Int) - (n:Int) < 0:=by omega
 have e3:((32:Int) - (n:Int)).toNat=32 - n:=by omega
 have e4:min (32 - n) 64=32 - n:=by omega
 have e5:ml (n:Int) 0 31=true:=by simp[ml];omega
 refine aa oW rfl ?_
 simp(disch:=omega) [iw,VY]
 refine aj (vL x) rfl rfl ?_
 simp(disch:=omega) [hx,VY]
 refine aj (bz _ _ _) rfl rfl ?_
 simp(disch:=omega) [hx,e5,turn,e0,e1,e2,e3,e4,IntKind.bits,VY]
def zc (n:Nat):Nat:=(119 - n % 64) % 64
theorem oE (n:Nat):zc n < 64∧(n+1+zc n) % 64=56:=by unfold zc;omega
def jO (n:Nat):Bytes:=(List.range 8).map fun k=>UInt8.ofNat (n / 2 ^ (8 * (7 - k)))
theorem lQ (n:Nat) {k:Nat} (h:k < 8):(jO n).take (k+1)=(jO n).take k++ [UInt8.ofNat (n / 2 ^ (8 * (7 - k)))]:=by
 rw[List.take_add_one]
 simp[jO,h]
theorem Jr (n k:Nat):IntKind.u8.wrap (Int.fdiv (n:Int) (2 ^ k))=((UInt8.ofNat (n / 2 ^ k)).toNat:Int):=by
 have e:Int.fdiv (n:Int) (2 ^ k)=((n / 2 ^ k:Nat):Int):=by
  rw[Int.fdiv_eq_ediv_of_nonneg _ (Int.pow_nonneg (by omega))]
  simp[Int.natCast_ediv,Int.natCast_pow]
 rw[e]
 simp only[UInt8.toNat_ofNat',Nat.reducePow]
 simp[IntKind.wrap,IntKind.bits,IntKind.signed]
def pad (b:Bytes):Bytes:=b++ [128]++List.replicate (zc b.length) 0++jO (8 * b.length)
abbrev m9:Nat:=218
def nc:AF:=⟨1,5,[.tmp 2],(.seq (.ops [.i (.mov 2 (.c (.val false [.nils])))]) (.seq (.ops [qm 5 0,qk 7 60 5, .i (.lsl 7 1 1 [.int .u8 0] [(0,1,(.c (.val false [.int .u8 128])))]), .i (.app 8 5 1 1 (.s 6) (.s 7)),qm 3 8]) (.seq (.block 0 (.loop [15,14,13,12,11,10,9] (.seq (.seq (.ops [qm 9 3,qn 10 9, .i (.bin 11 .rem (.s 10) (qi 64)), .i (.bin 12 .neq (.s 11) (qi 56))]) (.cond (.s 12) .skip (.exit 0))) (.block 1 (.ops [qm 13 3, .i (.lsl 14 1 1 [.int .u8 0] [(0,1,(.c (.val false [.int .u8 0])))]), .i (.app 15 5 1 1 (.s 13) (.s 14)),qm 3 15]))))) (.seq (.seq (.ops [.i (.mov 4 (qi 7))]) (.block 2 (.loop [29,28,27,26,25,24,23,22,21,20,19,18,17,16] (.seq (.seq (.ops [qm 16 4, .i (.bin 17 .geq (.s 16) (qi 0))]) (.cond (.s 17) .skip (.exit 2))) (.seq (.block 3 (.ops [qm 20 3,qm 21 0,qn 22 21, .i (.bin 23 .mul (qi 8) (.s 22)),qm 24 4, .i (.bin 25 .mul (qi 8) (.s 24)),qd 26 .shr 23 25, .i (.cvi 27 .u8 (.s 26)), .i (.lsl 28 1 1 [.int .u8 0] [(0,1,(.s 27))]), .i (.app 29 5 1 1 (.s 20) (.s 28)),qm 3 29])) (.ops [qm 18 4, .i (.bin 19 .sub (.s 18) (qi 1)),qm 4 19])))))) (.seq (.ops [qm 30 3,qm 2 30]) .ret)))))⟩
theorem uB:cd m9=some nc:=by kernel_rfl
theorem sV (b:Bytes) (hb:b.length≤1073741824):VC cd m9 (bf [(false,[.sl (bytes b)])]) (fun rs _=>rs= [(false,[.o true (some (5,1)) (bytes (pad b))])]):=by
 refine aa uB rfl ?_
 simp(disch:=omega) [nc,VY]
 refine aj (bm b (by omega)) rfl rfl ?_
 have e0:bytes b++ [[.int .u8 128]]=bytes (b++ [128]):=by simp[bytes]
 simp(disch:=omega) [e0,an,VY]
 refine aI (σ:=Nat×Nat) (f1:=_) (es0:=_) (by simp(disch:=omega) [VY];rfl) (by simp(disch:=omega) [VY];rfl) (fun p=> [(3, .val false [.ow 65536 p.2])]) (fun p=> [(65536, .sl p.2 true true (some (5,1)) (bytes (b++ [128]++List.replicate p.1 0)))])
  (fun p g=>g+p.1=zc b.length) (0,_) (zc b.length) (by simp(disch:=omega) [VY];rfl) (by simp(disch:=omega) [VY]) (by omega) ?_
 rintro⟨j,v⟩ n g hg
 simp only at hg
 have hz:=oE b.length
 have hl:(b++ [128]++List.replicate j (0:UInt8)).length=b.length+1+j:=by simp;omega
 have e1:Int.tmod ((b.length:Int)+((j:Int)+1)) 64=(((b.length+1+j) % 64:Nat):Int):=by rw[Int.tmod_eq_emod_of_nonneg (by omega)];omega
 simp only[]at *
 simp(disch:=omega) [an,hl,e1,VY]
 refine ab (fun h1=> ?_) (fun h1=> ?_)
 ·have hj:j=zc b.length:=by omega
  subst hj
  simp(disch:=omega) [an,VY]
  refine aI (σ:=Nat×Nat) (f1:=_) (es0:=_) (by simp(disch:=omega) [VY];rfl) (by simp(disch:=omega) [VY];rfl) (fun p=> [(4, .val false [.int .i64 (7 - (p.1:Int))]),(3, .val false [.ow 65536 p.2])]) (fun p=> [(65536, .sl p.2 true true (some (5,1)) (bytes (b++ [128]++List.replicate (zc b.length) 0++(jO (8 * b.length)).take p.1)))])
   (fun p g=>g+p.1=8) (0,_) 8 (by simp(disch:=omega) [VY];rfl) (by simp(disch:=omega) [VY]) (by omega) ?_
  rintro⟨k,w⟩ n g hg
  simp only at hg
  simp(disch:=omega) [VY]
  refine ab (fun h2=> ?_) (fun h2=> ?_)
  ·have hk:k < 8:=by omega
   have q1:¬(8:Int) * (7 - (k:Int)) < 0:=by omega
   have q2:((8:Int) * (7 - (k:Int))).toNat=8 * (7 - k):=by omega
   have q3:min (8 * (7 - k)) 64=8 * (7 - k):=by omega
   have q4:=Jr (8 * b.length) (8 * (7 - k))
   have q5:((8 * b.length:Nat):Int)=8 * (b.length:Int):=by omega
   rw[q5]at q4
   have q6:bytes (b++ [128]++List.replicate (zc b.length) 0++(jO (8 * b.length)).take k)++ [[.int .u8 ((UInt8.ofNat (8 * b.length / 2 ^ (8 * (7 - k)))).toNat:Int)]]=bytes (b++ [128]++List.replicate (zc b.length) 0++(jO (8 * b.length)).take (k+1)):=by
    rw[lQ _ hk,←List.append_assoc];simp only[bytes,List.map_append,List.map_cons,List.map_nil]
   have q7:(bytes (b++ [128]++List.replicate (zc b.length) 0++(jO (8 * b.length)).take k)).length=b.length+1+zc b.length+k:=by
    rw[an];simp[jO];omega
   simp(disch:=omega) [an,q1,q2,q3,q4,q6,q7,IntKind.bits,VY]
   have q8:((UInt8.ofNat (8 * b.length / 2 ^ (8 * (7 - k)))).toNat:Int)=8 * (b.length:Int) / 2 ^ (8 * (7 - k)) % 256:=by simp[UInt8.toNat_ofNat']
   exact⟨k+1,_,g - 1,by omega,by omega,⟨rfl,by omega⟩,rfl,by rw[lQ _ hk];simp[bytes,q8]⟩
  ·have hk:k=8:=by omega
   subst hk
   simp(disch:=omega) [pad,VY]
   rw[List.take_of_length_le (by simp[jO])]
 ·have e2:bytes (b++ [128]++List.replicate j (0:UInt8))++ [[.int .u8 0]]=bytes (b++ [128]++List.replicate (j+1) 0):=by rw[List.replicate_succ',←List.append_assoc];simp[bytes]
  have e3:(bytes (b++ [128]++List.replicate j (0:UInt8))).length=b.length+1+j:=by rw[an,hl]
  simp(disch:=omega) [e2,e3,VY]
  exact⟨j+1,_,g - 1,by omega,by omega,rfl,rfl,by rw[List.replicate_succ'];simp[bytes]⟩
abbrev mC:Nat:=258
def mS:AF:=⟨1,6,[.tmp 2],(.seq (.ops [.i (.mov 2 (.c (.val false [.nils])))]) (.seq (.ops [qm 6 0,qk 8 115 6, .i (.lsl 8 1 1 [.int .u8 0] [(0,1,(.c (.val false [.int .u8 128])))]), .i (.app 9 5 1 1 (.s 7) (.s 8)),qm 3 9]) (.seq (.block 0 (.loop [16,15,14,13,12,11,10] (.seq (.seq (.ops [qm 10 3,qn 11 10, .i (.bin 12 .rem (.s 11) (qi 64)), .i (.bin 13 .neq (.s 12) (qi 56))]) (.cond (.s 13) .skip (.exit 0))) (.block 1 (.ops [qm 14 3, .i (.lsl 15 1 1 [.int .u8 0] [(0,1,(.c (.val false [.int .u8 0])))]), .i (.app 16 5 1 1 (.s 14) (.s 15)),qm 3 16]))))) (.seq (.ops [qm 17 0,qn 18 17, .i (.bin 19 .mul (qi 8) (.s 18)),qm 4 19]) (.seq (.seq (.ops [.i (.mov 5 (qi 7))]) (.block 2 (.loop [31,30,29,28,27,26,25,24,23,22,21,20] (.seq (.seq (.ops [qm 20 5, .i (.bin 21 .geq (.s 20) (qi 0))]) (.cond (.s 21) .skip (.exit 2))) (.seq (.block 3 (.ops [qm 24 3,qm 25 4,qm 26 5, .i (.bin 27 .mul (qi 8) (.s 26)),qd 28 .shr 25 27, .i (.cvi 29 .u8 (.s 28)), .i (.lsl 30 1 1 [.int .u8 0] [(0,1,(.s 29))]), .i (.app 31 5 1 1 (.s 24) (.s 30)),qm 3 31])) (.ops [qm 22 5, .i (.bin 23 .sub (.s 22) (qi 1)),qm 5 23])))))) (.seq (.ops [qm 32 3,qm 2 32]) .ret))))))⟩
theorem uH:cd mC=some mS:=by kernel_rfl
theorem sj (b:Bytes) (hb:b.length≤1073741824):VC cd mC (bf [(false,[.sl (bytes b)])]) (fun rs _=>rs= [(false,[.o true (some (5,1)) (bytes (pad b))])]):=by
 refine aa uH rfl ?_
 simp(disch:=omega) [mS,VY]
 refine aj (bX b (by omega)) rfl rfl ?_
 have e0:bytes b++ [[.int .u8 128]]=bytes (b++ [128]):=by simp[bytes]
 simp(disch:=omega) [e0,an,VY]
 refine aI (σ:=Nat×Nat) (f1:=_) (es0:=_) (by simp(disch:=omega) [VY];rfl) (by simp(disch:=omega) [VY];rfl) (fun p=> [(3, .val false [.ow 73728 p.2])]) (fun p=> [(73728, .sl p.2 true true (some (5,1)) (bytes (b++ [128]++List.replicate p.1 0)))])
  (fun p g=>g+p.1=zc b.length) (0,_) (zc b.length) (by simp(disch:=omega) [VY];rfl) (by simp(disch:=omega) [VY]) (by omega) ?_
 rintro⟨j,v⟩ n g hg
 simp only at hg
 have hz:=oE b.length
 have hl:(b++ [128]++List.replicate j (0:UInt8)).length=b.length+1+j:=by simp;omega
 have e1:Int.tmod ((b.length:Int)+((j:Int)+1)) 64=(((b.length+1+j) % 64:Nat):Int):=by rw[Int.tmod_eq_emod_of_nonneg (by omega)];omega
 simp only[]at *
 simp(disch:=omega) [an,hl,e1,VY]
 refine ab (fun h1=> ?_) (fun h1=> ?_)
 ·have hj:j=zc b.length:=by omega
  subst hj
  simp(disch:=omega) [an,VY]
  refine aI (σ:=Nat×Nat) (f1:=_) (es0:=_) (by simp(disch:=omega) [VY];rfl) (by simp(disch:=omega) [VY];rfl) (fun p=> [(5, .val false [.int .i64 (7 - (p.1:Int))]),(3, .val false [.ow 73728 p.2])]) (fun p=> [(73728, .sl p.2 true true (some (5,1)) (bytes (b++ [128]++List.replicate (zc b.length) 0++(jO (8 * b.length)).take p.1)))])
   (fun p g=>g+p.1=8) (0,_) 8 (by simp(disch:=omega) [VY];rfl) (by simp(disch:=omega) [VY]) (by omega) ?_
  rintro⟨k,w⟩ n g hg
  simp only at hg
  simp(disch:=omega) [VY]
  refine ab (fun h2=> ?_) (fun h2=> ?_)
  ·have hk:k < 8:=by omega
   have q1:¬(8:Int) * (7 - (k:Int)) < 0:=by omega
   have q2:((8:Int) * (7 - (k:Int))).toNat=8 * (7 - k):=by omega
   have q3:min (8 * (7 - k)) 64=8 * (7 - k):=by omega
   have q4:=Jr (8 * b.length) (8 * (7 - k))
   have q5:((8 * b.length:Nat):Int)=8 * (b.length:Int):=by omega
   rw[q5]at q4
   have q6:bytes (b++ [128]++List.replicate (zc b.length) 0++(jO (8 * b.length)).take k)++ [[.int .u8 ((UInt8.ofNat (8 * b.length / 2 ^ (8 * (7 - k)))).toNat:Int)]]=bytes (b++ [128]++List.replicate (zc b.length) 0++(jO (8 * b.length)).take (k+1)):=by
    rw[lQ _ hk,←List.append_assoc];simp only[bytes,List.map_append,List.map_cons,List.map_nil]
   have q7:(bytes (b++ [128]++List.replicate (zc b.length) 0++(jO (8 * b.length)).take k)).length=b.length+1+zc b.length+k:=by
    rw[an];simp[jO];omega
   simp(disch:=omega) [an,q1,q2,q3,q4,q6,q7,IntKind.bits,VY]
   have q8:((UInt8.ofNat (8 * b.length / 2 ^ (8 * (7 - k)))).toNat:Int)=8 * (b.length:Int) / 2 ^ (8 * (7 - k)) % 256:=by simp[UInt8.toNat_ofNat']
   exact⟨k+1,_,g - 1,by omega,by omega,⟨rfl,by omega⟩,rfl,by rw[lQ _ hk];simp[bytes,q8]⟩
  ·have hk:k=8:=by omega
   subst hk
   simp(disch:=omega) [pad,VY]
   rw[List.take_of_length_le (by simp[jO])]
 ·have e2:bytes (b++ [128]++List.replicate j (0:UInt8))++ [[.int .u8 0]]=bytes (b++ [128]++List.replicate (j+1) 0):=by rw[List.replicate_succ',←List.append_assoc];simp[bytes]
  have e3:(bytes (b++ [128]++List.replicate j (0:UInt8))).length=b.length+1+j:=by rw[an,hl]
  simp(disch:=omega) [e2,e3,VY]
  exact⟨j+1,_,g - 1,by omega,by omega,rfl,rfl,by rw[List.replicate_succ'];simp[bytes]⟩
def gi (l:List Int) (i:Nat):Int:=l.getD i 0
def ints (l:List Int):List (List D):=l.map fun n=> [.int .i64 n]
theorem bh (l:List Int):(ints l).length=l.length:=by simp[ints]
theorem tR {l:List Int} {i:Nat} (h:i < l.length):(ints l)[i]? =some [.int .i64 (gi l i)]:=by simp[ints,gi,h]
theorem eV (l:List Int):flat (ints l)=true:=by
 induction l with
 |nil=>rfl
 |cons n l ih=>simp only[ints,List.map_cons,flat]at ih⊢;simpa[bH,D.leaf]using ih
theorem gF (l:List Int):wid 1 (ints l)=true:=by
 induction l with
 |nil=>rfl
 |cons n l ih=>simp only[ints,List.map_cons,wid]at ih⊢;simpa using ih
theorem dE {l:List Int} {i:Nat} (h:i < (ints l).length):(ints l)[i]= [.int .i64 (gi l i)]:=by simp[ints,gi]at h⊢;simp[h]
def lX (l:List Int):List D:=l.map (.int .i64)
theorem xl (l:List Int):(lX l).length=l.length:=by simp[lX]
theorem vR {l:List Int} {i:Nat} (h:i < l.length):((lX l).drop i).take 1= [.int .i64 (gi l i)]:=by
 have e:(lX l).drop i= .int .i64 (gi l i)::(lX l).drop (i+1):=by
  rw[List.drop_eq_getElem_cons (by simpa[lX]using h)]
  simp[lX,gi,h]
 rw[e];rfl
def init:List Int:= [1779033703,3144134277,1013904242,2773480762,1359893119,2600822924,528734635,1541459225]
abbrev j2:Nat:=217
def kz:AF:=⟨0,2,[.tmp 0],(.seq (.ops [.i (.mov 0 (.c (.val false [.nils])))]) (.seq (.ops [.i (.bsl 1 3 1 8 [.int .i64 0] [(0,1,(qi 1779033703)),(1,1,(qi 3144134277)),(2,1,(qi 1013904242)),(3,1,(qi 2773480762)),(4,1,(qi 1359893119)),(5,1,(qi 2600822924)),(6,1,(qi 528734635)),(7,1,(qi 1541459225))]),qm 0 1]) .ret))⟩
theorem tK:cd j2=some kz:=by kernel_rfl
theorem qQ:VC cd j2 (bf []) (fun rs _=>rs= [(false,[.o true (some (3,1)) (ints init)])]):=by
 refine aa tK rfl ?_
 simp(disch:=omega) [kz,ints,init,VY]
abbrev kv:Nat:=257
def kO:AF:=⟨0,2,[.tmp 0],(.seq (.ops [.i (.mov 0 (.c (.val false [.nils])))]) (.seq (.ops [.i (.bsl 1 3 1 8 [.int .i64 0] [(0,1,(qi 1779033703)),(1,1,(qi 3144134277)),(2,1,(qi 1013904242)),(3,1,(qi 2773480762)),(4,1,(qi 1359893119)),(5,1,(qi 2600822924)),(6,1,(qi 528734635)),(7,1,(qi 1541459225))]),qm 0 1]) .ret))⟩
theorem tu:cd kv=some kO:=by kernel_rfl
theorem rm:VC cd kv (bf []) (fun rs _=>rs= [(false,[.o true (some (3,1)) (ints init)])]):=by
 refine aa tu rfl ?_
 simp(disch:=omega) [kO,ints,init,VY]
def kk:List Int:= [1116352408,1899447441,3049323471,3921009573,961987163,1508970993,2453635748,2870763221,3624381080,310598401,607225278,1426881987,1925078388,2162078206,2614888103,3248222580,3835390401,4022224774,264347078,604807628,770255983,1249150122,1555081692,1996064986,2554220882,2821834349,2952996808,3210313671,3336571891,3584528711,113926993,338241895,666307205,773529912,1294757372,1396182291,1695183700,1986661051,2177026350,2456956037,2730485921,2820302411,3259730800,3345764771,3516065817,3600352804,4094571909,275423344,430227734,506948616,659060556,883997877,958139571,1322822218,1537002063,1747873779,1955562222,2024104815,2227730452,2361852424,2428436474,2756734187,3204031479,3329325298]
abbrev mq:Nat:=268
def nb:AF:=⟨0,2,[.tmp 0],(.seq (.ops [.i (.mov 0 (.c (.val false [.nils])))]) (.seq (.ops [.i (.bsl 1 3 1 64 [.int .i64 0] [(0,1,(qi 1116352408)),(1,1,(qi 1899447441)),(2,1,(qi 3049323471)),(3,1,(qi 3921009573)),(4,1,(qi 961987163)),(5,1,(qi 1508970993)),(6,1,(qi 2453635748)),(7,1,(qi 2870763221)),(8,1,(qi 3624381080)),(9,1,(qi 310598401)),(10,1,(qi 607225278)),(11,1,(qi 1426881987)),(12,1,(qi 1925078388)),(13,1,(qi 2162078206)),(14,1,(qi 2614888103)),(15,1,(qi 3248222580)),(16,1,(qi 3835390401)),(17,1,(qi 4022224774)),(18,1,(qi 264347078)),(19,1,(qi 604807628)),(20,1,(qi 770255983)),(21,1,(qi 1249150122)),(22,1,(qi 1555081692)),(23,1,(qi 1996064986)),(24,1,(qi 2554220882)),(25,1,(qi 2821834349)),(26,1,(qi 2952996808)),(27,1,(qi 3210313671)),(28,1,(qi 3336571891)),(29,1,(qi 3584528711)),(30,1,(qi 113926993)),(31,1,(qi 338241895)),(32,1,(qi 666307205)),(33,1,(qi 773529912)),(34,1,(qi 1294757372)),(35,1,(qi 1396182291)),(36,1,(qi 1695183700)),(37,1,(qi 1986661051)),(38,1,(qi 2177026350)),(39,1,(qi 2456956037)),(40,1,(qi 2730485921)),(41,1,(qi 2820302411)),(42,1,(qi 3259730800)),(43,1,(qi 3345764771)),(44,1,(qi 3516065817)),(45,1,(qi 3600352804)),(46,1,(qi 4094571909)),(47,1,(qi 275423344)),(48,1,(qi 430227734)),(49,1,(qi 506948616)),(50,1,(qi 659060556)),(51,1,(qi 883997877)),(52,1,(qi 958139571)),(53,1,(qi 1322822218)),(54,1,(qi 1537002063)),(55,1,(qi 1747873779)),(56,1,(qi 1955562222)),(57,1,(qi 2024104815)),(58,1,(qi 2227730452)),(59,1,(qi 2361852424)),(60,1,(qi 2428436474)),(61,1,(qi 2756734187)),(62,1,(qi 3204031479)),(63,1,(qi 3329325298))]),qm 0 1]) .ret))⟩
theorem uw:cd mq=some nb:=by kernel_rfl
theorem BO:VC cd mq (bf []) (fun rs _=>rs= [(false,[.o true (some (3,1)) (ints kk)])]):=by
 refine aa uw rfl ?_
 simp(disch:=omega) [nb,ints,kk,VY]
abbrev qG:Nat:=283
def qA:AF:=⟨0,2,[.tmp 0],(.seq (.ops [.i (.mov 0 (.c (.val false [.nils])))]) (.seq (.ops [.i (.bsl 1 3 1 64 [.int .i64 0] [(0,1,(qi 1116352408)),(1,1,(qi 1899447441)),(2,1,(qi 3049323471)),(3,1,(qi 3921009573)),(4,1,(qi 961987163)),(5,1,(qi 1508970993)),(6,1,(qi 2453635748)),(7,1,(qi 2870763221)),(8,1,(qi 3624381080)),(9,1,(qi 310598401)),(10,1,(qi 607225278)),(11,1,(qi 1426881987)),(12,1,(qi 1925078388)),(13,1,(qi 2162078206)),(14,1,(qi 2614888103)),(15,1,(qi 3248222580)),(16,1,(qi 3835390401)),(17,1,(qi 4022224774)),(18,1,(qi 264347078)),(19,1,(qi 604807628)),(20,1,(qi 770255983)),(21,1,(qi 1249150122)),(22,1,(qi 1555081692)),(23,1,(qi 1996064986)),(24,1,(qi 2554220882)),(25,1,(qi 2821834349)),(26,1,(qi 2952996808)),(27,1,(qi 3210313671)),(28,1,(qi 3336571891)),(29,1,(qi 3584528711)),(30,1,(qi 113926993)),(31,1,(qi 338241895)),(32,1,(qi 666307205)),(33,1,(qi 773529912)),(34,1,(qi 1294757372)),(35,1,(qi 1396182291)),(36,1,(qi 1695183700)),(37,1,(qi 1986661051)),(38,1,(qi 2177026350)),(39,1,(qi 2456956037)),(40,1,(qi 2730485921)),(41,1,(qi 2820302411)),(42,1,(qi 3259730800)),(43,1,(qi 3345764771)),(44,1,(qi 3516065817)),(45,1,(qi 3600352804)),(46,1,(qi 4094571909)),(47,1,(qi 275423344)),(48,1,(qi 430227734)),(49,1,(qi 506948616)),(50,1,(qi 659060556)),(51,1,(qi 883997877)),(52,1,(qi 958139571)),(53,1,(qi 1322822218)),(54,1,(qi 1537002063)),(55,1,(qi 1747873779)),(56,1,(qi 1955562222)),(57,1,(qi 2024104815)),(58,1,(qi 2227730452)),(59,1,(qi 2361852424)),(60,1,(qi 2428436474)),(61,1,(qi 2756734187)),(62,1,(qi 3204031479)),(63,1,(qi 3329325298))]),qm 0 1]) .ret))⟩
theorem xT:cd qG=some qA:=by kernel_rfl
theorem Fj:VC cd qG (bf []) (fun rs _=>rs= [(false,[.o true (some (3,1)) (ints kk)])]):=by
 refine aa xT rfl ?_
 simp(disch:=omega) [qA,ints,kk,VY]
def gb (b:Bytes) (i:Nat):Int:=((b.getD i 0).toNat:Int)
def bw (b:Bytes) (i:Nat):Int:=aF .or .i64 (aF .or .i64 (aF .or .i64 (IntKind.i64.wrap (gb b i * 2 ^ min 24 IntKind.i64.bits)) (IntKind.i64.wrap (gb b (i+1) * 2 ^ min 16 IntKind.i64.bits))) (IntKind.i64.wrap (gb b (i+2) * 2 ^ min 8 IntKind.i64.bits))) (gb b (i+3))
def JA (x:Int):Int:=aF .xor .i64 (aF .xor .i64 (turn x 7) (turn x 18)) (x.fdiv (2 ^ min 3 IntKind.i64.bits))
def Js (x:Int):Int:=aF .xor .i64 (aF .xor .i64 (turn x 17) (turn x 19)) (x.fdiv (2 ^ min 10 IntKind.i64.bits))
def Dy (a x c y:Int):Int:=aF .and .i64 (IntKind.i64.wrap (IntKind.i64.wrap (IntKind.i64.wrap (a+JA x)+c)+Js y)) 4294967295
def dt (b:Bytes):Nat→List Int
 |0=> []
 |n+1=>dt b n++ [if n < 16 then bw b (4 * n)else Dy (gi (dt b n) (n - 16)) (gi (dt b n) (n - 15)) (gi (dt b n) (n - 7)) (gi (dt b n) (n - 2))]
theorem dz (b:Bytes):∀n,(dt b n).length=n
 |0=>rfl
 |n+1=>by simp[dt,dz b n]
def sT (v:List Int) (k w:Int):Int:=IntKind.i64.wrap (IntKind.i64.wrap (IntKind.i64.wrap (IntKind.i64.wrap (gi v 7+aF .xor .i64 (aF .xor .i64 (turn (gi v 4) 6) (turn (gi v 4) 11)) (turn (gi v 4) 25))+aF .xor .i64 (aF .and .i64 (gi v 4) (gi v 5)) (aF .and .i64 (aF .xor .i64 4294967295 (gi v 4)) (gi v 6)))+k)+w)
def sU (v:List Int):Int:=IntKind.i64.wrap (aF .xor .i64 (aF .xor .i64 (turn (gi v 0) 2) (turn (gi v 0) 13)) (turn (gi v 0) 22)+aF .xor .i64 (aF .xor .i64 (aF .and .i64 (gi v 0) (gi v 1)) (aF .and .i64 (gi v 0) (gi v 2))) (aF .and .i64 (gi v 1) (gi v 2)))
def Jw (v:List Int) (k w:Int):List Int:= [aF .and .i64 (IntKind.i64.wrap (sT v k w+sU v)) 4294967295,gi v 0,gi v 1,gi v 2,aF .and .i64 (IntKind.i64.wrap (gi v 3+sT v k w)) 4294967295,gi v 4,gi v 5,gi v 6]
def eB (h:List Int) (b:Bytes):Nat→List Int
 |0=>h
 |n+1=>Jw (eB h b n) (gi kk n) (gi (dt b 64) n)
theorem kc {h:List Int} (hl:h.length=8) (b:Bytes):∀n,(eB h b n).length=8
 |0=>hl
 |n+1=>rfl
def me (h:List Int) (b:Bytes):List Int:=(List.range 8).map fun i=>aF .and .i64 (IntKind.i64.wrap (gi h i+gi (eB h b 64) i)) 4294967295
theorem j6 {b:Bytes} {i:Nat} (h:i < b.length):(bytes b)[i]? =some [.int .u8 (gb b i)]:=by simp[bytes,gb,h]
theorem cV (b:Bytes) (i:Nat):0≤gb b i∧gb b i < 256:=by unfold gb;have:=(b.getD i 0).toNat_lt;omega
end Go.Eng.F
namespace Go.Eng.F
theorem vl (h:List Int) (b:Bytes) {k:Nat} (hk:k < 8):ints ((me h b).take (k+1))=ints ((me h b).take k)++ [[.int .i64 (aF .and .i64 (IntKind.i64.wrap (gi h k+gi (eB h b 64) k)) 4294967295)]]:=by
 rw[List.take_add_one]
 simp only[ints,List.map_append]
 congr 1
 simp[me,hk]
abbrev jo:Nat:=259
def jw:AF:=⟨2,8,[.tmp 4],(.seq (.ops [.i (.mov 4 (.c (.val false [.nils])))]) (.seq (.seq (.ops [qm 23 0,qn 24 23, .i (.bin 25 .neq (.s 24) (qi 8)),qm 26 25, .g 26 false 28 (.mov 27 (.s 1)), .g 26 false 29 (.len 28 false (.s 27)), .g 26 false 30 (.bin 29 .neq (.s 28) (qi 64)), .i (.pick 30 (.s 26) (qb true) (.s 29))]) (.cond (.s 30) (.seq (.ops [.i (.mov 4 (.c (.val false [.nils])))]) .ret) .skip)) (.seq (.seq (.ops [qm 31 0,qn 32 31, .i (.mov 33 (qi 0))]) (.block 0 (.loop [40,39,38,37,36,35,34,6] (.seq (.ops [qd 34 .lss 33 32]) (.seq (.cond (.s 34) .skip (.exit 0)) (.seq (.block 1 (.seq (.ops [.i (.iad 35 (.s 31) (.s 33) 1), .i (.ldh 36 (.s 35) 1 false),qm 6 36]) (.seq (.ops [qm 37 6,qk 39 281 37, .i (.not 39 (.s 38))]) (.cond (.s 39) (.seq (.ops [.i (.mov 4 (.c (.val false [.nils])))]) .ret) .skip)))) (.ops [.i (.bin 40 .add (.s 33) (qi 1)),qm 33 40]))))))) (.seq (.ops [.i (.bse 41),qm 7 41]) (.seq (.seq (.ops [.i (.mov 8 (qi 0))]) (.block 2 (.loop [77,76,75,74,73,72,71,70,69,68,67,66,65,64,63,62,61,60,59,58,57,56,55,54,53,52,51,50,49,48,47,46,45,44,43,42] (.seq (.seq (.ops [qm 42 8, .i (.bin 43 .lss (.s 42) (qi 64))]) (.cond (.s 43) .skip (.exit 2))) (.seq (.block 3 (.ops [qm 46 7,qm 47 1,qm 48 8, .i (.iad 49 (.s 47) (.s 48) 1), .i (.ldh 50 (.s 49) 1 false), .i (.cvi 51 .i64 (.s 50)), .i (.bin 52 .shl (.s 51) (.c (.val false [.int .u64 24]))),qm 53 1,qm 54 8, .i (.bin 55 .add (.s 54) (qi 1)), .i (.iad 56 (.s 53) (.s 55) 1), .i (.ldh 57 (.s 56) 1 false), .i (.cvi 58 .i64 (.s 57)), .i (.bin 59 .shl (.s 58) (.c (.val false [.int .u64 16]))),qd 60 .or 52 59,qm 61 1,qm 62 8, .i (.bin 63 .add (.s 62) (qi 2)), .i (.iad 64 (.s 61) (.s 63) 1), .i (.ldh 65 (.s 64) 1 false), .i (.cvi 66 .i64 (.s 65)), .i (.bin 67 .shl (.s 66) (.c (.val false [.int .u64 8]))),qd 68 .or 60 67,qm 69 1,qm 70 8, .i (.bin 71 .add (.s 70) (qi 3)), .i (.iad 72 (.s 69) (.s 71) 1), .i (.ldh 73 (.s 72) 1 false), .i (.cvi 74 .i64 (.s 73)),qd 75 .or 68 74, .i (.lsl 76 1 1 [.int .i64 0] [(0,1,(.s 75))]), .i (.app 77 3 1 8 (.s 46) (.s 76)),qm 7 77])) (.ops [qm 44 8, .i (.bin 45 .add (.s 44) (qi 4)),qm 8 45])))))) (.seq (.seq (.ops [.i (.mov 9 (qi 16))]) (.block 4 (.loop [126,125,124,123,122,121,120,119,118,117,116,115,114,113,112,111,110,109,108,107,106,105,104,103,102,101,100,99,98,97,96,95,94,93,92,91,90,89,88,87,86,85,84,83,82,81,80,79,78,13,12,11,10] (.seq (.seq (.ops [qm 78 9, .i (.bin 79 .lss (.s 78) (qi 64))]) (.cond (.s 79) .skip (.exit 4))) (.seq (.block 5 (.seq (.ops [qm 82 7,qm 83 9, .i (.bin 84 .sub (.s 83) (qi 15)), .i (.iad 85 (.s 82) (.s 84) 1), .i (.ldh 86 (.s 85) 1 false),qm 10 86]) (.seq (.ops [qm 87 7,qm 88 9, .i (.bin 89 .sub (.s 88) (qi 2)), .i (.iad 90 (.s 87) (.s 89) 1), .i (.ldh 91 (.s 90) 1 false),qm 11 91]) (.seq (.ops [qm 92 10, .i (.call 94 282 false [(.s 92),(qi 7)]),qm 94 10, .i (.call 96 282 false [(.s 94),(qi 18)]),qd 96 .xor 93 95,qm 97 10, .i (.bin 98 .shr (.s 97) (.c (.val false [.int .u64 3]))),qd 99 .xor 96 98,qm 12 99]) (.seq (.ops [qm 100 11, .i (.call 102 282 false [(.s 100),(qi 17)]),qm 102 11, .i (.call 104 282 false [(.s 102),(qi 19)]),qd 104 .xor 101 103,qm 105 11, .i (.bin 106 .shr (.s 105) (.c (.val false [.int .u64 10]))),qd 107 .xor 104 106,qm 13 107]) (.ops [qm 108 7,qm 109 7,qm 110 9, .i (.bin 111 .sub (.s 110) (qi 16)), .i (.iad 112 (.s 109) (.s 111) 1), .i (.ldh 113 (.s 112) 1 false),qm 114 12,qd 115 .add 113 114,qm 116 7,qm 117 9, .i (.bin 118 .sub (.s 117) (qi 7)), .i (.iad 119 (.s 116) (.s 118) 1), .i (.ldh 120 (.s 119) 1 false),qd 121 .add 115 120,qm 122 13,qd 123 .add 121 122, .i (.bin 124 .and (.s 123) (qi 4294967295)), .i (.lsl 125 1 1 [.int .i64 0] [(0,1,(.s 124))]), .i (.app 126 3 1 8 (.s 108) (.s 125)),qm 7 126])))))) (.ops [qm 80 9, .i (.bin 81 .add (.s 80) (qi 1)),qm 9 81])))))) (.seq (.ops [.i (.call 128 283 false []),qm 14 127]) (.seq (.ops [.i (.bse 128),qm 129 0, .i (.app 130 3 1 8 (.s 128) (.s 129)),qm 15 130]) (.seq (.seq (.ops [.i (.mov 16 (qi 0))]) (.block 6 (.loop [232,231,230,229,228,227,226,225,224,223,222,221,220,219,218,217,216,215,214,213,212,211,210,209,208,207,206,205,204,203,202,201,200,199,198,197,196,195,194,193,192,191,190,189,188,187,186,185,184,183,182,181,180,179,178,177,176,175,174,173,172,171,170,169,168,167,166,165,164,163,162,161,160,159,158,157,156,155,154,153,152,151,150,149,148,147,146,145,144,143,142,141,140,139,138,137,136,135,134,133,132,131,20,19,18,17] (.seq (.seq (.ops [qm 131 16, .i (.bin 132 .lss (.s 131) (qi 64))]) (.cond (.s 132) .skip (.exit 6))) (.seq (.block 7 (.seq (.ops [qm 135 15, .i (.iad 136 (.s 135) (qi 4) 1), .i (.ldh 137 (.s 136) 1 false),qm 17 137]) (.seq (.ops [qm 138 15, .i (.iad 139 (.s 138) (qi 0) 1), .i (.ldh 140 (.s 139) 1 false),qm 18 140]) (.seq (.ops [qm 141 15, .i (.iad 142 (.s 141) (qi 7) 1), .i (.ldh 143 (.s 142) 1 false),qm 144 17, .i (.call 146 282 true [(.s 144),(qi 6)]),qm 146 17, .i (.call 148 282 true [(.s 146),(qi 11)]),qd 148 .xor 145 147,qm 149 17, .i (.call 151 282 true [(.s 149),(qi 25)]),qd 151 .xor 148 150,qd 152 .add 143 151,qm 153 17,qm 154 15, .i (.iad 155 (.s 154) (qi 5) 1), .i (.ldh 156 (.s 155) 1 false),qd 157 .and 153 156,qm 158 17, .i (.bin 159 .xor (qi 4294967295) (.s 158)),qm 160 15, .i (.iad 161 (.s 160) (qi 6) 1), .i (.ldh 162 (.s 161) 1 false),qd 163 .and 159 162,qd 164 .xor 157 163,qd 165 .add 152 164,qm 166 14,qm 167 16, .i (.iad 168 (.s 166) (.s 167) 1), .i (.ldh 169 (.s 168) 1 false),qd 170 .add 165 169,qm 171 7,qm 172 16, .i (.iad 173 (.s 171) (.s 172) 1), .i (.ldh 174 (.s 173) 1 false),qd 175 .add 170 174,qm 19 175]) (.seq (.ops [qm 176 18, .i (.call 178 282 true [(.s 176),(qi 2)]),qm 178 18, .i (.call 180 282 true [(.s 178),(qi 13)]),qd 180 .xor 177 179,qm 181 18, .i (.call 183 282 true [(.s 181),(qi 22)]),qd 183 .xor 180 182,qm 184 18,qm 185 15, .i (.iad 186 (.s 185) (qi 1) 1), .i (.ldh 187 (.s 186) 1 false),qd 188 .and 184 187,qm 189 18,qm 190 15, .i (.iad 191 (.s 190) (qi 2) 1), .i (.ldh 192 (.s 191) 1 false),qd 193 .and 189 192,qd 194 .xor 188 193,qm 195 15, .i (.iad 196 (.s 195) (qi 1) 1), .i (.ldh 197 (.s 196) 1 false),qm 198 15, .i (.iad 199 (.s 198) (qi 2) 1), .i (.ldh 200 (.s 199) 1 false),qd 201 .and 197 200,qd 202 .xor 194 201,qd 203 .add 183 202,qm 20 203]) (.ops [qm 204 19,qm 205 20,qd 206 .add 204 205, .i (.bin 207 .and (.s 206) (qi 4294967295)),qm 208 15, .i (.iad 209 (.s 208) (qi 0) 1), .i (.ldh 210 (.s 209) 1 false),qm 211 15, .i (.iad 212 (.s 211) (qi 1) 1), .i (.ldh 213 (.s 212) 1 false),qm 214 15, .i (.iad 215 (.s 214) (qi 2) 1), .i (.ldh 216 (.s 215) 1 false),qm 217 15, .i (.iad 218 (.s 217) (qi 3) 1), .i (.ldh 219 (.s 218) 1 false),qm 220 19,qd 221 .add 219 220, .i (.bin 222 .and (.s 221) (qi 4294967295)),qm 223 15, .i (.iad 224 (.s 223) (qi 4) 1), .i (.ldh 225 (.s 224) 1 false),qm 226 15, .i (.iad 227 (.s 226) (qi 5) 1), .i (.ldh 228 (.s 227) 1 false),qm 229 15, .i (.iad 230 (.s 229) (qi 6) 1), .i (.ldh 231 (.s 230) 1 false), .i (.bsl 232 3 1 8 [.int .i64 0] [(0,1,(.s 207)),(1,1,(.s 210)),(2,1,(.s 213)),(3,1,(.s 216)),(4,1,(.s 222)),(5,1,(.s 225)),(6,1,(.s 228)),(7,1,(.s 231))]),qm 15 232])))))) (.ops [qm 133 16, .i (.bin 134 .add (.s 133) (qi 1)),qm 16 134])))))) (.seq (.ops [.i (.bse 233),qm 21 233]) (.seq (.seq (.ops [qm 234 0,qn 235 234, .i (.mov 236 (qi 0))]) (.block 8 (.loop [252,251,250,249,248,247,246,245,244,243,242,241,240,239,238,237,22] (.seq (.ops [qd 237 .lss 236 235]) (.seq (.cond (.s 237) .skip (.exit 8)) (.seq (.block 9 (.seq (.ops [qm 238 236,qm 22 238]) (.ops [qm 239 21,qm 240 0,qm 241 22, .i (.iad 242 (.s 240) (.s 241) 1), .i (.ldh 243 (.s 242) 1 false),qm 244 15,qm 245 22, .i (.iad 246 (.s 244) (.s 245) 1), .i (.ldh 247 (.s 246) 1 false),qd 248 .add 243 247, .i (.bin 249 .and (.s 248) (qi 4294967295)), .i (.lsl 250 1 1 [.int .i64 0] [(0,1,(.s 249))]), .i (.app 251 3 1 8 (.s 239) (.s 250)),qm 21 251]))) (.ops [.i (.bin 252 .add (.s 236) (qi 1)),qm 236 252]))))))) (.seq (.ops [qm 253 21,qm 4 253]) .ret))))))))))))⟩
theorem qN:cd jo=some jw:=by kernel_rfl
theorem pK (h:List Int) (b:Bytes) (hl:h.length=8) (hw:∀x∈h,word x=true) (hb:b.length=64):VC cd jo (bf [(false,[.sl (ints h)]),(false,[.sl (bytes b)])]) (fun rs _=>rs= [(false,[.o true (some (3,1)) (ints (me h b))])]):=by
 refine aa qN rfl ?_
 simp(disch:=omega) [jw,bh,an,hl,hb,VY]
 refine aI (σ:=Nat) (f1:=_) (es0:=_) (by simp(disch:=omega) [VY];rfl) (by simp(disch:=omega) [VY];rfl) (fun i=> [(33, .val false [.int .i64 i])]) (fun _=> []) (fun i g=>g+i=8) 0 8 (by simp(disch:=omega) [VY]) (by simp(disch:=omega) [VY]) (by omega) ?_
 rintro i n g hg
 simp(disch:=omega) [VY]
 refine ab (fun h1=> ?_) (fun h1=> ?_)
 ·have hx:i < h.length:=by omega
  simp(disch:=omega) [tR hx,VY]
  refine aj (zM _) rfl rfl ?_
  have hq:word (gi h i)=true:=hw _ (by simp[gi,hx])
  simp(disch:=omega) [hq,VY]
  exact⟨i+1,g - 1,by omega,by omega,by omega⟩
 have hi:i=8:=by omega
 subst hi
 simp(disch:=omega) [VY]
 refine aI (σ:=Nat×Nat) (f1:=_) (es0:=_) (by simp(disch:=omega) [VY];rfl) (by simp(disch:=omega) [VY];rfl) (fun p=> [(8, .val false [.int .i64 (4 * (p.1:Int))]),(7, .val false [.ow 41 p.2])]) (fun p=> [(41, .sl p.2 true true (some (3,1)) (ints (dt b p.1)))])
  (fun p g=>g+p.1=16) (0,_) 16 (by simp(disch:=omega) [VY];rfl) (by simp(disch:=omega) [ints,dt,VY]) (by omega) ?_
 rintro⟨k,v⟩ n g hg
 simp only at hg
 simp(disch:=omega) [VY]
 refine ab (fun h2=> ?_) (fun h2=> ?_)
 ·have hk:k < 16:=by omega
  have q1:((4:Int) * (k:Int)).toNat=4 * k:=by omega
  have q2:((4:Int) * (k:Int)+1).toNat=4 * k+1:=by omega
  have q3:((4:Int) * (k:Int)+2).toNat=4 * k+2:=by omega
  have q4:((4:Int) * (k:Int)+3).toNat=4 * k+3:=by omega
  have p1:(0:Int)≤(4:Int) * (k:Int)∧(0:Int)≤(4:Int) * (k:Int)+1∧(0:Int)≤(4:Int) * (k:Int)+2∧(0:Int)≤(4:Int) * (k:Int)+3:=by omega
  obtain⟨p1,p2,p3,p4⟩:=p1
  have r1:=cV b (4 * k)
  have r2:=cV b (4 * k+1)
  have r3:=cV b (4 * k+2)
  have r4:=cV b (4 * k+3)
  have e1:(ints (dt b k)).length=k:=by rw[bh,dz]
  simp(disch:=omega) [an,hb,q1,q2,q3,q4,p1,p2,p3,p4,e1,eV,gF,j6 (show 4 * k < b.length by omega),j6 (show 4 * k+1 < b.length by omega),j6 (show 4 * k+2 < b.length by omega),j6 (show 4 * k+3 < b.length by omega),VY]
  exact⟨k+1,_,g - 1,by omega,by omega,⟨rfl,by omega⟩,rfl,by rw[dt,if_pos hk];simp only[ints,List.map_append,List.map_cons,List.map_nil,bw]⟩
 have hk:k=16:=by omega
 subst hk
 simp(disch:=omega) [VY]
 refine aI (σ:=Nat×Nat) (f1:=_) (es0:=_) (by simp(disch:=omega) [VY];rfl) (by simp(disch:=omega) [VY];rfl) (fun p=> [(9, .val false [.int .i64 p.1]),(7, .val false [.ow 41 p.2])]) (fun p=> [(41, .sl p.2 true true (some (3,1)) (ints (dt b p.1)))])
  (fun p g=>g+p.1=64∧16≤p.1) (16,_) 48 (by simp(disch:=omega) [VY];rfl) (by simp(disch:=omega) [VY]) (by omega) ?_
 rintro⟨k,v⟩ n g hg
 simp only at hg
 simp(disch:=omega) [VY]
 refine ab (fun h3=> ?_) (fun h3=> ?_)
 ·have hk:k < 64:=by omega
  obtain⟨p1,p2,p3⟩:(15:Int)≤(k:Int)∧((k:Int) - 15).toNat=k - 15∧(k:Int) - 15 < k:=by omega
  obtain⟨p4,p5,p6⟩:(2:Int)≤(k:Int)∧((k:Int) - 2).toNat=k - 2∧(k:Int) - 2 < k:=by omega
  obtain⟨p7,p8,p9⟩:(16:Int)≤(k:Int)∧((k:Int) - 16).toNat=k - 16∧(k:Int) - 16 < k:=by omega
  obtain⟨q1,q2,q3⟩:(7:Int)≤(k:Int)∧((k:Int) - 7).toNat=k - 7∧(k:Int) - 7 < k:=by omega
  have e1:(ints (dt b k)).length=k:=by rw[bh,dz]
  have hwl:=dz b k
  simp(disch:=omega) [e1,p1,p2,p3,p4,p5,p6,dE,VY]
  refine aj (cv _ 7 (by omega)) rfl rfl ?_
  simp(disch:=omega) [VY]
  refine aj (cv _ 18 (by omega)) rfl rfl ?_
  simp(disch:=omega) [VY]
  refine aj (cv _ 17 (by omega)) rfl rfl ?_
  simp(disch:=omega) [VY]
  refine aj (cv _ 19 (by omega)) rfl rfl ?_
  simp(disch:=omega) [e1,p7,p8,p9,q1,q2,q3,dE,eV,gF,VY]
  exact⟨k+1,_,g - 1,by omega,by omega,⟨rfl,by omega⟩,rfl,by rw[dt,if_neg (by omega)];simp only[ints,List.map_append,List.map_cons,List.map_nil,Dy,JA,Js]⟩
 have hk:k=64:=by omega
 subst hk
 simp(disch:=omega) [VY]
 refine aj (Fj) rfl rfl ?_
 simp(disch:=omega) [bh,hl,eV,gF,VY]
 refine s4 (σ:=Nat×Nat) (f0:=_) (by simp(disch:=omega) [VY];rfl) (dS.Jo (s:=15) (k:=128) (k':=232) (by simp(disch:=omega) [VY]) rfl (by omega)) (f1:=_) (es0:=_) (by simp(disch:=omega) [VY];rfl) (by simp(disch:=omega) [oM,fx,VY];rfl) (fun p=> [(16, .val false [.int .i64 p.1]),(15, .val false [.ow 232 p.2])]) (fun p=> [(232, .sl p.2 true true (some (3,1)) (ints (eB h b p.1)))])
  (fun p g=>g+p.1=64) (0,_) 64 (by simp(disch:=omega) [VY];rfl) (by simp(disch:=omega) [eB,oM,fx,VY]) (by omega) ?_
 rintro⟨k,v⟩ n g hg
 simp only at hg
 simp(disch:=omega) [VY]
 refine ab (fun h4=> ?_) (fun h4=> ?_)
 ·have hk:k < 64:=by omega
  have hv:=kc hl b k
  have e1:(ints (eB h b k)).length=8:=by rw[bh,hv]
  have e2:(ints kk).length=64:=rfl
  have e3:(ints (dt b 64)).length=64:=by rw[bh,dz]
  simp(disch:=omega) [e1,e2,e3,dE,VY]
  refine aj (cv _ 6 (by omega)) rfl rfl ?_
  simp(disch:=omega) [VY]
  refine aj (cv _ 11 (by omega)) rfl rfl ?_
  simp(disch:=omega) [VY]
  refine aj (cv _ 25 (by omega)) rfl rfl ?_
  simp(disch:=omega) [e1,e2,e3,dE,VY]
  refine aj (cv _ 2 (by omega)) rfl rfl ?_
  simp(disch:=omega) [VY]
  refine aj (cv _ 13 (by omega)) rfl rfl ?_
  simp(disch:=omega) [VY]
  refine aj (cv _ 22 (by omega)) rfl rfl ?_
  simp(disch:=omega) [e1,e2,e3,dE,VY]
  exact⟨k+1,_,g - 1,by omega,by omega,⟨rfl,by omega⟩,rfl,rfl⟩
 have hk:k=64:=by omega
 subst hk
 simp(disch:=omega) [bh,hl,VY]
 refine aI (σ:=Nat×Nat) (f1:=_) (es0:=_) (by simp(disch:=omega) [VY];rfl) (by simp(disch:=omega) [VY];rfl) (fun p=> [(236, .val false [.int .i64 p.1]),(21, .val false [.ow 233 p.2])]) (fun p=> [(233, .sl p.2 true true (some (3,1)) (ints ((me h b).take p.1)))])
  (fun p g=>g+p.1=8) (0,_) 8 (by simp(disch:=omega) [VY];rfl) (by simp(disch:=omega) [ints,VY]) (by omega) ?_
 rintro⟨k,w⟩ n g hg
 simp only at hg
 simp(disch:=omega) [VY]
 refine ab (fun h5=> ?_) (fun h5=> ?_)
 ·have hk:k < 8:=by omega
  have hv:=kc hl b 64
  have e1:(ints (eB h b 64)).length=8:=by rw[bh,hv]
  have e2:(ints h).length=8:=by rw[bh,hl]
  have e3:(ints ((me h b).take k)).length=k:=by rw[bh];simp[me];omega
  simp(disch:=omega) [e1,e2,e3,dE,eV,gF,VY]
  exact⟨k+1,_,g - 1,by omega,by omega,⟨rfl,by omega⟩,rfl,vl h b hk⟩
 ·have hk:k=8:=by omega
  subst hk
  simp(disch:=omega) [VY]
  rw[List.take_of_length_le (by simp[me])]
end Go.Eng.F
namespace Go.Eng.F
theorem nk (n:Int):BitVec.ofInt 64 (IntKind.i64.wrap n)=BitVec.ofInt 64 n:=by
 apply BitVec.eq_of_toNat_eq
 rw[IntKind.wrap_i64]
 simp only[BitVec.toNat_ofInt]
 congr 1
 omega
theorem oX (v:BitVec 64):BitVec.ofInt 64 (v.toNat:Int)=v:=by
 apply BitVec.eq_of_toNat_eq
 simp
theorem DD (x y:Int):BitVec.ofInt 64 (aF .and .i64 x y)=BitVec.ofInt 64 x &&& BitVec.ofInt 64 y:=by
 show BitVec.ofInt 64 (IntKind.i64.wrap ((BitVec.ofInt 64 x &&& BitVec.ofInt 64 y).toNat:Int))=_
 rw[nk,oX]
theorem IB (x y:Int):BitVec.ofInt 64 (aF .or .i64 x y)=BitVec.ofInt 64 x|||BitVec.ofInt 64 y:=by
 show BitVec.ofInt 64 (IntKind.i64.wrap ((BitVec.ofInt 64 x|||BitVec.ofInt 64 y).toNat:Int))=_
 rw[nk,oX]
theorem C6 (x y:Int):BitVec.ofInt 64 (aF .xor .i64 x y)=BitVec.ofInt 64 x ^^^ BitVec.ofInt 64 y:=by
 show BitVec.ofInt 64 (IntKind.i64.wrap ((BitVec.ofInt 64 x ^^^ BitVec.ofInt 64 y).toNat:Int))=_
 rw[nk,oX]
theorem tB {x:Int}:word x=true↔0≤x∧x≤4294967295:=by simp[word,ml]
theorem kb {x:Int} (h:word x=true):(BitVec.ofInt 64 x).toNat=x.toNat∧x.toNat < 4294967296:=by
 have h:=tB.1 h
 rw[BitVec.toNat_ofInt]
 omega
theorem Bj {x:Int} (h:word x=true):BitVec.ofInt 64 x &&& BitVec.ofInt 64 4294967295=BitVec.ofInt 64 x:=by
 obtain⟨h1,h2⟩:=kb h
 apply BitVec.eq_of_toNat_eq
 rw[BitVec.toNat_and,h1]
 have:(BitVec.ofInt 64 4294967295).toNat=2 ^ 32 - 1:=rfl
 rw[this,Nat.and_two_pow_sub_one_eq_mod]
 omega
theorem wrap_small {n:Nat} (h:n < 4294967296):word (IntKind.i64.wrap (n:Int))=true:=by
 rw[tB,aB (by omega) (by omega)]
 omega
theorem oO (x:Int):word (aF .and .i64 x 4294967295)=true:=by
 show word (IntKind.i64.wrap ((BitVec.ofInt 64 x &&& BitVec.ofInt 64 4294967295).toNat:Int))=true
 refine wrap_small ?_
 rw[BitVec.toNat_and]
 have:(BitVec.ofInt 64 4294967295).toNat=2 ^ 32 - 1:=rfl
 rw[this,Nat.and_two_pow_sub_one_eq_mod]
 omega
theorem wH {x y:Int} (hx:word x=true) (hy:word y=true):word (aF .or .i64 x y)=true:=by
 show word (IntKind.i64.wrap ((BitVec.ofInt 64 x|||BitVec.ofInt 64 y).toNat:Int))=true
 refine wrap_small ?_
 rw[BitVec.toNat_or,(kb hx).1,(kb hy).1]
 exact Nat.or_lt_two_pow (n:=32) (kb hx).2 (kb hy).2
theorem Iz {e p q:Int} (he:word e=true):aF .or .i64 (aF .and .i64 e p) (aF .and .i64 (aF .xor .i64 e 4294967295) q)=aF .xor .i64 (aF .and .i64 e p) (aF .and .i64 (aF .xor .i64 4294967295 e) q):=by
 show IntKind.i64.wrap ((BitVec.ofInt 64 _|||BitVec.ofInt 64 _).toNat:Int)=IntKind.i64.wrap ((BitVec.ofInt 64 _ ^^^ BitVec.ofInt 64 _).toNat:Int)
 congr 2
 apply congrArg BitVec.toNat
 simp only[DD,C6]
 have hm:=Bj he
 generalize BitVec.ofInt 64 e=a at *
 generalize BitVec.ofInt 64 p=b
 generalize BitVec.ofInt 64 q=c
 generalize BitVec.ofInt 64 4294967295=m at *
 apply BitVec.eq_of_getLsbD_eq
 intro i hi
 have h1:=congrArg (fun v=>v.getLsbD i) hm
 simp only[BitVec.getLsbD_and]at h1
 simp only[BitVec.getLsbD_or,BitVec.getLsbD_xor,BitVec.getLsbD_and]
 revert h1
 cases a.getLsbD i <;>cases b.getLsbD i <;>cases c.getLsbD i <;>cases m.getLsbD i <;>simp
theorem GK (a p q:Int):aF .or .i64 (aF .or .i64 (aF .and .i64 a p) (aF .and .i64 a q)) (aF .and .i64 p q)=aF .xor .i64 (aF .xor .i64 (aF .and .i64 a p) (aF .and .i64 a q)) (aF .and .i64 p q):=by
 show IntKind.i64.wrap ((BitVec.ofInt 64 _|||BitVec.ofInt 64 _).toNat:Int)=IntKind.i64.wrap ((BitVec.ofInt 64 _ ^^^ BitVec.ofInt 64 _).toNat:Int)
 congr 2
 apply congrArg BitVec.toNat
 simp only[DD,C6,IB]
 generalize BitVec.ofInt 64 a=a
 generalize BitVec.ofInt 64 p=b
 generalize BitVec.ofInt 64 q=c
 apply BitVec.eq_of_getLsbD_eq
 intro i hi
 simp only[BitVec.getLsbD_or,BitVec.getLsbD_xor,BitVec.getLsbD_and]
 cases a.getLsbD i <;>cases b.getLsbD i <;>cases c.getLsbD i <;>rfl
theorem Ed (b:Bytes) (i:Nat):word (bw b i)=true:=by
 have h1:=cV b i
 have h2:=cV b (i+1)
 have h3:=cV b (i+2)
 have h4:=cV b (i+3)
 have e1:min 24 IntKind.i64.bits=24:=rfl
 have e2:min 16 IntKind.i64.bits=16:=rfl
 have e3:min 8 IntKind.i64.bits=8:=rfl
 unfold bw
 rw[e1,e2,e3]
 refine wH (wH (wH ?_ ?_) ?_) ?_ <;>rw[tB]
 ·rw[aB (by omega) (by omega)];omega
 ·rw[aB (by omega) (by omega)];omega
 ·rw[aB (by omega) (by omega)];omega
 ·omega
theorem pX (b:Bytes):∀n,∀x∈dt b n,word x=true
 |0,x,hx=>by cases hx
 |n+1,x,hx=>by
  simp only[dt]at hx
  rcases List.mem_append.1 hx with hx|hx
  ·exact pX b n x hx
  ·simp only[List.mem_singleton]at hx
   subst hx
   split
   ·exact Ed _ _
   ·exact oO _
theorem p0 {l:List Int} {i:Nat} (h:i < l.length):gi l i∈l:=by simp[gi,h]
theorem pa {h:List Int} (hl:h.length=8) (hw:∀x∈h,word x=true) (b:Bytes):∀n,∀x∈eB h b n,word x=true
 |0,x,hx=>hw x hx
 |n+1,x,hx=>by
  have ih:=pa hl hw b n
  have hv:=kc hl b n
  have hm:∀i,i < 8→word (gi (eB h b n) i)=true:=fun i hi=>ih _ (p0 (by omega))
  simp only[eB,Jw,List.mem_cons,List.not_mem_nil,or_false]at hx
  rcases hx with rfl|rfl|rfl|rfl|rfl|rfl|rfl|rfl
  ·exact oO _
  ·exact hm 0 (by omega)
  ·exact hm 1 (by omega)
  ·exact hm 2 (by omega)
  ·exact oO _
  ·exact hm 4 (by omega)
  ·exact hm 5 (by omega)
  ·exact hm 6 (by omega)
def arr (b:Bytes) (k:Nat):List Int:=dt b k++List.replicate (64 - k) 0
theorem xi (b:Bytes) {k:Nat} (h:k≤64):(lX (arr b k)).length=64:=by simp[lX,arr,dz];omega
theorem ob (b:Bytes) {k i:Nat} (hk:k≤64) (h:i < k):((lX (arr b k)).drop i).take 1= [.int .i64 (gi (dt b k) i)]:=by
 rw[vR (by simp[arr,dz];omega)]
 simp[gi,arr,List.getD_eq_getElem?_getD,List.getElem?_append_left (show i < (dt b k).length by rw[dz];exact h)]
theorem AU (b:Bytes) {k:Nat} (h:k < 64) (x:Int):(lX (arr b k)).set k (.int .i64 x)=lX (dt b k++ [x]++List.replicate (64 - (k+1)) 0):=by
 have e:64 - k=(64 - (k+1))+1:=by omega
 have h2:=dz b k
 simp only[lX,arr,e,List.replicate_succ,List.map_append,List.map_cons]
 rw[List.set_append_right _ _ (by simp[h2])]
 simp[h2]
end Go.Eng.F
namespace Go.Eng.F
theorem BU (b:Bytes) {k:Nat} (hk:k < 16):lX (dt b k++bw b (4 * k)::List.replicate (63 - k) 0)=lX (arr b (k+1)):=by
 unfold arr
 rw[dt,if_pos hk,show 64 - (k+1)=63 - k by omega]
 simp
theorem BD (b:Bytes) {k:Nat} (hk:16≤k):lX (dt b k++Dy (gi (dt b k) (k - 16)) (gi (dt b k) (k - 15)) (gi (dt b k) (k - 7)) (gi (dt b k) (k - 2))::List.replicate (63 - k) 0)=lX (arr b (k+1)):=by
 unfold arr
 rw[dt,if_neg (by omega),show 64 - (k+1)=63 - k by omega]
 simp
theorem Dw (l:List Int):(ints l).flatten=lX l:=by
 induction l with
 |nil=>rfl
 |cons n l ih=>simp only[ints,lX,List.map_cons,List.flatten_cons]at ih⊢;rw[ih];rfl
theorem vd {α:Type} {cs vs:List α} (h:vs.length=cs.length):aE cs 0 vs=vs:=by rw[cm _ _ _ (by omega)];simp[h]
abbrev i7:Nat:=219
def jz:AF:=⟨2,8,[.tmp 4],(.seq (.ops [.i (.mov 4 (.c (.val false [.nils])))]) (.seq (.seq (.ops [qm 25 0,qn 26 25, .i (.bin 27 .neq (.s 26) (qi 8)),qm 28 27, .g 28 false 30 (.mov 29 (.s 1)), .g 28 false 31 (.len 30 false (.s 29)), .g 28 false 32 (.bin 31 .neq (.s 30) (qi 64)), .i (.pick 32 (.s 28) (qb true) (.s 31))]) (.cond (.s 32) (.seq (.ops [.i (.mov 4 (.c (.val false [.nils])))]) .ret) .skip)) (.seq (.seq (.ops [qm 33 0,qn 34 33, .i (.mov 35 (qi 0))]) (.block 0 (.loop [42,41,40,39,38,37,36,6] (.seq (.ops [qd 36 .lss 35 34]) (.seq (.cond (.s 36) .skip (.exit 0)) (.seq (.block 1 (.seq (.ops [.i (.iad 37 (.s 33) (.s 35) 1), .i (.ldh 38 (.s 37) 1 false),qm 6 38]) (.seq (.ops [qm 39 6,qk 41 267 39, .i (.not 41 (.s 40))]) (.cond (.s 41) (.seq (.ops [.i (.mov 4 (.c (.val false [.nils])))]) .ret) .skip)))) (.ops [.i (.bin 42 .add (.s 35) (qi 1)),qm 35 42]))))))) (.seq (.ops [.i (.bld 43 [.int .i64 0, .int .i64 0, .int .i64 0, .int .i64 0, .int .i64 0, .int .i64 0, .int .i64 0, .int .i64 0, .int .i64 0, .int .i64 0, .int .i64 0, .int .i64 0, .int .i64 0, .int .i64 0, .int .i64 0, .int .i64 0, .int .i64 0, .int .i64 0, .int .i64 0, .int .i64 0, .int .i64 0, .int .i64 0, .int .i64 0, .int .i64 0, .int .i64 0, .int .i64 0, .int .i64 0, .int .i64 0, .int .i64 0, .int .i64 0, .int .i64 0, .int .i64 0, .int .i64 0, .int .i64 0, .int .i64 0, .int .i64 0, .int .i64 0, .int .i64 0, .int .i64 0, .int .i64 0, .int .i64 0, .int .i64 0, .int .i64 0, .int .i64 0, .int .i64 0, .int .i64 0, .int .i64 0, .int .i64 0, .int .i64 0, .int .i64 0, .int .i64 0, .int .i64 0, .int .i64 0, .int .i64 0, .int .i64 0, .int .i64 0, .int .i64 0, .int .i64 0, .int .i64 0, .int .i64 0, .int .i64 0, .int .i64 0, .int .i64 0, .int .i64 0] []), .i (.call 45 268 false []), .i (.bld 45 [.int .i64 0, .int .i64 0, .int .i64 0, .int .i64 0, .int .i64 0, .int .i64 0, .int .i64 0, .int .i64 0] []), .i (.lal 7 [.int .i64 0, .int .i64 0, .int .i64 0, .int .i64 0, .int .i64 0, .int .i64 0, .int .i64 0, .int .i64 0, .int .i64 0, .int .i64 0, .int .i64 0, .int .i64 0, .int .i64 0, .int .i64 0, .int .i64 0, .int .i64 0, .int .i64 0, .int .i64 0, .int .i64 0, .int .i64 0, .int .i64 0, .int .i64 0, .int .i64 0, .int .i64 0, .int .i64 0, .int .i64 0, .int .i64 0, .int .i64 0, .int .i64 0, .int .i64 0, .int .i64 0, .int .i64 0, .int .i64 0, .int .i64 0, .int .i64 0, .int .i64 0, .int .i64 0, .int .i64 0, .int .i64 0, .int .i64 0, .int .i64 0, .int .i64 0, .int .i64 0, .int .i64 0, .int .i64 0, .int .i64 0, .int .i64 0, .int .i64 0, .int .i64 0, .int .i64 0, .int .i64 0, .int .i64 0, .int .i64 0, .int .i64 0, .int .i64 0, .int .i64 0, .int .i64 0, .int .i64 0, .int .i64 0, .int .i64 0, .int .i64 0, .int .i64 0, .int .i64 0, .int .i64 0]), .i (.hal 9 261 [.int .i64 0, .int .i64 0, .int .i64 0, .int .i64 0, .int .i64 0, .int .i64 0, .int .i64 0, .int .i64 0]),qs 7 7 43 64,qm 8 44, .i (.sth (.s 9) (.s 45) 8)]) (.seq (.seq (.ops [.i (.mov 46 (qi 0))]) (.block 2 (.loop [84,83,82,81,80,79,78,77,76,75,74,73,72,71,70,69,68,67,66,65,64,63,62,61,60,59,58,57,56,55,54,53,52,51,50,49,48,47,10] (.seq (.ops [.i (.bin 47 .lss (.s 46) (qi 16))]) (.seq (.cond (.s 47) .skip (.exit 2)) (.seq (.block 3 (.seq (.ops [qm 48 46,qm 10 48]) (.ops [qm 49 10,qm 50 1,qm 51 10, .i (.bin 52 .mul (qi 4) (.s 51)), .i (.iad 53 (.s 50) (.s 52) 1), .i (.ldh 54 (.s 53) 1 false), .i (.cvi 55 .i64 (.s 54)), .i (.bin 56 .shl (.s 55) (.c (.val false [.int .u64 24]))),qm 57 1,qm 58 10, .i (.bin 59 .mul (qi 4) (.s 58)), .i (.bin 60 .add (.s 59) (qi 1)), .i (.iad 61 (.s 57) (.s 60) 1), .i (.ldh 62 (.s 61) 1 false), .i (.cvi 63 .i64 (.s 62)), .i (.bin 64 .shl (.s 63) (.c (.val false [.int .u64 16]))),qd 65 .or 56 64,qm 66 1,qm 67 10, .i (.bin 68 .mul (qi 4) (.s 67)), .i (.bin 69 .add (.s 68) (qi 2)), .i (.iad 70 (.s 66) (.s 69) 1), .i (.ldh 71 (.s 70) 1 false), .i (.cvi 72 .i64 (.s 71)), .i (.bin 73 .shl (.s 72) (.c (.val false [.int .u64 8]))),qd 74 .or 65 73,qm 75 1,qm 76 10, .i (.bin 77 .mul (qi 4) (.s 76)), .i (.bin 78 .add (.s 77) (qi 3)), .i (.iad 79 (.s 75) (.s 78) 1), .i (.ldh 80 (.s 79) 1 false), .i (.cvi 81 .i64 (.s 80)),qd 82 .or 74 81, .i (.iaa 83 (.s 7) (.s 49) 1 64),qs 7 83 82 1]))) (.ops [.i (.bin 84 .add (.s 46) (qi 1)),qm 46 84]))))))) (.seq (.seq (.ops [.i (.mov 11 (qi 16))]) (.block 4 (.loop [128,127,126,125,124,123,122,121,120,119,118,117,116,115,114,113,112,111,110,109,108,107,106,105,104,103,102,101,100,99,98,97,96,95,94,93,92,91,90,89,88,87,86,85,15,14,13,12] (.seq (.seq (.ops [qm 85 11, .i (.bin 86 .lss (.s 85) (qi 64))]) (.cond (.s 86) .skip (.exit 4))) (.seq (.block 5 (.seq (.ops [qm 89 11, .i (.bin 90 .sub (.s 89) (qi 15)), .i (.iaa 91 (.s 7) (.s 90) 1 64),ql 92 7 91 1 false,qm 93 11, .i (.bin 94 .sub (.s 93) (qi 2)), .i (.iaa 95 (.s 7) (.s 94) 1 64),ql 96 7 95 1 false,qm 12 92,qm 13 96]) (.seq (.ops [qm 97 12, .i (.call 99 269 false [(.s 97),(qi 7)]),qm 99 12, .i (.call 101 269 false [(.s 99),(qi 18)]),qd 101 .xor 98 100,qm 102 12, .i (.bin 103 .shr (.s 102) (.c (.val false [.int .u64 3]))),qd 104 .xor 101 103,qm 14 104]) (.seq (.ops [qm 105 13, .i (.call 107 269 false [(.s 105),(qi 17)]),qm 107 13, .i (.call 109 269 false [(.s 107),(qi 19)]),qd 109 .xor 106 108,qm 110 13, .i (.bin 111 .shr (.s 110) (.c (.val false [.int .u64 10]))),qd 112 .xor 109 111,qm 15 112]) (.ops [qm 113 11,qm 114 11, .i (.bin 115 .sub (.s 114) (qi 16)), .i (.iaa 116 (.s 7) (.s 115) 1 64),ql 117 7 116 1 false,qm 118 14,qd 119 .add 117 118,qm 120 11, .i (.bin 121 .sub (.s 120) (qi 7)), .i (.iaa 122 (.s 7) (.s 121) 1 64),ql 123 7 122 1 false,qd 124 .add 119 123,qm 125 15,qd 126 .add 124 125, .i (.bin 127 .and (.s 126) (qi 4294967295)), .i (.iaa 128 (.s 7) (.s 113) 1 64),qs 7 128 127 1]))))) (.ops [qm 87 11, .i (.bin 88 .add (.s 87) (qi 1)),qm 11 88])))))) (.seq (.ops [.i (.sla 129 (.s 9) 8 1),qm 130 0, .i (.cpy 131 1 (.s 129) (.s 130))]) (.seq (.seq (.ops [.i (.mov 132 (qi 0))]) (.block 6 (.loop [216,215,214,213,212,211,210,209,208,207,206,205,204,203,202,201,200,199,198,197,196,195,194,193,192,191,190,189,188,187,186,185,184,183,182,181,180,179,178,177,176,175,174,173,172,171,170,169,168,167,166,165,164,163,162,161,160,159,158,157,156,155,154,153,152,151,150,149,148,147,146,145,144,143,142,141,140,139,138,137,136,135,134,133,22,21,20,19,18,17,16] (.seq (.ops [.i (.bin 133 .lss (.s 132) (qi 64))]) (.seq (.cond (.s 133) .skip (.exit 6)) (.seq (.block 7 (.seq (.ops [qm 134 132,qm 16 134]) (.seq (.ops [.i (.iaa 135 (.s 9) (qi 4) 1 8), .i (.ldh 136 (.s 135) 1 false), .i (.iaa 137 (.s 9) (qi 0) 1 8), .i (.ldh 138 (.s 137) 1 false),qm 17 136,qm 18 138]) (.seq (.ops [qm 139 17, .i (.iaa 140 (.s 9) (qi 5) 1 8), .i (.ldh 141 (.s 140) 1 false),qd 142 .and 139 141,qm 143 17, .i (.bin 144 .xor (.s 143) (qi 4294967295)), .i (.iaa 145 (.s 9) (qi 6) 1 8), .i (.ldh 146 (.s 145) 1 false),qd 147 .and 144 146,qd 148 .or 142 147,qm 19 148]) (.seq (.ops [qm 149 18, .i (.iaa 150 (.s 9) (qi 1) 1 8), .i (.ldh 151 (.s 150) 1 false),qd 152 .and 149 151,qm 153 18, .i (.iaa 154 (.s 9) (qi 2) 1 8), .i (.ldh 155 (.s 154) 1 false),qd 156 .and 153 155,qd 157 .or 152 156, .i (.iaa 158 (.s 9) (qi 1) 1 8), .i (.ldh 159 (.s 158) 1 false), .i (.iaa 160 (.s 9) (qi 2) 1 8), .i (.ldh 161 (.s 160) 1 false),qd 162 .and 159 161,qd 163 .or 157 162,qm 20 163]) (.seq (.ops [.i (.iaa 164 (.s 9) (qi 7) 1 8), .i (.ldh 165 (.s 164) 1 false),qm 166 17, .i (.call 168 269 true [(.s 166),(qi 6)]),qm 168 17, .i (.call 170 269 true [(.s 168),(qi 11)]),qd 170 .xor 167 169,qm 171 17, .i (.call 173 269 true [(.s 171),(qi 25)]),qd 173 .xor 170 172,qd 174 .add 165 173,qm 175 19,qd 176 .add 174 175,qm 177 8,qm 178 16, .i (.iad 179 (.s 177) (.s 178) 1), .i (.ldh 180 (.s 179) 1 false),qd 181 .add 176 180,qm 182 16, .i (.iaa 183 (.s 7) (.s 182) 1 64),ql 184 7 183 1 false,qd 185 .add 181 184,qm 21 185]) (.seq (.ops [qm 186 18, .i (.call 188 269 false [(.s 186),(qi 2)]),qm 188 18, .i (.call 190 269 false [(.s 188),(qi 13)]),qd 190 .xor 187 189,qm 191 18, .i (.call 193 269 false [(.s 191),(qi 22)]),qd 193 .xor 190 192,qm 194 20,qd 195 .add 193 194,qm 22 195]) (.ops [qm 196 21,qm 197 22,qd 198 .add 196 197, .i (.bin 199 .and (.s 198) (qi 4294967295)),qm 200 18, .i (.iaa 201 (.s 9) (qi 1) 1 8), .i (.ldh 202 (.s 201) 1 false), .i (.iaa 203 (.s 9) (qi 2) 1 8), .i (.ldh 204 (.s 203) 1 false), .i (.iaa 205 (.s 9) (qi 3) 1 8), .i (.ldh 206 (.s 205) 1 false),qm 207 21,qd 208 .add 206 207, .i (.bin 209 .and (.s 208) (qi 4294967295)),qm 210 17, .i (.iaa 211 (.s 9) (qi 5) 1 8), .i (.ldh 212 (.s 211) 1 false), .i (.iaa 213 (.s 9) (qi 6) 1 8), .i (.ldh 214 (.s 213) 1 false), .i (.bld 215 [.int .i64 0, .int .i64 0, .int .i64 0, .int .i64 0, .int .i64 0, .int .i64 0, .int .i64 0, .int .i64 0] [(0,1,(.s 199)),(1,1,(.s 200)),(2,1,(.s 202)),(3,1,(.s 204)),(4,1,(.s 209)),(5,1,(.s 210)),(6,1,(.s 212)),(7,1,(.s 214))]), .i (.sth (.s 9) (.s 215) 8)])))))))) (.ops [.i (.bin 216 .add (.s 132) (qi 1)),qm 132 216]))))))) (.seq (.ops [.i (.bse 217),qm 23 217]) (.seq (.seq (.ops [.i (.mov 218 (qi 0))]) (.block 8 (.loop [233,232,231,230,229,228,227,226,225,224,223,222,221,220,219,24] (.seq (.ops [.i (.bin 219 .lss (.s 218) (qi 8))]) (.seq (.cond (.s 219) .skip (.exit 8)) (.seq (.block 9 (.seq (.ops [qm 220 218,qm 24 220]) (.ops [qm 221 23,qm 222 0,qm 223 24, .i (.iad 224 (.s 222) (.s 223) 1), .i (.ldh 225 (.s 224) 1 false),qm 226 24, .i (.iaa 227 (.s 9) (.s 226) 1 8), .i (.ldh 228 (.s 227) 1 false),qd 229 .add 225 228, .i (.bin 230 .and (.s 229) (qi 4294967295)), .i (.lsl 231 1 1 [.int .i64 0] [(0,1,(.s 230))]), .i (.app 232 3 1 8 (.s 221) (.s 231)),qm 23 232]))) (.ops [.i (.bin 233 .add (.s 218) (qi 1)),qm 218 233]))))))) (.seq (.ops [qm 234 23,qm 4 234]) .ret)))))))))))⟩
theorem qY:cd i7=some jz:=by kernel_rfl
theorem pJ (h:List Int) (b:Bytes) (hl:h.length=8) (hw:∀x∈h,word x=true) (hb:b.length=64):VC cd i7 (bf [(false,[.sl (ints h)]),(false,[.sl (bytes b)])]) (fun rs _=>rs= [(false,[.o true (some (3,1)) (ints (me h b))])]):=by
 refine aa qY rfl ?_
 simp(disch:=omega) [jz,bh,an,hl,hb,VY]
 refine aI (σ:=Nat) (f1:=_) (es0:=_) (by simp(disch:=omega) [VY];rfl) (by simp(disch:=omega) [VY];rfl) (fun i=> [(35, .val false [.int .i64 i])]) (fun _=> []) (fun i g=>g+i=8) 0 8 (by simp(disch:=omega) [VY]) (by simp(disch:=omega) [VY]) (by omega) ?_
 rintro i n g hg
 simp(disch:=omega) [VY]
 refine ab (fun h1=> ?_) (fun h1=> ?_)
 ·have hx:i < h.length:=by omega
  simp(disch:=omega) [tR hx,VY]
  refine aj (vL _) rfl rfl ?_
  have hq:word (gi h i)=true:=hw _ (p0 hx)
  simp(disch:=omega) [hq,VY]
  exact⟨i+1,g - 1,by omega,by omega,by omega⟩
 have hi:i=8:=by omega
 subst hi
 simp(disch:=omega) [VY]
 refine aj (BO) rfl rfl ?_
 simp(disch:=omega) [VY]
 refine aI (σ:=Nat) (f1:=_) (es0:=_) (by simp(disch:=omega) [VY];rfl) (by simp(disch:=omega) [VY];rfl) (fun k=> [(46, .val false [.int .i64 k]),(7, .box (lX (arr b k)))]) (fun _=> []) (fun k g=>g+k=16) 0 16 (by simp(disch:=omega) [lX,arr,dt,VY]) (by simp(disch:=omega) [VY]) (by omega) ?_
 rintro k n g hg
 simp(disch:=omega) [VY]
 refine ab (fun h2=> ?_) (fun h2=> ?_)
 ·have hk:k < 16:=by omega
  have q1:((4:Int) * (k:Int)).toNat=4 * k:=by omega
  have q2:((4:Int) * (k:Int)+1).toNat=4 * k+1:=by omega
  have q3:((4:Int) * (k:Int)+2).toNat=4 * k+2:=by omega
  have q4:((4:Int) * (k:Int)+3).toNat=4 * k+3:=by omega
  have p1:(0:Int)≤(4:Int) * (k:Int)∧(0:Int)≤(4:Int) * (k:Int)+1∧(0:Int)≤(4:Int) * (k:Int)+2∧(0:Int)≤(4:Int) * (k:Int)+3:=by omega
  obtain⟨p1,p2,p3,p4⟩:=p1
  have r1:=cV b (4 * k)
  have r2:=cV b (4 * k+1)
  have r3:=cV b (4 * k+2)
  have r4:=cV b (4 * k+3)
  have p5:(k:Int) < 64:=by omega
  have p6:k≤63:=by omega
  have e1:=xi b (show k≤64 by omega)
  have e2:=fun x=>AU b (show k < 64 by omega) x
  simp(disch:=omega) [an,hb,q1,q2,q3,q4,p1,p2,p3,p4,p5,p6,e1,e2,j6 (show 4 * k < b.length by omega),j6 (show 4 * k+1 < b.length by omega),j6 (show 4 * k+2 < b.length by omega),j6 (show 4 * k+3 < b.length by omega),VY]
  exact⟨k+1,g - 1,by omega,by omega,⟨BU b hk,by omega⟩⟩
 have hk:k=16:=by omega
 subst hk
 simp(disch:=omega) [VY]
 refine aI (σ:=Nat) (f1:=_) (es0:=_) (by simp(disch:=omega) [VY];rfl) (by simp(disch:=omega) [VY];rfl) (fun k=> [(11, .val false [.int .i64 k]),(7, .box (lX (arr b k)))]) (fun _=> []) (fun k g=>g+k=64∧16≤k) 16 48 (by simp(disch:=omega) [VY]) (by simp(disch:=omega) [VY]) (by omega) ?_
 rintro k n g hg
 simp(disch:=omega) [VY]
 refine ab (fun h3=> ?_) (fun h3=> ?_)
 ·have hk:k < 64:=by omega
  obtain⟨p1,p2,p3⟩:(15:Int)≤(k:Int)∧((k:Int) - 15).toNat=k - 15∧(k:Int) - 15 < 64:=by omega
  obtain⟨p4,p5,p6⟩:(2:Int)≤(k:Int)∧((k:Int) - 2).toNat=k - 2∧(k:Int) - 2 < 64:=by omega
  obtain⟨p7,p8,p9⟩:(16:Int)≤(k:Int)∧((k:Int) - 16).toNat=k - 16∧(k:Int) - 16 < 64:=by omega
  obtain⟨q1,q2,q3⟩:(7:Int)≤(k:Int)∧((k:Int) - 7).toNat=k - 7∧(k:Int) - 7 < 64:=by omega
  have p10:(k:Int) < 64:=by omega
  have p11:k≤63:=by omega
  obtain⟨t1,t2,t3,t4⟩:k≤78∧k≤65∧k≤79∧k≤70:=by omega
  have e1:=xi b (show k≤64 by omega)
  have e2:=fun x=>AU b (show k < 64 by omega) x
  have g1:=ob b (show k≤64 by omega) (show k - 15 < k by omega)
  have g2:=ob b (show k≤64 by omega) (show k - 2 < k by omega)
  have g3:=ob b (show k≤64 by omega) (show k - 16 < k by omega)
  have g4:=ob b (show k≤64 by omega) (show k - 7 < k by omega)
  have hwl:=dz b k
  have w1:=pX b k _ (p0 (show k - 15 < (dt b k).length by omega))
  have w2:=pX b k _ (p0 (show k - 2 < (dt b k).length by omega))
  simp(disch:=omega) [e1,p1,p2,p3,p4,p5,p6,g1,g2,t1,t2,VY]
  refine aj (bI _ 7 (by omega) w1) rfl rfl ?_
  simp(disch:=omega) [VY]
  refine aj (bI _ 18 (by omega) w1) rfl rfl ?_
  simp(disch:=omega) [VY]
  refine aj (bI _ 17 (by omega) w2) rfl rfl ?_
  simp(disch:=omega) [VY]
  refine aj (bI _ 19 (by omega) w2) rfl rfl ?_
  simp(disch:=omega) [e1,e2,p7,p8,p9,q1,q2,q3,p10,p11,g3,g4,t3,t4,VY]
  exact⟨k+1,g - 1,by omega,by omega,BD b (by omega),by omega⟩
 have hk:k=64:=by omega
 subst hk
 have c1:((ints h).take 8).flatten=lX h:=by rw[List.take_of_length_le (by rw[bh];omega)];exact Dw h
 have c2:aE [.int .i64 0, .int .i64 0, .int .i64 0, .int .i64 0, .int .i64 0, .int .i64 0, .int .i64 0, .int .i64 0] 0 (lX h)=lX h:=vd (by rw[xl,hl];rfl)
 simp(disch:=omega) [bh,hl,eV,gF,c1,c2,VY]
 refine aI (σ:=Nat×Nat) (f1:=_) (es0:=_) (by simp(disch:=omega) [VY];rfl) (by simp(disch:=omega) [VY];rfl) (fun p=> [(132, .val false [.int .i64 p.1]),(9, .val false [.pt 9 p.2 0])]) (fun p=> [(9, .pt p.2 261 (lX (eB h b p.1)))]) (fun p g=>g+p.1=64) (0,_) 64 (by simp(disch:=omega) [VY];rfl) (by simp(disch:=omega) [eB,VY]) (by omega) ?_
 rintro⟨k,v⟩ n g hg
 simp only at hg
 simp(disch:=omega) [VY]
 refine ab (fun h4=> ?_) (fun h4=> ?_)
 ·have hk:k < 64:=by omega
  have hv:=kc hl b k
  have e1:(lX (eB h b k)).length=8:=by rw[xl,hv]
  have e2:(ints kk).length=64:=rfl
  have e3:=xi b (show 64≤64 by omega)
  have p1:(k:Int) < 64:=by omega
  have p2:k≤63:=by omega
  have g1:∀i,i < 8→((lX (eB h b k)).drop i).take 1= [.int .i64 (gi (eB h b k) i)]:=fun i hi=>vR (by omega)
  have g2:=ob b (show 64≤64 by omega) hk
  have g0:(lX (eB h b k)).take 1= [.int .i64 (gi (eB h b k) 0)]:=g1 0 (by omega)
  have w1:=pa hl hw b k _ (p0 (show 4 < (eB h b k).length by omega))
  have w2:=pa hl hw b k _ (p0 (show 0 < (eB h b k).length by omega))
  have g01:(lX (eB h b k)).tail.take 1= [.int .i64 (gi (eB h b k) 1)]:=by have:=g1 1 (by omega);simpa using this
  simp(disch:=omega) [e1,e2,e3,g0,g01,g1,g2,dE,p1,p2,VY]
  refine aj (bI _ 6 (by omega) w1) rfl rfl ?_
  simp(disch:=omega) [VY]
  refine aj (bI _ 11 (by omega) w1) rfl rfl ?_
  simp(disch:=omega) [VY]
  refine aj (bI _ 25 (by omega) w1) rfl rfl ?_
  simp(disch:=omega) [e1,e2,e3,g0,g01,g1,g2,dE,p1,p2,VY]
  refine aj (bI _ 2 (by omega) w2) rfl rfl ?_
  simp(disch:=omega) [VY]
  refine aj (bI _ 13 (by omega) w2) rfl rfl ?_
  simp(disch:=omega) [VY]
  refine aj (bI _ 22 (by omega) w2) rfl rfl ?_
  have hset:∀a b' c d e f g' h',aE (lX (eB h b k)) 0 [a,b',c,d,e,f,g',h']= [a,b',c,d,e,f,g',h']:=fun _ _ _ _ _ _ _ _=>vd (by rw[e1];rfl)
  simp(disch:=omega) [e1,e2,e3,g0,g01,g1,g2,dE,p1,p2,hset,VY]
  simp only[Iz w1,GK]
  exact⟨k+1,_,g - 1,by omega,by omega,⟨rfl,by omega⟩,rfl,rfl⟩
 have hk:k=64:=by omega
 subst hk
 simp(disch:=omega) [VY]
 refine aI (σ:=Nat×Nat) (f1:=_) (es0:=_) (by simp(disch:=omega) [VY];rfl) (by simp(disch:=omega) [VY];rfl) (fun p=> [(218, .val false [.int .i64 p.1]),(23, .val false [.ow 217 p.2])]) (fun p=> [(217, .sl p.2 true true (some (3,1)) (ints ((me h b).take p.1)))])
  (fun p g=>g+p.1=8) (0,_) 8 (by simp(disch:=omega) [VY];rfl) (by simp(disch:=omega) [ints,VY]) (by omega) ?_
 rintro⟨k,w⟩ n g hg
 simp only at hg
 simp(disch:=omega) [VY]
 refine ab (fun h5=> ?_) (fun h5=> ?_)
 ·have hk:k < 8:=by omega
  have hv:=kc hl b 64
  have e1:(lX (eB h b 64)).length=8:=by rw[xl,hv]
  have e2:(ints h).length=8:=by rw[bh,hl]
  have e3:(ints ((me h b).take k)).length=k:=by rw[bh];simp[me];omega
  have p1:(k:Int) < 8:=by omega
  have p2:k≤7:=by omega
  have g1:((lX (eB h b 64)).drop k).take 1= [.int .i64 (gi (eB h b 64) k)]:=vR (by omega)
  simp(disch:=omega) [e1,e2,e3,g1,p1,p2,dE,eV,gF,VY]
  exact⟨k+1,_,g - 1,by omega,by omega,⟨rfl,by omega⟩,rfl,vl h b hk⟩
 ·have hk:k=8:=by omega
  subst hk
  simp(disch:=omega) [VY]
  rw[List.take_of_length_le (by simp[me])]
end Go.Eng.F
namespace Go.Eng.F
theorem AQ (b:Bytes):(pad b).length=b.length+1+zc b.length+8∧(pad b).length % 64=0:=by
 have h:=oE b.length
 have e:(pad b).length=b.length+1+zc b.length+8:=by simp[pad,jO];omega
 omega
def hs (b:Bytes):Nat→List Int
 |0=>init
 |n+1=>me (hs b n) (((pad b).drop (64 * n)).take 64)
theorem pQ (b:Bytes):∀n,(hs b n).length=8
 |0=>rfl
 |n+1=>by simp[hs,me]
theorem Ba (b:Bytes):∀n,∀x∈hs b n,word x=true
 |0,x,hx=>by
  have h:∀x∈init,word x=true:=by decide
  exact h x hx
 |n+1,x,hx=>by
  simp only[hs,me,List.mem_map]at hx
  obtain⟨i,_,rfl⟩:=hx
  exact oO _
def b8 (y:Int):UInt8:=UInt8.ofNat (IntKind.u8.wrap y).toNat
theorem G6 (y:Int):((b8 y).toNat:Int)=IntKind.u8.wrap y:=by
 obtain⟨h1,h2⟩:=Az .u8 y
 have e1:IntKind.u8.min=0:=rfl
 have e2:IntKind.u8.max=255:=rfl
 unfold b8
 rw[UInt8.toNat_ofNat']
 omega
def w4 (x:Int):Bytes:= [b8 (x.fdiv (2 ^ min 24 IntKind.i64.bits)),b8 (x.fdiv (2 ^ min 16 IntKind.i64.bits)),b8 (x.fdiv (2 ^ min 8 IntKind.i64.bits)),b8 x]
theorem zZ {l:List Int} {k:Nat} (h:k < l.length):bytes ((l.take (k+1)).flatMap w4)=bytes ((l.take k).flatMap w4)++ [[.int .u8 (IntKind.u8.wrap ((gi l k).fdiv (2 ^ min 24 IntKind.i64.bits)))],[.int .u8 (IntKind.u8.wrap ((gi l k).fdiv (2 ^ min 16 IntKind.i64.bits)))],[.int .u8 (IntKind.u8.wrap ((gi l k).fdiv (2 ^ min 8 IntKind.i64.bits)))],[.int .u8 (IntKind.u8.wrap (gi l k))]]:=by
 have e:gi l k=l[k]:=by simp[gi,h]
 rw[List.take_add_one,List.getElem?_eq_getElem h,e]
 simp only[List.flatMap_append,Option.toList_some,List.flatMap_cons,List.flatMap_nil,List.append_nil,bytes,List.map_append,w4,List.map_cons,List.map_nil,G6]
theorem wY:∀(l:List Int) (k:Nat),k≤l.length→((l.take k).flatMap w4).length=4 * k
 |_,0,_=>by simp
 | [],k+1,h=>by simp at h
 |x::l,k+1,h=>by
  have:=wY l k (by simpa using h)
  simp only[List.take_succ_cons,List.flatMap_cons,List.length_append,this]
  simp only[w4,List.length_cons,List.length_nil]
  omega
def uV (b:Bytes):Bytes:=(hs b ((pad b).length / 64)).flatMap w4
abbrev sW:Nat:=130
def tM:AF:=⟨1,6,[.tmp 2],(.seq (.ops [.i (.mov 2 (.c (.val false [.nils])))]) (.seq (.ops [.i (.call 10 217 false []),qm 10 0,qk 12 218 10,qm 3 9,qm 4 11]) (.seq (.seq (.ops [.i (.mov 5 (qi 0))]) (.block 0 (.loop [24,23,22,21,20,19,18,17,16,15,14,13,12] (.seq (.seq (.ops [qm 12 5,qm 13 4,qn 14 13,qd 15 .lss 12 14]) (.cond (.s 15) .skip (.exit 0))) (.seq (.block 1 (.ops [qm 18 3,qm 19 4,qm 20 5,qm 21 5, .i (.bin 22 .add (.s 21) (qi 64)), .i (.ee 23 1 (.s 19) (some (.s 20)) (some (.s 22))), .i (.call 25 219 false [(.s 18),(.s 23)]),qm 3 24])) (.ops [qm 16 5, .i (.bin 17 .add (.s 16) (qi 64)),qm 5 17])))))) (.seq (.ops [.i (.bse 25),qm 6 25]) (.seq (.seq (.ops [qm 26 3,qn 27 26, .i (.mov 28 (qi 0))]) (.block 2 (.loop [46,45,44,43,42,41,40,39,38,37,36,35,34,33,32,31,30,29,8] (.seq (.ops [qd 29 .lss 28 27]) (.seq (.cond (.s 29) .skip (.exit 2)) (.seq (.block 3 (.seq (.ops [.i (.iad 30 (.s 26) (.s 28) 1), .i (.ldh 31 (.s 30) 1 false),qm 8 31]) (.ops [qm 32 6,qm 33 8, .i (.bin 34 .shr (.s 33) (.c (.val false [.int .u64 24]))), .i (.cvi 35 .u8 (.s 34)),qm 36 8, .i (.bin 37 .shr (.s 36) (.c (.val false [.int .u64 16]))), .i (.cvi 38 .u8 (.s 37)),qm 39 8, .i (.bin 40 .shr (.s 39) (.c (.val false [.int .u64 8]))), .i (.cvi 41 .u8 (.s 40)),qm 42 8, .i (.cvi 43 .u8 (.s 42)), .i (.lsl 44 1 4 [.int .u8 0] [(0,1,(.s 35)),(1,1,(.s 38)),(2,1,(.s 41)),(3,1,(.s 43))]), .i (.app 45 5 1 1 (.s 32) (.s 44)),qm 6 45]))) (.ops [.i (.bin 46 .add (.s 28) (qi 1)),qm 28 46]))))))) (.seq (.ops [qm 47 6,qm 2 47]) .ret))))))⟩
theorem zk:cd sW=some tM:=by kernel_rfl
theorem fI (b:Bytes) (hb:b.length≤1073741824):VC cd sW (bf [(false,[.sl (bytes b)])]) (fun rs _=>rs= [(false,[.o true (some (5,1)) (bytes (uV b))])]):=by
 have hp:=AQ b
 have hz:=oE b.length
 refine aa zk rfl ?_
 simp(disch:=omega) [tM,VY]
 refine aj (qQ) rfl rfl ?_
 simp(disch:=omega) [VY]
 refine aj (sV b hb) rfl rfl ?_
 simp(disch:=omega) [VY]
 refine s4 (σ:=Nat×Nat) (f0:=_) (by simp(disch:=omega) [VY];rfl) ((dS.JB (.ow 106496 2)).trans (dS.Jo (s:=3) (k:=90112) (k':=212992) (by simp(disch:=omega) [VY]) rfl (by omega))) (f1:=_) (es0:=_) (by simp(disch:=omega) [VY];rfl) (by simp(disch:=omega) [oM,fx,gX,St.put,VY];rfl) (fun p=> [(5, .val false [.int .i64 (64 * (p.1:Int))]),(3, .val false [.ow 212992 p.2])]) (fun p=> [(212992, .sl p.2 true true (some (3,1)) (ints (hs b p.1)))])
  (fun p g=>g+p.1=(pad b).length / 64) (0,_) ((pad b).length / 64) (by simp(disch:=omega) [oM,gX,St.put,VY];rfl) (by simp(disch:=omega) [hs,oM,fx,gX,St.put,VY]) (by omega) ?_
 rintro⟨k,v⟩ n g hg
 simp only at hg
 simp(disch:=omega) [an,VY]
 refine ab (fun h1=> ?_) (fun h1=> ?_)
 ·have hk:64 * k+64≤(pad b).length:=by omega
  have p1:(64:Int) * (k:Int)+64≤((pad b).length:Int):=by omega
  have p2:((64:Int) * (k:Int)).toNat=64 * k:=by omega
  have p3:(0:Int)≤64 * (k:Int):=by omega
  have p4:((64:Int) * (k:Int)+64 - 64 * (k:Int)).toNat=64:=by omega
  have p5:(64:Int) * (k:Int)≤64 * (k:Int)+64:=by omega
  have hx:((bytes (pad b)).drop (64 * k)).take 64=bytes (((pad b).drop (64 * k)).take 64):=by simp[bytes]
  simp(disch:=omega) [an,p1,p2,p3,p4,p5,hx,pU,VY]
  refine bp (pJ (hs b k) (((pad b).drop (64 * k)).take 64) (pQ b k) (Ba b k) (by simp;omega)) ?_
  simp(disch:=omega) [VY]
  exact⟨k+1,_,g - 1,by omega,by omega,⟨rfl,by omega⟩,rfl,rfl⟩
 have hk:k=(pad b).length / 64:=by omega
 subst hk
 have hl:=pQ b ((pad b).length / 64)
 simp(disch:=omega) [bh,hl,VY]
 refine aI (σ:=Nat×Nat) (f1:=_) (es0:=_) (by simp(disch:=omega) [VY];rfl) (by simp(disch:=omega) [VY];rfl) (fun p=> [(28, .val false [.int .i64 p.1]),(6, .val false [.ow 25 p.2])]) (fun p=> [(25, .sl p.2 true true (some (5,1)) (bytes (((hs b ((pad b).length / 64)).take p.1).flatMap w4)))])
  (fun p g=>g+p.1=8) (0,_) 8 (by simp(disch:=omega) [VY];rfl) (by simp(disch:=omega) [bytes,VY]) (by omega) ?_
 rintro⟨k,w⟩ n g hg
 simp only at hg
 simp(disch:=omega) [VY]
 refine ab (fun h2=> ?_) (fun h2=> ?_)
 ·have hk:k < 8:=by omega
  have e1:(ints (hs b ((pad b).length / 64))).length=8:=by rw[bh,hl]
  have e2:(bytes (((hs b ((pad b).length / 64)).take k).flatMap w4)).length=4 * k:=by rw[an];exact wY _ _ (by omega)
  simp(disch:=omega) [e1,e2,dE,VY]
  exact⟨k+1,_,g - 1,by omega,by omega,⟨by omega,rfl⟩,rfl,zZ (by omega)⟩
 ·have hk:k=8:=by omega
  subst hk
  simp(disch:=omega) [VY]
  rw[List.take_of_length_le (by omega)]
  rfl
abbrev tZ:Nat:=205
def tL:AF:=⟨1,6,[.tmp 2],(.seq (.ops [.i (.mov 2 (.c (.val false [.nils])))]) (.seq (.ops [.i (.call 10 257 false []),qm 3 9]) (.seq (.ops [qm 10 0,qk 12 258 10,qm 4 11]) (.seq (.seq (.ops [.i (.mov 5 (qi 0))]) (.block 0 (.loop [24,23,22,21,20,19,18,17,16,15,14,13,12] (.seq (.seq (.ops [qm 12 5,qm 13 4,qn 14 13,qd 15 .lss 12 14]) (.cond (.s 15) .skip (.exit 0))) (.seq (.block 1 (.ops [qm 18 3,qm 19 4,qm 20 5,qm 21 5, .i (.bin 22 .add (.s 21) (qi 64)), .i (.ee 23 1 (.s 19) (some (.s 20)) (some (.s 22))), .i (.call 25 259 false [(.s 18),(.s 23)]),qm 3 24])) (.ops [qm 16 5, .i (.bin 17 .add (.s 16) (qi 64)),qm 5 17])))))) (.seq (.ops [.i (.bse 25),qm 6 25]) (.seq (.seq (.ops [qm 26 3,qn 27 26, .i (.mov 28 (qi 0))]) (.block 2 (.loop [46,45,44,43,42,41,40,39,38,37,36,35,34,33,32,31,30,29,8] (.seq (.ops [qd 29 .lss 28 27]) (.seq (.cond (.s 29) .skip (.exit 2)) (.seq (.block 3 (.seq (.ops [.i (.iad 30 (.s 26) (.s 28) 1), .i (.ldh 31 (.s 30) 1 false),qm 8 31]) (.ops [qm 32 6,qm 33 8, .i (.bin 34 .shr (.s 33) (.c (.val false [.int .u64 24]))), .i (.cvi 35 .u8 (.s 34)),qm 36 8, .i (.bin 37 .shr (.s 36) (.c (.val false [.int .u64 16]))), .i (.cvi 38 .u8 (.s 37)),qm 39 8, .i (.bin 40 .shr (.s 39) (.c (.val false [.int .u64 8]))), .i (.cvi 41 .u8 (.s 40)),qm 42 8, .i (.cvi 43 .u8 (.s 42)), .i (.lsl 44 1 4 [.int .u8 0] [(0,1,(.s 35)),(1,1,(.s 38)),(2,1,(.s 41)),(3,1,(.s 43))]), .i (.app 45 5 1 1 (.s 32) (.s 44)),qm 6 45]))) (.ops [.i (.bin 46 .add (.s 28) (qi 1)),qm 28 46]))))))) (.seq (.ops [qm 47 6,qm 2 47]) .ret)))))))⟩
theorem zu:cd tZ=some tL:=by kernel_rfl
theorem fC (b:Bytes) (hb:b.length≤1073741824):VC cd tZ (bf [(false,[.sl (bytes b)])]) (fun rs _=>rs= [(false,[.o true (some (5,1)) (bytes (uV b))])]):=by
 have hp:=AQ b
 have hz:=oE b.length
 refine aa zu rfl ?_
 simp(disch:=omega) [tL,VY]
 refine aj (rm) rfl rfl ?_
 simp(disch:=omega) [VY]
 refine aj (sj b hb) rfl rfl ?_
 simp(disch:=omega) [VY]
 refine s4 (σ:=Nat×Nat) (f0:=_) (by simp(disch:=omega) [VY];rfl) ((dS.JB (.ow 106496 2)).trans (dS.Jo (s:=3) (k:=90112) (k':=212992) (by simp(disch:=omega) [VY]) rfl (by omega))) (f1:=_) (es0:=_) (by simp(disch:=omega) [VY];rfl) (by simp(disch:=omega) [oM,fx,gX,St.put,VY];rfl) (fun p=> [(5, .val false [.int .i64 (64 * (p.1:Int))]),(3, .val false [.ow 212992 p.2])]) (fun p=> [(212992, .sl p.2 true true (some (3,1)) (ints (hs b p.1)))])
  (fun p g=>g+p.1=(pad b).length / 64) (0,_) ((pad b).length / 64) (by simp(disch:=omega) [oM,gX,St.put,VY];rfl) (by simp(disch:=omega) [hs,oM,fx,gX,St.put,VY]) (by omega) ?_
 rintro⟨k,v⟩ n g hg
 simp only at hg
 simp(disch:=omega) [an,VY]
 refine ab (fun h1=> ?_) (fun h1=> ?_)
 ·have hk:64 * k+64≤(pad b).length:=by omega
  have p1:(64:Int) * (k:Int)+64≤((pad b).length:Int):=by omega
  have p2:((64:Int) * (k:Int)).toNat=64 * k:=by omega
  have p3:(0:Int)≤64 * (k:Int):=by omega
  have p4:((64:Int) * (k:Int)+64 - 64 * (k:Int)).toNat=64:=by omega
  have p5:(64:Int) * (k:Int)≤64 * (k:Int)+64:=by omega
  have hx:((bytes (pad b)).drop (64 * k)).take 64=bytes (((pad b).drop (64 * k)).take 64):=by simp[bytes]
  simp(disch:=omega) [an,p1,p2,p3,p4,p5,hx,pU,VY]
  refine bp (pK (hs b k) (((pad b).drop (64 * k)).take 64) (pQ b k) (Ba b k) (by simp;omega)) ?_
  simp(disch:=omega) [VY]
  exact⟨k+1,_,g - 1,by omega,by omega,⟨rfl,by omega⟩,rfl,rfl⟩
 have hk:k=(pad b).length / 64:=by omega
 subst hk
 have hl:=pQ b ((pad b).length / 64)
 simp(disch:=omega) [bh,hl,VY]
 refine aI (σ:=Nat×Nat) (f1:=_) (es0:=_) (by simp(disch:=omega) [VY];rfl) (by simp(disch:=omega) [VY];rfl) (fun p=> [(28, .val false [.int .i64 p.1]),(6, .val false [.ow 25 p.2])]) (fun p=> [(25, .sl p.2 true true (some (5,1)) (bytes (((hs b ((pad b).length / 64)).take p.1).flatMap w4)))])
  (fun p g=>g+p.1=8) (0,_) 8 (by simp(disch:=omega) [VY];rfl) (by simp(disch:=omega) [bytes,VY]) (by omega) ?_
 rintro⟨k,w⟩ n g hg
 simp only at hg
 simp(disch:=omega) [VY]
 refine ab (fun h2=> ?_) (fun h2=> ?_)
 ·have hk:k < 8:=by omega
  have e1:(ints (hs b ((pad b).length / 64))).length=8:=by rw[bh,hl]
  have e2:(bytes (((hs b ((pad b).length / 64)).take k).flatMap w4)).length=4 * k:=by rw[an];exact wY _ _ (by omega)
  simp(disch:=omega) [e1,e2,dE,VY]
  exact⟨k+1,_,g - 1,by omega,by omega,⟨by omega,rfl⟩,rfl,zZ (by omega)⟩
 ·have hk:k=8:=by omega
  subst hk
  simp(disch:=omega) [VY]
  rw[List.take_of_length_le (by omega)]
  rfl
end Go.Eng.F
namespace Go.Eng.F
theorem dG (b:Bytes):(uV b).length=32:=by
 have h:=wY (hs b ((pad b).length / 64)) 8 (by rw[pQ];omega)
 rw[List.take_of_length_le (by rw[pQ];omega)]at h
 exact h
end Go.Eng.F
