import Derived.Test.YtfackchfbefaiaaGreatProg
import Derived.KernelRfl
import Derived.Test.YtfackchfbefaiaaGreatGe
import Derived.Test.YtfackchfbefaiaaGreatGf
set_option maxRecDepth 100000
set_option linter.unusedSimpArgs false
set_option linter.unusedVariables false
namespace Go.Eng.F
def qi (n:Int):X:= .c (.val false [.int .i64 n])
def qb (b:Bool):X:= .c (.val false [.bool b])
def qm (a b:Nat):IT:= .i (.mov a (.s b))
def qf (a b n:Nat):IT:= .i (.fad a (.s b) n)
def ql (a b c n:Nat) (g:Bool):IT:= .i (.ldl a b (.s c) n g)
def qs (a b c n:Nat):IT:= .i (.stl a (.s b) (.s c) n)
def qn (a b:Nat):IT:= .i (.len a false (.s b))
def qd (a:Nat) (o:B2) (b c:Nat):IT:= .i (.bin a o (.s b) (.s c))
def qk (a b c:Nat):IT:= .i (.call a b false [(.s c)])
def qz:List C:= [.int .i64 0, .int .i64 0, .int .i64 0, .nils, .nils, .int .i64 0, .int .i64 0, .nils, .nils, .nils]
theorem VY:type_of% (And.intro @VW (And.intro @qi.eq_1 (And.intro @qb.eq_1 (And.intro @qm.eq_1 (And.intro @qf.eq_1 (And.intro @ql.eq_1 (And.intro @qs.eq_1 (And.intro @qn.eq_1 (And.intro @qd.eq_1 (And.intro @qk.eq_1 @qz.eq_1)))))))))):=And.intro @VW (And.intro @qi.eq_1 (And.intro @qb.eq_1 (And.intro @qm.eq_1 (And.intro @qf.eq_1 (And.intro @ql.eq_1 (And.intro @qs.eq_1 (And.intro @qn.eq_1 (And.intro @qd.eq_1 (And.intro @qk.eq_1 @qz.eq_1)))))))))
theorem VZ:type_of% (And.intro @VY @VQ):=And.intro @VY @VQ
noncomputable abbrev cd:=code Proofs.Tryz.prog
def df (l:List Bytes):List (List D):=l.map fun x=> [.sl (bytes x)]
theorem cn (l:List Bytes):(df l).length=l.length:=by simp[df]
theorem GD {l:List Bytes} {i:Nat} (h:i < l.length):(df l)[i]? =some [.sl (bytes l[i])]:=by simp[df,h]
theorem bP {x:Bytes} {i:Nat} (h:i < x.length):(bytes x)[i]? =some [.int .u8 (x[i].toNat:Int)]:=by simp[bytes,h]
theorem Ig {α:Type} {p:α→Prop} {l:List α} {i:Nat} (h:∀x∈l.take i,p x) (hi:i < l.length) (hx:p l[i]):∀x∈l.take (i+1),p x:=by
 intro x hm
 rw[List.take_add_one,List.getElem?_eq_getElem hi]at hm
 rcases List.mem_append.1 hm with hm|hm
 ·exact h x hm
 ·simp at hm;subst hm;exact hx
def dR (n lo hi:Int):Bool:=decide (lo≤n∧n≤hi)
abbrev pN:Nat:=103
def qZ:AF:=⟨3,4,[.tmp 6],(.seq (.ops [.i (.mov 6 (qb false))]) (.seq (.ops [qm 7 1,qm 8 0,qd 9 .leq 7 8,qm 10 9, .g 10 true 12 (.mov 11 (.s 0)), .g 10 true 13 (.mov 12 (.s 2)), .g 10 true 14 (.bin 13 .leq (.s 11) (.s 12)), .i (.pick 14 (.s 10) (.s 13) (qb false)),qm 6 14]) .ret))⟩
theorem zM:cd pN=some qZ:=by kernel_rfl
theorem bA (n lo hi:Int):VC cd pN (bJ [(false,[.int .i64 n]),(false,[.int .i64 lo]),(false,[.int .i64 hi])]) (fun rs _=>rs=bl (dR n lo hi)):=by
 refine aa zM rfl ?_
 simp(disch:=omega) [qZ,VY]
 refine aj (fun h1=> ?_) (fun h1=> ?_) <;>simp(disch:=omega) [h1,dR,VY]
abbrev tA:Nat:=67
def tF:AF:=⟨3,4,[.tmp 6],(.seq (.ops [.i (.mov 6 (qb false))]) (.seq (.ops [qm 7 0,qm 8 1,qd 9 .geq 7 8,qm 10 9, .g 10 true 12 (.mov 11 (.s 0)), .g 10 true 13 (.mov 12 (.s 2)), .g 10 true 14 (.bin 13 .leq (.s 11) (.s 12)), .i (.pick 14 (.s 10) (.s 13) (qb false)),qm 6 14]) .ret))⟩
theorem CE:cd tA=some tF:=by kernel_rfl
theorem dN (n lo hi:Int):VC cd tA (bJ [(false,[.int .i64 n]),(false,[.int .i64 lo]),(false,[.int .i64 hi])]) (fun rs _=>rs=bl (dR n lo hi)):=by
 refine aa CE rfl ?_
 simp(disch:=omega) [tF,VY]
 refine aj (fun h1=> ?_) (fun h1=> ?_) <;>simp(disch:=omega) [h1,dR,VY]
structure ao where
 n:Int
 tx:Int
 txs:Int
 frame:Int
 heads:Int
def ao.c (l:ao):List D:= [.int .i64 l.n, .int .i64 l.tx, .int .i64 l.txs, .int .i64 l.frame, .int .i64 l.heads]
def ao.ok (l:ao):Bool:=dR l.n 1 10 && dR l.tx 0 40 && dR l.txs 0 8 && dR l.frame 1 4000 && dR l.heads 3 5
abbrev kZ:Nat:=70
def lS:AF:=⟨1,5,[.tmp 2],(.seq (.ops [.i (.lbox 1 (.s 0)), .i (.mov 2 (qb false))]) (.seq (.ops [qf 3 1 0,ql 4 1 3 1 false, .i (.call 6 103 false [(.s 4),(qi 1),(qi 10)]),qm 6 5, .g 6 true 8 (.fad 7 (.s 1) 1), .g 6 true 9 (.ldl 8 1 (.s 7) 1 false), .g 6 true 10 (.call 10 103 false [(.s 8),(qi 0),(qi 40)]), .i (.pick 10 (.s 6) (.s 9) (qb false)),qm 11 10, .g 11 true 13 (.fad 12 (.s 1) 2), .g 11 true 14 (.ldl 13 1 (.s 12) 1 false), .g 11 true 15 (.call 15 103 false [(.s 13),(qi 0),(qi 8)]), .i (.pick 15 (.s 11) (.s 14) (qb false)),qm 16 15, .g 16 true 18 (.fad 17 (.s 1) 3), .g 16 true 19 (.ldl 18 1 (.s 17) 1 false), .g 16 true 20 (.call 20 103 false [(.s 18),(qi 1),(qi 4000)]), .i (.pick 20 (.s 16) (.s 19) (qb false)),qm 21 20, .g 21 true 23 (.fad 22 (.s 1) 4), .g 21 true 24 (.ldl 23 1 (.s 22) 1 false), .g 21 true 25 (.call 25 103 false [(.s 23),(qi 3),(qi 5)]), .i (.pick 25 (.s 21) (.s 24) (qb false)),qm 2 25]) .ret))⟩
theorem wA:cd kZ=some lS:=by kernel_rfl
theorem bz (l:ao):VC cd kZ (bJ [(true,l.c)]) (fun rs _=>rs=bl l.ok):=by
 refine aa wA rfl ?_
 simp(disch:=omega) [lS,ao.c,VY]
 refine an (bA _ _ _) rfl rfl ?_
 simp(disch:=omega) [VY]
 refine dT (fun h1=> ?_) (fun h1=> ?_) <;>simp(disch:=omega) [h1,ao.ok,VY]
 refine an (bA _ _ _) rfl rfl ?_
 simp(disch:=omega) [h1,VY]
 refine dT (fun h2=> ?_) (fun h2=> ?_) <;>simp(disch:=omega) [h1,h2,VY]
 refine an (bA _ _ _) rfl rfl ?_
 simp(disch:=omega) [h1,h2,VY]
 refine dT (fun h3=> ?_) (fun h3=> ?_) <;>simp(disch:=omega) [h1,h2,h3,VY]
 refine an (bA _ _ _) rfl rfl ?_
 simp(disch:=omega) [h1,h2,h3,VY]
 refine dT (fun h4=> ?_) (fun h4=> ?_) <;>simp(disch:=omega) [h1,h2,h3,h4,VY]
 refine an (bA _ _ _) rfl rfl ?_
 simp(disch:=omega) [h1,h2,h3,h4,VY]
abbrev i9:Nat:=118
def i7:AF:=⟨1,3,[.tmp 2],(.seq (.ops [.i (.mov 2 (qb false))]) (.seq (.ops [qm 3 0, .i (.call 5 67 false [(.s 3),(qi 1),(qi 10)]),qm 2 4]) .ret))⟩
theorem sK:cd i9=some i7:=by kernel_rfl
theorem fw (n:Int):VC cd i9 (bJ [(false,[.int .i64 n])]) (fun rs _=>rs=bl (dR n 1 10)):=by
 refine aa sK rfl ?_
 simp(disch:=omega) [i7,VY]
 refine an (dN _ _ _) rfl rfl ?_
 simp(disch:=omega) [VY]
abbrev ll:Nat:=66
def lg:AF:=⟨1,5,[.tmp 2],(.seq (.ops [.i (.lbox 1 (.s 0)), .i (.mov 2 (qb false))]) (.seq (.ops [qf 3 1 0,ql 4 1 3 1 false,qk 6 118 4,qm 6 5, .g 6 true 8 (.fad 7 (.s 1) 1), .g 6 true 9 (.ldl 8 1 (.s 7) 1 false), .g 6 true 10 (.call 10 67 false [(.s 8),(qi 0),(qi 40)]), .i (.pick 10 (.s 6) (.s 9) (qb false)),qm 11 10, .g 11 true 13 (.fad 12 (.s 1) 2), .g 11 true 14 (.ldl 13 1 (.s 12) 1 false), .g 11 true 15 (.call 15 67 false [(.s 13),(qi 0),(qi 8)]), .i (.pick 15 (.s 11) (.s 14) (qb false)),qm 16 15, .g 16 true 18 (.fad 17 (.s 1) 3), .g 16 true 19 (.ldl 18 1 (.s 17) 1 false), .g 16 true 20 (.call 20 67 false [(.s 18),(qi 1),(qi 4000)]), .i (.pick 20 (.s 16) (.s 19) (qb false)),qm 21 20, .g 21 true 23 (.fad 22 (.s 1) 4), .g 21 true 24 (.ldl 23 1 (.s 22) 1 false), .g 21 true 25 (.call 25 67 false [(.s 23),(qi 3),(qi 5)]), .i (.pick 25 (.s 21) (.s 24) (qb false)),qm 2 25]) .ret))⟩
theorem vU:cd ll=some lg:=by kernel_rfl
theorem dL (l:ao):VC cd ll (bJ [(true,l.c)]) (fun rs _=>rs=bl l.ok):=by
 refine aa vU rfl ?_
 simp(disch:=omega) [lg,ao.c,VY]
 refine an (fw _) rfl rfl ?_
 simp(disch:=omega) [VY]
 refine dT (fun h1=> ?_) (fun h1=> ?_) <;>simp(disch:=omega) [h1,ao.ok,VY]
 refine an (dN _ _ _) rfl rfl ?_
 simp(disch:=omega) [h1,VY]
 refine dT (fun h2=> ?_) (fun h2=> ?_) <;>simp(disch:=omega) [h1,h2,VY]
 refine an (dN _ _ _) rfl rfl ?_
 simp(disch:=omega) [h1,h2,VY]
 refine dT (fun h3=> ?_) (fun h3=> ?_) <;>simp(disch:=omega) [h1,h2,h3,VY]
 refine an (dN _ _ _) rfl rfl ?_
 simp(disch:=omega) [h1,h2,h3,VY]
 refine dT (fun h4=> ?_) (fun h4=> ?_) <;>simp(disch:=omega) [h1,h2,h3,h4,VY]
 refine an (dN _ _ _) rfl rfl ?_
 simp(disch:=omega) [h1,h2,h3,h4,VY]
def isNum (n:Int):Bool:=dR n 0 1152921504606846975
abbrev tt:Nat:=81
def sj:AF:=⟨1,3,[.tmp 2],(.seq (.ops [.i (.mov 2 (qb false))]) (.seq (.ops [qm 3 0, .i (.call 5 103 false [(.s 3),(qi 0),(qi 1152921504606846975)]),qm 2 4]) .ret))⟩
theorem B6:cd tt=some sj:=by kernel_rfl
theorem DN (n:Int):VC cd tt (bJ [(false,[.int .i64 n])]) (fun rs _=>rs=bl (isNum n)):=by
 refine aa B6 rfl ?_
 simp(disch:=omega) [sj,VY]
 refine an (bA _ _ _) rfl rfl ?_
 simp(disch:=omega) [isNum,VY]
abbrev qw:Nat:=78
def qt:AF:=⟨1,3,[.tmp 2],(.seq (.ops [.i (.mov 2 (qb false))]) (.seq (.ops [qm 3 0, .i (.call 5 67 false [(.s 3),(qi 0),(qi 1152921504606846975)]),qm 2 4]) .ret))⟩
theorem zm:cd qw=some qt:=by kernel_rfl
theorem Hl (n:Int):VC cd qw (bJ [(false,[.int .i64 n])]) (fun rs _=>rs=bl (isNum n)):=by
 refine aa zm rfl ?_
 simp(disch:=omega) [qt,VY]
 refine an (dN _ _ _) rfl rfl ?_
 simp(disch:=omega) [isNum,VY]
def hash (x:Bytes):Bool:=x.length==32
def hashes (l:List Bytes):Bool:=l.all hash
def vu (n:Int):Int:=if n < 1 then 0 else(n - 1) / 8+1
abbrev lD:Nat:=308
def lZ:AF:=⟨1,4,[.tmp 2],(.seq (.ops [.i (.mov 2 (qi 0))]) (.seq (.seq (.ops [qm 3 0, .i (.bin 4 .lss (.s 3) (qi 1))]) (.cond (.s 4) (.seq (.ops [.i (.mov 2 (qi 0))]) .ret) .skip)) (.seq (.ops [qm 5 0, .i (.bin 6 .sub (.s 5) (qi 1)), .i (.bin 7 .quo (.s 6) (qi 8)), .i (.bin 8 .add (.s 7) (qi 1)),qm 2 8]) .ret)))⟩
theorem vQ:cd lD=some lZ:=by kernel_rfl
theorem jH (n:Int) (h1: -9223372036854775808≤n) (h2:n < 9223372036854775808):VC cd lD (bJ [(false,[.int .i64 n])]) (fun rs _=>rs=it (vu n)):=by
 refine aa vQ rfl ?_
 simp(disch:=omega) [lZ,VY]
 refine aj (fun h3=> ?_) (fun h3=> ?_)
 ·simp(disch:=omega) [vu,h3,VY]
 ·have e:(n - 1).tdiv 8=(n - 1) / 8:=Int.tdiv_eq_ediv_of_nonneg (by omega)
  simp(disch:=omega) [vu,e,VY]
  omega
abbrev mb:Nat:=265
def lq:AF:=⟨1,4,[.tmp 2],(.seq (.ops [.i (.mov 2 (qi 0))]) (.seq (.seq (.ops [qm 3 0, .i (.bin 4 .lss (.s 3) (qi 1))]) (.cond (.s 4) (.seq (.ops [.i (.mov 2 (qi 0))]) .ret) .skip)) (.seq (.ops [qm 5 0, .i (.bin 6 .sub (.s 5) (qi 1)), .i (.bin 7 .quo (.s 6) (qi 8)), .i (.bin 8 .add (.s 7) (qi 1)),qm 2 8]) .ret)))⟩
theorem vL:cd mb=some lq:=by kernel_rfl
theorem kg (n:Int) (h1: -9223372036854775808≤n) (h2:n < 9223372036854775808):VC cd mb (bJ [(false,[.int .i64 n])]) (fun rs _=>rs=it (vu n)):=by
 refine aa vL rfl ?_
 simp(disch:=omega) [lq,VY]
 refine aj (fun h3=> ?_) (fun h3=> ?_)
 ·simp(disch:=omega) [vu,h3,VY]
 ·have e:(n - 1).tdiv 8=(n - 1) / 8:=Int.tdiv_eq_ediv_of_nonneg (by omega)
  simp(disch:=omega) [vu,e,VY]
  omega
def eZ (b:Bytes) (i:Nat):Bool:=match b[i / 8]? with|some x=>x.toNat.testBit (i % 8)|none=>false
theorem Jp:∀x < 256,∀s < 8,decide (aH .and .u8 (Int.fdiv (x:Nat) (2 ^ (min s 8))) 1=1)=Nat.testBit x s:=by decide+kernel
theorem It:∀x < 256,∀s < 8,decide (Int.tmod (Int.fdiv (x:Nat) (2 ^ (min s 64))) 2=1)=Nat.testBit x s:=by decide+kernel
theorem Il (i:Nat):Int.tdiv (i:Int) 8=((i / 8:Nat):Int):=by rw[Int.tdiv_eq_ediv_of_nonneg (by omega)];omega
theorem Mw (i:Nat):Int.tmod (i:Int) 8=((i % 8:Nat):Int):=by rw[Int.tmod_eq_emod_of_nonneg (by omega)];omega
theorem yf (x:UInt8):x.toNat < 256:=x.toNat_lt
theorem ug {b:Bytes} {i:Nat} (h:i / 8 < b.length):eZ b i=b[i / 8].toNat.testBit (i % 8):=by simp[eZ,h]
theorem xk {b:Bytes} {i:Nat} (h:¬i / 8 < b.length):eZ b i=false:=by
 unfold eZ
 rw[List.getElem?_eq_none (by omega)]
theorem OV (i:Nat):(0:Int)≤(i:Int) / 8∧((i:Int) / 8).toNat=i / 8∧¬(i:Int) % 8 < 0∧((i:Int) % 8).toNat=i % 8:=by omega
abbrev nD:Nat:=324
def oi:AF:=⟨2,5,[.tmp 4],(.seq (.ops [.i (.mov 4 (qb false))]) (.seq (.ops [qm 5 1,qm 6 0,qn 7 6, .i (.bin 8 .mul (qi 8) (.s 7)), .i (.bin 9 .sub (.s 8) (qi 1)), .i (.call 11 103 false [(.s 5),(qi 0),(.s 9)]),qm 11 10, .g 11 true 13 (.mov 12 (.s 0)), .g 11 true 14 (.mov 13 (.s 1)), .g 11 true 15 (.bin 14 .quo (.s 13) (qi 8)), .g 11 true 16 (.iad 15 (.s 12) (.s 14) 1), .g 11 true 17 (.ldh 16 (.s 15) 1 false), .g 11 true 18 (.mov 17 (.s 1)), .g 11 true 19 (.bin 18 .rem (.s 17) (qi 8)), .g 11 true 20 (.bin 19 .shr (.s 16) (.s 18)), .g 11 true 21 (.bin 20 .and (.s 19) (.c (.val false [.int .u8 1]))), .g 11 true 22 (.bin 21 .eql (.s 20) (.c (.val false [.int .u8 1]))), .i (.pick 22 (.s 11) (.s 21) (qb false)),qm 4 22]) .ret))⟩
theorem xN:cd nD=some oi:=by kernel_rfl
theorem wz (b:Bytes) (i:Nat) (hb:b.length≤1099511627776) (hi:i≤1099511627776):VC cd nD (bJ [(false,[.sl (bytes b)]),(false,[.int .i64 i])]) (fun rs _=>rs=bl (eZ b i)):=by
 refine aa xN rfl ?_
 simp(disch:=omega) [oi,VY]
 refine an (bA _ _ _) rfl rfl ?_
 simp(disch:=omega) [VY]
 refine dT (fun h1=> ?_) (fun h1=> ?_)
 ·have hx:i / 8 < b.length:=by simp[dR]at h1;omega
  have e:=Jp b[i / 8].toNat (yf _) (i % 8) (Nat.mod_lt _ (by omega))
  rw[ug hx,←e]
  simp(disch:=omega) [h1,Il,Mw,bP hx,OV i,IntKind.bits,VY]
 ·simp(disch:=omega) [h1,VY]
  refine xk ?_
  simp[dR]at h1
  omega
abbrev nT:Nat:=302
def oz:AF:=⟨2,5,[.tmp 4],(.seq (.ops [.i (.mov 4 (qb false))]) (.seq (.ops [qm 5 1, .i (.bin 6 .geq (.s 5) (qi 0)),qm 7 6, .g 7 true 9 (.mov 8 (.s 1)), .g 7 true 10 (.bin 9 .quo (.s 8) (qi 8)), .g 7 true 11 (.mov 10 (.s 0)), .g 7 true 12 (.len 11 false (.s 10)), .g 7 true 13 (.bin 12 .lss (.s 9) (.s 11)), .i (.pick 13 (.s 7) (.s 12) (qb false)),qm 14 13, .g 14 true 16 (.mov 15 (.s 0)), .g 14 true 17 (.mov 16 (.s 1)), .g 14 true 18 (.bin 17 .quo (.s 16) (qi 8)), .g 14 true 19 (.iad 18 (.s 15) (.s 17) 1), .g 14 true 20 (.ldh 19 (.s 18) 1 false), .g 14 true 21 (.cvi 20 .i64 (.s 19)), .g 14 true 22 (.mov 21 (.s 1)), .g 14 true 23 (.bin 22 .rem (.s 21) (qi 8)), .g 14 true 24 (.bin 23 .shr (.s 20) (.s 22)), .g 14 true 25 (.bin 24 .rem (.s 23) (qi 2)), .g 14 true 26 (.bin 25 .eql (.s 24) (qi 1)), .i (.pick 26 (.s 14) (.s 25) (qb false)),qm 4 26]) .ret))⟩
theorem yG:cd nT=some oz:=by kernel_rfl
theorem vW (b:Bytes) (i:Nat) (hb:b.length≤1099511627776) (hi:i≤1099511627776):VC cd nT (bJ [(false,[.sl (bytes b)]),(false,[.int .i64 i])]) (fun rs _=>rs=bl (eZ b i)):=by
 refine aa yG rfl ?_
 simp(disch:=omega) [oz,Il,VY]
 refine aj (fun h1=> ?_) (fun h1=> ?_)
 ·have hx:i / 8 < b.length:=by omega
  have e:=It b[i / 8].toNat (yf _) (i % 8) (Nat.mod_lt _ (by omega))
  have hw:IntKind.i64.wrap (b[i / 8].toNat:Int)=b[i / 8].toNat:=aN (by omega) (by have:=yf b[i / 8];omega)
  rw[ug hx,←e]
  simp(disch:=omega) [h1,Il,Mw,bP hx,OV i,hw,IntKind.bits,VY]
 ·simp(disch:=omega) [h1,VY]
  exact xk (by omega)
def a9 (b:Bytes):List Nat:=(List.range (8 * b.length)).filter (eZ b)
def m9 (l:List Nat):List (List D):=l.map fun(n:Nat)=> [.int .i64 (n:Int)]
theorem ks (l:List Nat):(m9 l).length=l.length:=by simp[m9]
theorem As (l:List Nat):flat (m9 l)=true:=by
 induction l with
 |nil=>rfl
 |cons n l ih=>simp only[m9,List.map_cons,flat,cB,D.leaf]at ih⊢;simpa using ih
theorem D9 (l:List Nat):wid 1 (m9 l)=true:=by
 induction l with
 |nil=>rfl
 |cons n l ih=>simp only[m9,List.map_cons,wid]at ih⊢;simpa using ih
theorem AJ (l:List Nat) (n:Nat):m9 l++ [[.int .i64 (n:Int)]]=m9 (l++ [n]):=by simp[m9]
theorem EF {l:List Nat} {i:Nat} (h:i < l.length):(m9 l)[i]? =some [.int .i64 (l[i]:Int)]:=by simp[m9,h]
theorem jn (p:Nat→Bool) (i:Nat):(List.range (i+1)).filter p=(List.range i).filter p++(if p i=true then [i]else []):=by
 rw[List.range_succ,List.filter_append]
 congr 1
 cases h:p i <;>simp[h]
theorem filter_le (p:Nat→Bool) (i:Nat):((List.range i).filter p).length≤i:=by
 have:=List.length_filter_le p (List.range i)
 simpa using this
abbrev lB:Nat:=317
def kY:AF:=⟨1,5,[.tmp 2],(.seq (.ops [.i (.mov 2 (.c (.val false [.nils])))]) (.seq (.ops [.i (.bse 5),qm 3 5]) (.seq (.seq (.ops [qm 6 0,qn 7 6, .i (.bin 8 .mul (qi 8) (.s 7)), .i (.mov 9 (qi 0))]) (.block 0 (.loop [19,18,17,16,15,14,13,12,11,10,4] (.seq (.ops [qd 10 .lss 9 8]) (.seq (.cond (.s 10) .skip (.exit 0)) (.seq (.block 1 (.seq (.ops [qm 11 9,qm 4 11]) (.seq (.ops [qm 12 0,qm 13 4, .i (.call 15 324 false [(.s 12),(.s 13)])]) (.cond (.s 14) (.ops [qm 15 3,qm 16 4, .i (.lsl 17 1 1 [.int .i64 0] [(0,1,(.s 16))]), .i (.app 18 3 1 8 (.s 15) (.s 17)),qm 3 18]) .skip)))) (.ops [.i (.bin 19 .add (.s 9) (qi 1)),qm 9 19]))))))) (.seq (.ops [qm 20 3,qm 2 20]) .ret))))⟩
theorem wB:cd lB=some kY:=by kernel_rfl
theorem uN (b:Bytes) (hb:b.length≤1073741824):VC cd lB (bJ [(false,[.sl (bytes b)])]) (fun rs _=>rs= [(false,[.o true (some (3,1)) (m9 (a9 b))])]):=by
 refine aa wB rfl ?_
 simp(disch:=omega) [kY,VY]
 refine rW (σ:=Nat×Nat) (f1:=_) (by simp(disch:=omega) [VY];rfl) (fun p=> [(9, .val false [.int .i64 p.1]),(3, .val false [.ow 5 p.2])]) (fun p=> [(5, .sl p.2 true true (some (3,1)) (m9 ((List.range p.1).filter (eZ b))))])
  (fun p g=>g+p.1=8 * b.length) (0,1) (8 * b.length) (by simp(disch:=omega) [VY]) (by simp(disch:=omega) [m9,VY]) (by omega) ?_
 rintro⟨i,v⟩ n g hg
 simp only at hg
 simp(disch:=omega) [VY]
 refine aj (fun h1=> ?_) (fun h1=> ?_)
 ·simp(disch:=omega) [VY]
  refine an (wz b i (by omega) (by omega)) rfl rfl ?_
  simp(disch:=omega) [VY]
  refine dT (fun h2=> ?_) (fun h2=> ?_)
  ·have hl:=filter_le (eZ b) i
   simp(disch:=omega) [ks,D9,As,VY]
   exact⟨i+1,n+1,g - 1,by omega,by omega,⟨rfl,by omega⟩,rfl,by rw[jn,h2,if_pos rfl,←AJ]⟩
  ·simp(disch:=omega) [VY]
   exact⟨i+1,v,g - 1,by omega,by omega,⟨rfl,by omega⟩,rfl,by rw[jn,h2];simp⟩
 ·simp(disch:=omega) [VY]
  have:i=8 * b.length:=by omega
  subst this
  rfl
abbrev lU:Nat:=267
def lp:AF:=⟨1,5,[.tmp 2],(.seq (.ops [.i (.mov 2 (.c (.val false [.nils])))]) (.seq (.ops [.i (.bse 5),qm 3 5]) (.seq (.seq (.ops [.i (.mov 4 (qi 0))]) (.block 0 (.loop [19,18,17,16,15,14,13,12,11,10,9,8,7,6] (.seq (.seq (.ops [qm 6 4,qm 7 0,qn 8 7, .i (.bin 9 .mul (qi 8) (.s 8)),qd 10 .lss 6 9]) (.cond (.s 10) .skip (.exit 0))) (.seq (.block 1 (.seq (.ops [qm 13 0,qm 14 4, .i (.call 16 302 false [(.s 13),(.s 14)])]) (.cond (.s 15) (.ops [qm 16 3,qm 17 4, .i (.lsl 18 1 1 [.int .i64 0] [(0,1,(.s 17))]), .i (.app 19 3 1 8 (.s 16) (.s 18)),qm 3 19]) .skip))) (.ops [qm 11 4, .i (.bin 12 .add (.s 11) (qi 1)),qm 4 12])))))) (.seq (.ops [qm 20 3,qm 2 20]) .ret))))⟩
theorem vY:cd lU=some lp:=by kernel_rfl
theorem j7 (b:Bytes) (hb:b.length≤1073741824):VC cd lU (bJ [(false,[.sl (bytes b)])]) (fun rs _=>rs= [(false,[.o true (some (3,1)) (m9 (a9 b))])]):=by
 refine aa vY rfl ?_
 simp(disch:=omega) [lp,VY]
 refine rW (σ:=Nat×Nat) (f1:=_) (by simp(disch:=omega) [VY];rfl) (fun p=> [(4, .val false [.int .i64 p.1]),(3, .val false [.ow 5 p.2])]) (fun p=> [(5, .sl p.2 true true (some (3,1)) (m9 ((List.range p.1).filter (eZ b))))])
  (fun p g=>g+p.1=8 * b.length) (0,1) (8 * b.length) (by simp(disch:=omega) [VY]) (by simp(disch:=omega) [m9,VY]) (by omega) ?_
 rintro⟨i,v⟩ n g hg
 simp only at hg
 simp(disch:=omega) [VY]
 refine aj (fun h1=> ?_) (fun h1=> ?_)
 ·simp(disch:=omega) [VY]
  refine an (vW b i (by omega) (by omega)) rfl rfl ?_
  simp(disch:=omega) [VY]
  refine dT (fun h2=> ?_) (fun h2=> ?_)
  ·have hl:=filter_le (eZ b) i
   simp(disch:=omega) [ks,D9,As,VY]
   exact⟨i+1,n+1,g - 1,by omega,by omega,⟨by omega,rfl⟩,rfl,by rw[jn,h2,if_pos rfl,←AJ]⟩
  ·simp(disch:=omega) [VY]
   exact⟨i+1,v,g - 1,by omega,by omega,⟨by omega,rfl⟩,rfl,by rw[jn,h2];simp⟩
 ·simp(disch:=omega) [VY]
  have:i=8 * b.length:=by omega
  subst this
  rfl
def gY (l:List Nat) (n:Int):Bool:=l.all fun i=>decide ((i:Int) < n)
def eo (b:Bytes) (n:Int):Bool:=dR n 1 10 && decide ((b.length:Int)=vu n) && gY (a9 b) n
theorem eR (b:Bytes):(a9 b).length≤8 * b.length:=filter_le _ _
theorem eU {n lo hi:Int} (h:dR n lo hi=true):lo≤n∧n≤hi:=by simpa[dR]using h
theorem IP {n lo hi:Int} (h:dR n lo hi=false):n < lo∨hi < n:=by simp[dR]at h;omega
theorem Ih {l:List Nat} {n:Int} (h:∀x∈l.take l.length,(x:Int) < n):gY l n=true:=by
 rw[List.take_length]at h
 simpa[gY]using h
theorem JF {l:List Nat} {n:Int} {i:Nat} (hi:i < l.length) (h:n≤(l[i]:Int)):gY l n=false:=by
 simp only[gY,List.all_eq_false]
 exact⟨l[i],List.getElem_mem hi,by simpa using h⟩
abbrev qY:Nat:=297
def q9:AF:=⟨2,5,[.tmp 4],(.seq (.ops [.i (.mov 4 (qb false))]) (.seq (.seq (.ops [qm 7 1, .i (.call 9 103 false [(.s 7),(qi 1),(qi 10)]), .i (.not 9 (.s 8)),qm 10 9, .g 10 false 12 (.mov 11 (.s 0)), .g 10 false 13 (.len 12 false (.s 11)), .g 10 false 14 (.mov 13 (.s 1)), .g 10 false 15 (.call 15 308 false [(.s 13)]), .g 10 false 16 (.bin 15 .neq (.s 12) (.s 14)), .i (.pick 16 (.s 10) (qb true) (.s 15))]) (.cond (.s 16) (.seq (.ops [.i (.mov 4 (qb false))]) .ret) .skip)) (.seq (.seq (.ops [qm 17 0,qk 19 317 17,qn 19 18, .i (.mov 20 (qi 0))]) (.block 0 (.loop [27,26,25,24,23,22,21,6] (.seq (.ops [qd 21 .lss 20 19]) (.seq (.cond (.s 21) .skip (.exit 0)) (.seq (.block 1 (.seq (.ops [.i (.iad 22 (.s 18) (.s 20) 1), .i (.ldh 23 (.s 22) 1 false),qm 6 23]) (.seq (.ops [qm 24 6,qm 25 1,qd 26 .geq 24 25]) (.cond (.s 26) (.seq (.ops [.i (.mov 4 (qb false))]) .ret) .skip)))) (.ops [.i (.bin 27 .add (.s 20) (qi 1)),qm 20 27]))))))) (.seq (.ops [.i (.mov 4 (qb true))]) .ret))))⟩
theorem zK:cd qY=some q9:=by kernel_rfl
theorem x8 (b:Bytes) (n:Int) (hb:b.length≤1073741824) (hn: -9223372036854775808≤n∧n < 9223372036854775808):VC cd qY (bJ [(false,[.sl (bytes b)]),(false,[.int .i64 n])]) (fun rs _=>rs=bl (eo b n)):=by
 refine aa zK rfl ?_
 simp(disch:=omega) [q9,VY]
 refine an (bA _ _ _) rfl rfl ?_
 simp(disch:=omega) [VY]
 refine dT (fun h1=> ?_) (fun h1=> ?_)
 ·simp(disch:=omega) [h1,VY]
  refine an (jH _ hn.1 hn.2) rfl rfl ?_
  simp(disch:=omega) [h1,VY]
  refine aj (fun h2=> ?_) (fun h2=> ?_)
  ·simp(disch:=omega) [h1,h2,VY]
   refine an (uN b hb) rfl rfl ?_
   simp(disch:=omega) [ks,VY]
   have hl:=eR b
   refine bS (σ:=Nat) (f1:=_) (es0:=_) (by simp(disch:=omega) [VY];rfl) (by simp(disch:=omega) [VY];rfl) (fun i=> [(20, .val false [.int .i64 i])]) (fun _=> []) (fun i g=>g+i=(a9 b).length∧∀x∈(a9 b).take i,(x:Int) < n) 0 (a9 b).length (by simp(disch:=omega) [VY]) (by simp(disch:=omega) [VY]) ⟨by omega,by simp⟩ ?_
   rintro i m g ⟨hg,hi⟩
   simp(disch:=omega) [VY]
   refine aj (fun h3=> ?_) (fun h3=> ?_)
   ·have hx:i < (a9 b).length:=by omega
    simp(disch:=omega) [EF hx,VY]
    refine aj (fun h4=> ?_) (fun h4=> ?_)
    ·simp(disch:=omega) [VY]
     simp[eo,h1,h2,JF hx h4]
    ·simp(disch:=omega) [VY]
     exact⟨i+1,g - 1,by omega,⟨by omega,Ig hi hx (by omega)⟩,by simp⟩
   ·simp(disch:=omega) [VY]
    have:i=(a9 b).length:=by omega
    subst this
    simp[eo,h1,h2,Ih hi]
  ·simp(disch:=omega) [h1,h2,eo,VY]
 ·simp(disch:=omega) [h1,eo,VY]
theorem zt {l:List Nat} {n:Int} (hp:l.Pairwise (· < ·)) (hl:0 < l.length):gY l n=decide ((l[l.length - 1]:Int) < n):=by
 rw[Bool.eq_iff_iff]
 simp only[gY,List.all_eq_true,decide_eq_true_eq]
 constructor
 ·intro h;exact h _ (List.getElem_mem _)
 ·intro h x hx
  obtain⟨i,hi,rfl⟩:=List.getElem_of_mem hx
  by_cases he:i=l.length - 1
  ·subst he;exact h
  ·have:=List.pairwise_iff_getElem.1 hp i (l.length - 1) hi (by omega) (by omega)
   omega
theorem wb (b:Bytes):(a9 b).Pairwise (· < ·):=List.Pairwise.filter _ List.pairwise_lt_range
abbrev pT:Nat:=266
def pQ:AF:=⟨2,5,[.tmp 4],(.seq (.ops [.i (.mov 4 (qb false))]) (.seq (.seq (.ops [qm 6 1,qk 8 118 6, .i (.not 8 (.s 7)),qm 9 8, .g 9 false 11 (.mov 10 (.s 0)), .g 9 false 12 (.len 11 false (.s 10)), .g 9 false 13 (.mov 12 (.s 1)), .g 9 false 14 (.call 14 265 false [(.s 12)]), .g 9 false 15 (.bin 14 .neq (.s 11) (.s 13)), .i (.pick 15 (.s 9) (qb true) (.s 14))]) (.cond (.s 15) (.seq (.ops [.i (.mov 4 (qb false))]) .ret) .skip)) (.seq (.ops [qm 16 0,qk 18 267 16,qm 5 17]) (.seq (.ops [qm 18 5,qn 19 18, .i (.bin 20 .eql (.s 19) (qi 0)),qm 21 20, .g 21 false 23 (.mov 22 (.s 5)), .g 21 false 24 (.mov 23 (.s 5)), .g 21 false 25 (.len 24 false (.s 23)), .g 21 false 26 (.bin 25 .sub (.s 24) (qi 1)), .g 21 false 27 (.iad 26 (.s 22) (.s 25) 1), .g 21 false 28 (.ldh 27 (.s 26) 1 false), .g 21 false 29 (.mov 28 (.s 1)), .g 21 false 30 (.bin 29 .lss (.s 27) (.s 28)), .i (.pick 30 (.s 21) (qb true) (.s 29)),qm 4 30]) .ret))))⟩
theorem zj:cd pT=some pQ:=by kernel_rfl
theorem xU (b:Bytes) (n:Int) (hb:b.length≤1073741824) (hn: -9223372036854775808≤n∧n < 9223372036854775808):VC cd pT (bJ [(false,[.sl (bytes b)]),(false,[.int .i64 n])]) (fun rs _=>rs=bl (eo b n)):=by
 refine aa zj rfl ?_
 simp(disch:=omega) [pQ,VY]
 refine an (fw _) rfl rfl ?_
 simp(disch:=omega) [VY]
 refine dT (fun h1=> ?_) (fun h1=> ?_)
 ·simp(disch:=omega) [h1,VY]
  refine an (kg _ hn.1 hn.2) rfl rfl ?_
  simp(disch:=omega) [h1,VY]
  refine aj (fun h2=> ?_) (fun h2=> ?_)
  ·simp(disch:=omega) [h1,h2,VY]
   refine an (j7 b hb) rfl rfl ?_
   have hl:=eR b
   simp(disch:=omega) [ks,VY]
   refine aj (fun h3=> ?_) (fun h3=> ?_)
   ·simp(disch:=omega) [h3,VY]
    simp[eo,h1,h2,h3,gY]
   ·have h4:=List.length_pos_iff.2 h3
    have e3:(1:Int)≤((a9 b).length:Int):=by omega
    have hx:(a9 b).length - 1 < (a9 b).length:=by omega
    have e1:((a9 b).length - 1:Int).toNat=(a9 b).length - 1:=by omega
    have e2:(0:Int)≤((a9 b).length:Int) - 1:=by omega
    simp(disch:=omega) [h3,ks,e1,e2,e3,EF hx,VY]
    simp[eo,h1,h2,zt (wb b) h4]
  ·simp(disch:=omega) [h1,h2,eo,VY]
 ·simp(disch:=omega) [h1,eo,VY]
def uK (x:Nat):Nat:=((List.range 8).filter (x.testBit)).length
theorem Ep:∀x < 256,((⟨#[0,1,1,2,1,2,2,3,1,2,2,3,2,3,3,4,1,2,2,3,2,3,3,4,2,3,3,4,3,4,4,5,1,2,2,3,2,3,3,4,2,3,3,4,3,4,4,5,2,3,3,4,3,4,4,5,3,4,4,5,4,5,5,6,1,2,2,3,2,3,3,4,2,3,3,4,3,4,4,5,2,3,3,4,3,4,4,5,3,4,4,5,4,5,5,6,2,3,3,4,3,4,4,5,3,4,4,5,4,5,5,6,3,4,4,5,4,5,5,6,4,5,5,6,5,6,6,7,1,2,2,3,2,3,3,4,2,3,3,4,3,4,4,5,2,3,3,4,3,4,4,5,3,4,4,5,4,5,5,6,2,3,3,4,3,4,4,5,3,4,4,5,4,5,5,6,3,4,4,5,4,5,5,6,4,5,5,6,5,6,6,7,2,3,3,4,3,4,4,5,3,4,4,5,4,5,5,6,3,4,4,5,4,5,5,6,4,5,5,6,5,6,6,7,3,4,4,5,4,5,5,6,4,5,5,6,5,6,6,7,4,5,5,6,5,6,6,7,5,6,6,7,6,7,7,8]⟩:ByteArray).data.toList)[x]? =some (UInt8.ofNat (uK x))∧uK x≤8:=by decide+kernel
abbrev fP:Nat:=309
def fS:AF:=⟨1,3,[.tmp 2],(.seq (.ops [.i (.mov 2 (.c (.val false [.int .i64 0])))]) (.seq (.ops [.i (.mov 3 (.s 0)), .i (.ids 4 (.c (.val false [.str ⟨#[0,1,1,2,1,2,2,3,1,2,2,3,2,3,3,4,1,2,2,3,2,3,3,4,2,3,3,4,3,4,4,5,1,2,2,3,2,3,3,4,2,3,3,4,3,4,4,5,2,3,3,4,3,4,4,5,3,4,4,5,4,5,5,6,1,2,2,3,2,3,3,4,2,3,3,4,3,4,4,5,2,3,3,4,3,4,4,5,3,4,4,5,4,5,5,6,2,3,3,4,3,4,4,5,3,4,4,5,4,5,5,6,3,4,4,5,4,5,5,6,4,5,5,6,5,6,6,7,1,2,2,3,2,3,3,4,2,3,3,4,3,4,4,5,2,3,3,4,3,4,4,5,3,4,4,5,4,5,5,6,2,3,3,4,3,4,4,5,3,4,4,5,4,5,5,6,3,4,4,5,4,5,5,6,4,5,5,6,5,6,6,7,2,3,3,4,3,4,4,5,3,4,4,5,4,5,5,6,3,4,4,5,4,5,5,6,4,5,5,6,5,6,6,7,3,4,4,5,4,5,5,6,4,5,5,6,5,6,6,7,4,5,5,6,5,6,6,7,5,6,6,7,6,7,7,8]⟩])) (.s 3)), .i (.cvi 5 .i64 (.s 4)), .i (.mov 2 (.s 5))]) .ret))⟩
theorem kK:cd fP=some fS:=by kernel_rfl
theorem zT (x:UInt8):VC cd fP (bJ [(false,[.int .u8 x.toNat])]) (fun rs _=>rs=it (uK x.toNat)):=by
 obtain⟨e1,e2⟩:=Ep x.toNat (yf x)
 have e3:(UInt8.ofNat (uK x.toNat)).toNat=uK x.toNat:=by simp;omega
 refine aa kK rfl ?_
 simp(disch:=omega) only[fS,VE,P5,VP,VB,O9,List.map_cons,List.map_nil,Int.toNat_natCast,e1,e3,simprocAttr,Int.natCast_nonneg,if_true,it]
theorem Fb (b:Bytes) (i:Nat) (hi:i < b.length):((List.range (8 * (i+1))).filter (eZ b)).length=((List.range (8 * i)).filter (eZ b)).length+uK b[i].toNat:=by
 have h8:∀j < 8,eZ b (8 * i+j)=b[i].toNat.testBit j:=by
  intro j hj
  have e:(8 * i+j) / 8=i:=by omega
  have e2:(8 * i+j) % 8=j:=by omega
  have:=ug (b:=b) (i:=8 * i+j) (by rw[e];exact hi)
  rw[this,e2]
  simp only[e]
 have e:8 * (i+1)=8 * i+8:=by omega
 rw[e,List.range_add,List.filter_append,List.length_append]
 congr 1
 unfold uK
 rw[List.filter_map,List.length_map]
 congr 1
 refine List.filter_congr fun j hj=> ?_
 simp only[List.mem_range]at hj
 exact h8 j hj
abbrev j5:Nat:=278
def kc:AF:=⟨1,5,[.tmp 2],(.seq (.ops [.i (.mov 2 (qi 0))]) (.seq (.ops [.i (.mov 3 (qi 0))]) (.seq (.seq (.ops [qm 6 0,qn 7 6, .i (.mov 8 (qi 0))]) (.block 0 (.loop [16,15,14,13,12,11,10,9,5] (.seq (.ops [qd 9 .lss 8 7]) (.seq (.cond (.s 9) .skip (.exit 0)) (.seq (.block 1 (.seq (.ops [.i (.iad 10 (.s 6) (.s 8) 1), .i (.ldh 11 (.s 10) 1 false),qm 5 11]) (.ops [qm 12 3,qm 13 5,qk 15 309 13,qd 15 .add 12 14,qm 3 15]))) (.ops [.i (.bin 16 .add (.s 8) (qi 1)),qm 8 16]))))))) (.seq (.ops [qm 17 3,qm 2 17]) .ret))))⟩
theorem vd:cd j5=some kc:=by kernel_rfl
theorem sQ (b:Bytes) (hb:b.length≤1073741824):VC cd j5 (bJ [(false,[.sl (bytes b)])]) (fun rs _=>rs=it (a9 b).length):=by
 refine aa vd rfl ?_
 simp(disch:=omega) [kc,VY]
 refine bS (σ:=Nat) (f1:=_) (es0:=_) (by simp(disch:=omega) [VY];rfl) (by simp(disch:=omega) [VY];rfl) (fun i=> [(8, .val false [.int .i64 i]),(3, .val false [.int .i64 ((List.range (8 * i)).filter (eZ b)).length])]) (fun _=> []) (fun i g=>g+i=b.length) 0 b.length (by simp(disch:=omega) [VY]) (by simp(disch:=omega) [VY]) (by omega) ?_
 rintro i n g hg
 simp(disch:=omega) [VY]
 refine aj (fun h1=> ?_) (fun h1=> ?_)
 ·have hx:i < b.length:=by omega
  simp(disch:=omega) [bP hx,VY]
  refine an (zT _) rfl rfl ?_
  have hl:=filter_le (eZ b) (8 * i)
  have ho:=(Ep b[i].toNat (yf _)).2
  simp(disch:=omega) [VY]
  exact⟨i+1,g - 1,by omega,by omega,by rw[Fb b i hx];omega,by omega⟩
 ·simp(disch:=omega) [VY]
  have:i=b.length:=by omega
  subst this
  rfl
abbrev jD:Nat:=187
def jT:AF:=⟨1,3,[.tmp 2],(.seq (.ops [.i (.mov 2 (qi 0))]) (.seq (.ops [qm 3 0,qk 5 267 3,qn 5 4,qm 2 5]) .ret))⟩
theorem uk:cd jD=some jT:=by kernel_rfl
theorem i6 (b:Bytes) (hb:b.length≤1073741824):VC cd jD (bJ [(false,[.sl (bytes b)])]) (fun rs _=>rs=it (a9 b).length):=by
 refine aa uk rfl ?_
 simp(disch:=omega) [jT,VY]
 refine an (j7 b hb) rfl rfl ?_
 simp(disch:=omega) [ks,VY]
end Go.Eng.F
namespace Go.Eng.F
def oN (n:Int):Prop:= -9223372036854775808≤n∧n < 9223372036854775808
def Sz (n:Nat):Prop:=n≤1073741824
theorem xK (x:Bytes):vV (bytes x)=some ⟨x.toArray⟩:=by
 induction x with
 |nil=>rfl
 |cons b x ih=>
  have:bytes (b::x)= [.int .u8 (b.toNat:Int)]::bytes x:=rfl
  rw[this]
  simp only[vV,ih,Int.toNat_natCast]
  congr 1
  simp
theorem Im (a b:Bytes):((⟨a.toArray⟩:ByteArray)=⟨b.toArray⟩)=(a=b):=by
 apply propext
 constructor
 ·intro h;injection h with h;exact Array.toList_inj.2 h|> fun h=>by simpa using h
 ·rintro rfl;rfl
abbrev j6:Nat:=120
def jJ:AF:=⟨2,4,[.tmp 4],(.seq (.ops [.i (.mov 4 (qb false))]) (.seq (.ops [qm 5 0, .i (.cbs 6 (.s 5)),qm 7 1, .i (.cbs 8 (.s 7)),qd 9 .eql 6 8,qm 4 9]) .ret))⟩
theorem uH:cd j6=some jJ:=by kernel_rfl
theorem ja (a b:Bytes):VC cd j6 (bJ [(false,[.sl (bytes a)]),(false,[.sl (bytes b)])]) (fun rs _=>rs=bl (decide (a=b))):=by
 refine aa uH rfl ?_
 simp(disch:=omega) [jJ,xK,Im,VY]
abbrev jC:Nat:=190
def km:AF:=⟨2,4,[.tmp 4],(.seq (.ops [.i (.mov 4 (qb false))]) (.seq (.ops [qm 5 0, .i (.cbs 6 (.s 5)),qm 7 1, .i (.cbs 8 (.s 7)),qd 9 .eql 6 8,qm 4 9]) .ret))⟩
theorem uG:cd jC=some km:=by kernel_rfl
theorem i4 (a b:Bytes):VC cd jC (bJ [(false,[.sl (bytes a)]),(false,[.sl (bytes b)])]) (fun rs _=>rs=bl (decide (a=b))):=by
 refine aa uG rfl ?_
 simp(disch:=omega) [km,xK,Im,VY]
structure Qc where
 view:Int
 height:Int
 block:Bytes
 bits:Bytes
 tags:List Bytes
def Qc.c (q:Qc):List D:= [.int .i64 q.view, .int .i64 q.height, .sl (bytes q.block), .sl (bytes q.bits), .sl (df q.tags)]
def Qc.wf (q:Qc):Prop:=oN q.view∧oN q.height∧Sz q.block.length∧Sz q.bits.length∧Sz q.tags.length
def oy (l:ao) (q:Qc):Bool:=l.ok && isNum q.view && isNum q.height && hash q.block && eo q.bits l.n && decide (q.tags.length=(a9 q.bits).length) && hashes q.tags
theorem Mt {l:ao} (h:l.ok=true):1≤l.n∧l.n≤10:=by
 simp only[ao.ok,Bool.and_eq_true]at h
 exact eU h.1.1.1.1
structure Head where
 view:Int
 height:Int
 proposer:Int
 parent:Bytes
 root:Bytes
 qc:Qc
def Head.c (h:Head):List D:= [.int .i64 h.view, .int .i64 h.height, .int .i64 h.proposer, .sl (bytes h.parent), .sl (bytes h.root), .int .i64 h.qc.view, .int .i64 h.qc.height, .sl (bytes h.qc.block), .sl (bytes h.qc.bits), .sl (df h.qc.tags)]
def Head.wf (h:Head):Prop:=oN h.view∧oN h.height∧oN h.proposer∧Sz h.parent.length∧Sz h.root.length∧h.qc.wf
def fits (h:Head):Bool:=decide (h.qc.view < h.view) && decide (h.qc.height=h.height - 1) && decide (h.qc.block=h.parent)
abbrev iw:Nat:=280
def iq:AF:=⟨1,5,[.tmp 2],(.seq (.ops [.i (.lbox 1 (.s 0)), .i (.mov 2 (qb false))]) (.seq (.ops [qf 3 1 5,qf 4 3 0,ql 5 1 4 1 false,qf 6 1 0,ql 7 1 6 1 false,qd 8 .lss 5 7,qm 9 8, .g 9 true 11 (.fad 10 (.s 1) 5), .g 9 true 12 (.fad 11 (.s 10) 1), .g 9 true 13 (.ldl 12 1 (.s 11) 1 false), .g 9 true 14 (.fad 13 (.s 1) 1), .g 9 true 15 (.ldl 14 1 (.s 13) 1 false), .g 9 true 16 (.bin 15 .sub (.s 14) (qi 1)), .g 9 true 17 (.bin 16 .eql (.s 12) (.s 15)), .i (.pick 17 (.s 9) (.s 16) (qb false)),qm 18 17, .g 18 true 20 (.fad 19 (.s 1) 5), .g 18 true 21 (.fad 20 (.s 19) 2), .g 18 true 22 (.ldl 21 1 (.s 20) 1 false), .g 18 true 23 (.fad 22 (.s 1) 3), .g 18 true 24 (.ldl 23 1 (.s 22) 1 false), .g 18 true 25 (.call 25 120 false [(.s 21),(.s 23)]), .i (.pick 25 (.s 18) (.s 24) (qb false)),qm 2 25]) .ret))⟩
theorem pA:cd iw=some iq:=by kernel_rfl
abbrev og:Nat:=188
def ou:AF:=⟨1,5,[.tmp 2],(.seq (.ops [.i (.lbox 1 (.s 0)), .i (.mov 2 (qb false))]) (.seq (.ops [qf 3 1 5,qf 4 3 0,ql 5 1 4 1 false,qf 6 1 0,ql 7 1 6 1 false,qd 8 .lss 5 7,qm 9 8, .g 9 true 11 (.fad 10 (.s 1) 5), .g 9 true 12 (.fad 11 (.s 10) 1), .g 9 true 13 (.ldl 12 1 (.s 11) 1 false), .g 9 true 14 (.fad 13 (.s 1) 1), .g 9 true 15 (.ldl 14 1 (.s 13) 1 false), .g 9 true 16 (.bin 15 .sub (.s 14) (qi 1)), .g 9 true 17 (.bin 16 .eql (.s 12) (.s 15)), .i (.pick 17 (.s 9) (.s 16) (qb false)),qm 18 17, .g 18 true 20 (.fad 19 (.s 1) 5), .g 18 true 21 (.fad 20 (.s 19) 2), .g 18 true 22 (.ldl 21 1 (.s 20) 1 false), .g 18 true 23 (.fad 22 (.s 1) 3), .g 18 true 24 (.ldl 23 1 (.s 22) 1 false), .g 18 true 25 (.call 25 190 false [(.s 21),(.s 23)]), .i (.pick 25 (.s 18) (.s 24) (qb false)),qm 2 25]) .ret))⟩
theorem xQ:cd og=some ou:=by kernel_rfl
def eC (l:ao) (h:Head):Bool:=oy l h.qc && isNum h.view && dR h.height 1 1152921504606846975 && dR h.proposer 0 (l.n - 1) && hash h.parent && hash h.root && fits h
theorem DK {l:ao} {q:Qc} (h:oy l q=true):l.ok=true:=by
 simp only[oy,Bool.and_eq_true]at h
 exact h.1.1.1.1.1.1
def uL (l:List Head):List (List D):=l.map Head.c
theorem wL (l:List Head):(uL l).length=l.length:=by simp[uL]
theorem Gq {l:List Head} {i:Nat} (h:i < l.length):(uL l)[i]? =some l[i].c:=by simp[uL,h]
def BK (l:ao) (hs:List Head):Bool:=hs.all (eC l)
def Ci (hs:List Head):Prop:=Sz hs.length∧∀h∈hs,h.wf
end Go.Eng.F
namespace Go.Eng.F
structure Proof where
 heads:List Head
 qc:Qc
def Proof.c (p:Proof):List D:= [.sl (uL p.heads), .int .i64 p.qc.view, .int .i64 p.qc.height, .sl (bytes p.qc.block), .sl (bytes p.qc.bits), .sl (df p.qc.tags)]
def Proof.wf (p:Proof):Prop:=Ci p.heads∧p.qc.wf
def kA (p:Proof):Bool:=match p.heads[p.heads.length - 1]? with|some h=>decide (p.qc.view=h.view) && decide (p.qc.height=h.height)|none=>false
theorem A7 {p:Proof} (h:p.heads.length - 1 < p.heads.length):kA p=(decide (p.qc.view=p.heads[p.heads.length - 1].view) && decide (p.qc.height=p.heads[p.heads.length - 1].height)):=by simp[kA,h]
abbrev im:Nat:=283
def iu:AF:=⟨1,5,[.tmp 2],(.seq (.ops [.i (.lbox 1 (.s 0)), .i (.mov 2 (qb false))]) (.seq (.ops [qf 4 1 0,ql 5 1 4 1 false,qf 6 1 0,ql 7 1 6 1 false,qn 8 7, .i (.bin 9 .sub (.s 8) (qi 1)), .i (.iad 10 (.s 5) (.s 9) 10), .i (.ldh 11 (.s 10) 10 true), .i (.lal 3 qz),qs 3 3 11 10]) (.seq (.ops [qf 12 1 1,qf 13 12 0,ql 14 1 13 1 false,qf 15 3 0,ql 16 3 15 1 false,qd 17 .eql 14 16,qm 18 17, .g 18 true 20 (.fad 19 (.s 1) 1), .g 18 true 21 (.fad 20 (.s 19) 1), .g 18 true 22 (.ldl 21 1 (.s 20) 1 false), .g 18 true 23 (.fad 22 (.s 3) 1), .g 18 true 24 (.ldl 23 3 (.s 22) 1 false), .g 18 true 25 (.bin 24 .eql (.s 21) (.s 23)), .i (.pick 25 (.s 18) (.s 24) (qb false)),qm 2 25]) .ret)))⟩
theorem pG:cd im=some iu:=by kernel_rfl
theorem Hy (p:Proof) (h0:0 < p.heads.length) (hw:p.wf):VC cd im (bJ [(true,p.c)]) (fun rs _=>rs=bl (kA p)):=by
 have w1:p.heads.length≤1073741824:=hw.1.1
 have hx:p.heads.length - 1 < p.heads.length:=by omega
 have e1:((p.heads.length:Int) - 1).toNat=p.heads.length - 1:=by omega
 have e2:(1:Int)≤(p.heads.length:Int):=by omega
 rw[A7 hx]
 refine aa pG rfl ?_
 simp(disch:=omega) [iu,Proof.c,wL,e1,e2,Gq hx,Head.c,VY]
 refine aj (fun h1=> ?_) (fun h1=> ?_) <;>simp(disch:=omega) [h1,VY]
abbrev mU:Nat:=192
def oe:AF:=⟨1,5,[.tmp 2],(.seq (.ops [.i (.lbox 1 (.s 0)), .i (.mov 2 (qb false))]) (.seq (.ops [qf 4 1 0,ql 5 1 4 1 false,qf 6 1 0,ql 7 1 6 1 false,qn 8 7, .i (.bin 9 .sub (.s 8) (qi 1)), .i (.iad 10 (.s 5) (.s 9) 10), .i (.ldh 11 (.s 10) 10 true), .i (.lal 3 qz),qs 3 3 11 10]) (.seq (.ops [qf 12 1 1,qf 13 12 0,ql 14 1 13 1 false,qf 15 3 0,ql 16 3 15 1 false,qd 17 .eql 14 16,qm 18 17, .g 18 true 20 (.fad 19 (.s 1) 1), .g 18 true 21 (.fad 20 (.s 19) 1), .g 18 true 22 (.ldl 21 1 (.s 20) 1 false), .g 18 true 23 (.fad 22 (.s 3) 1), .g 18 true 24 (.ldl 23 3 (.s 22) 1 false), .g 18 true 25 (.bin 24 .eql (.s 21) (.s 23)), .i (.pick 25 (.s 18) (.s 24) (qb false)),qm 2 25]) .ret)))⟩
theorem yN:cd mU=some oe:=by kernel_rfl
theorem Fo (p:Proof) (h0:0 < p.heads.length) (hw:p.wf):VC cd mU (bJ [(true,p.c)]) (fun rs _=>rs=bl (kA p)):=by
 have w1:p.heads.length≤1073741824:=hw.1.1
 have hx:p.heads.length - 1 < p.heads.length:=by omega
 have e1:((p.heads.length:Int) - 1).toNat=p.heads.length - 1:=by omega
 have e2:(1:Int)≤(p.heads.length:Int):=by omega
 rw[A7 hx]
 refine aa yN rfl ?_
 simp(disch:=omega) [oe,Proof.c,wL,e1,e2,Gq hx,Head.c,VY]
 refine aj (fun h1=> ?_) (fun h1=> ?_) <;>simp(disch:=omega) [h1,VY]
def jd (l:ao) (p:Proof):Bool:=dR p.heads.length 3 l.heads && BK l p.heads && oy l p.qc && kA p
abbrev jI:Nat:=47
def jU:AF:=⟨1,3,[.tmp 2],(.seq (.ops [.i (.mov 2 (.c (.val false [.nils])))]) (.seq (.ops [.i (.bse 3),qm 4 0, .i (.app 5 5 1 1 (.s 3) (.s 4)),qm 2 5]) .ret))⟩
theorem tR:cd jI=some jU:=by kernel_rfl
theorem eQ (x:Bytes) (hx:x.length≤1099511627776):VC cd jI (bJ [(false,[.sl (bytes x)])]) (fun rs _=>rs= [(false,[.o true (some (5,1)) (bytes x)])]):=by
 refine aa tR rfl ?_
 simp(disch:=omega) [jU,VY]
abbrev nh:Nat:=43
def nV:AF:=⟨1,3,[.tmp 2],(.seq (.ops [.i (.mov 2 (.c (.val false [.nils])))]) (.seq (.ops [.i (.bse 3),qm 4 0, .i (.app 5 5 1 1 (.s 3) (.s 4)),qm 2 5]) .ret))⟩
theorem xA:cd nh=some nV:=by kernel_rfl
theorem gI (x:Bytes) (hx:x.length≤1099511627776):VC cd nh (bJ [(false,[.sl (bytes x)])]) (fun rs _=>rs= [(false,[.o true (some (5,1)) (bytes x)])]):=by
 refine aa xA rfl ?_
 simp(disch:=omega) [nV,VY]
def Gy (l:List Bytes):Prop:=Sz l.length∧∀x∈l,Sz x.length
theorem wX (l:List Bytes):wid 1 (df l)=true:=by
 induction l with
 |nil=>rfl
 |cons b x ih=>simp only[df,List.map_cons,wid]at ih⊢;simpa using ih
def Qc.o (q:Qc):List E:= [.p (.int .i64 q.view), .p (.int .i64 q.height), .o true (some (5,1)) (bytes q.block), .o true (some (5,1)) (bytes q.bits), .o true (some (24,1)) (df q.tags)]
def Qc.wc (q:Qc):Prop:=q.wf∧∀x∈q.tags,Sz x.length
theorem Qc.wc.t {q:Qc} (h:q.wc):Gy q.tags:=⟨h.1.2.2.2.2,h.2⟩
def Head.o (h:Head):List E:= [.p (.int .i64 h.view), .p (.int .i64 h.height), .p (.int .i64 h.proposer), .o true (some (5,1)) (bytes h.parent), .o true (some (5,1)) (bytes h.root), .p (.int .i64 h.qc.view), .p (.int .i64 h.qc.height), .o true (some (5,1)) (bytes h.qc.block), .o true (some (5,1)) (bytes h.qc.bits), .o true (some (24,1)) (df h.qc.tags)]
def Head.wc (h:Head):Prop:=h.wf∧∀x∈h.qc.tags,Sz x.length
end Go.Eng.F
namespace Go.Eng.F
def word (x:Int):Bool:=dR x 0 4294967295
abbrev ri:Nat:=247
def qy:AF:=⟨1,3,[.tmp 2],(.seq (.ops [.i (.mov 2 (qb false))]) (.seq (.ops [qm 3 0, .i (.call 5 103 false [(.s 3),(qi 0),(qi 4294967295)]),qm 2 4]) .ret))⟩
theorem zU:cd ri=some qy:=by kernel_rfl
theorem tZ (x:Int):VC cd ri (bJ [(false,[.int .i64 x])]) (fun rs _=>rs=bl (word x)):=by
 refine aa zU rfl ?_
 simp(disch:=omega) [qy,VY]
 refine an (bA _ _ _) rfl rfl ?_
 simp(disch:=omega) [word,VY]
abbrev oa:Nat:=318
def nu:AF:=⟨1,3,[.tmp 2],(.seq (.ops [.i (.mov 2 (qb false))]) (.seq (.ops [qm 3 0, .i (.call 5 67 false [(.s 3),(qi 0),(qi 4294967295)]),qm 2 4]) .ret))⟩
theorem xh:cd oa=some nu:=by kernel_rfl
theorem Fp (x:Int):VC cd oa (bJ [(false,[.int .i64 x])]) (fun rs _=>rs=bl (word x)):=by
 refine aa xh rfl ?_
 simp(disch:=omega) [nu,VY]
 refine an (dN _ _ _) rfl rfl ?_
 simp(disch:=omega) [word,VY]
def turn (x:Int) (n:Nat):Int:=aH .and .i64 (aH .or .i64 (x.fdiv (2 ^ n)) (IntKind.i64.wrap (x * 2 ^ (32 - n)))) 4294967295
abbrev mL:Nat:=319
def mW:AF:=⟨2,4,[.tmp 4],(.seq (.ops [.i (.mov 4 (qi 0))]) (.seq (.ops [qm 5 0,qm 6 1,qd 7 .shr 5 6,qm 8 0,qm 9 1, .i (.bin 10 .sub (qi 32) (.s 9)),qd 11 .shl 8 10,qd 12 .or 7 11, .i (.bin 13 .and (.s 12) (qi 4294967295)),qm 4 13]) .ret))⟩
theorem yO:cd mL=some mW:=by kernel_rfl
theorem dy (x:Int) (n:Nat) (hn:n≤31):VC cd mL (bJ [(false,[.int .i64 x]),(false,[.int .i64 (n:Int)])]) (fun rs _=>rs=it (turn x n)):=by
 have e0:¬(n:Int) < 0:=by omega
 have e1:min n 64=n:=by omega
 have e2:¬(32:Int) - (n:Int) < 0:=by omega
 have e3:((32:Int) - (n:Int)).toNat=32 - n:=by omega
 have e4:min (32 - n) 64=32 - n:=by omega
 refine aa yO rfl ?_
 simp(disch:=omega) [mW,turn,e0,e1,e2,e3,e4,IntKind.bits,VY]
abbrev jB:Nat:=326
def kr:AF:=⟨2,5,[.tmp 4],(.seq (.ops [.i (.mov 4 (qi 0))]) (.seq (.seq (.ops [qm 5 0,qk 7 247 5, .i (.not 7 (.s 6)),qm 8 7, .g 8 false 10 (.mov 9 (.s 1)), .g 8 false 11 (.call 11 103 false [(.s 9),(qi 0),(qi 31)]), .g 8 false 12 (.not 11 (.s 10)), .i (.pick 12 (.s 8) (qb true) (.s 11))]) (.cond (.s 12) (.seq (.ops [.i (.mov 4 (qi 0))]) .ret) .skip)) (.seq (.ops [qm 13 0,qm 14 1,qd 15 .shr 13 14,qm 16 0,qm 17 1, .i (.bin 18 .sub (qi 32) (.s 17)),qd 19 .shl 16 18,qd 20 .or 15 19, .i (.bin 21 .and (.s 20) (qi 4294967295)),qm 4 21]) .ret)))⟩
theorem uD:cd jB=some kr:=by kernel_rfl
theorem cF (x:Int) (n:Nat) (hn:n≤31) (hx:word x=true):VC cd jB (bJ [(false,[.int .i64 x]),(false,[.int .i64 (n:Int)])]) (fun rs _=>rs=it (turn x n)):=by
 have e0:¬(n:Int) < 0:=by omega
 have e1:min n 64=n:=by omega
 have e2:¬(32:Int) - (n:Int) < 0:=by omega
 have e3:((32:Int) - (n:Int)).toNat=32 - n:=by omega
 have e4:min (32 - n) 64=32 - n:=by omega
 have e5:dR (n:Int) 0 31=true:=by simp[dR];omega
 refine aa uD rfl ?_
 simp(disch:=omega) [kr,VY]
 refine an (tZ x) rfl rfl ?_
 simp(disch:=omega) [hx,VY]
 refine an (bA _ _ _) rfl rfl ?_
 simp(disch:=omega) [hx,e5,turn,e0,e1,e2,e3,e4,IntKind.bits,VY]
def zc (n:Nat):Nat:=(119 - n % 64) % 64
theorem sZ (n:Nat):zc n < 64∧(n+1+zc n) % 64=56:=by unfold zc;omega
def mq (n:Nat):Bytes:=(List.range 8).map fun k=>UInt8.ofNat (n / 2 ^ (8 * (7 - k)))
theorem pj (n:Nat) {k:Nat} (h:k < 8):(mq n).take (k+1)=(mq n).take k++ [UInt8.ofNat (n / 2 ^ (8 * (7 - k)))]:=by
 rw[List.take_add_one]
 simp[mq,h]
theorem Qx (n k:Nat):IntKind.u8.wrap (Int.fdiv (n:Int) (2 ^ k))=((UInt8.ofNat (n / 2 ^ k)).toNat:Int):=by
 have e:Int.fdiv (n:Int) (2 ^ k)=((n / 2 ^ k:Nat):Int):=by
  rw[Int.fdiv_eq_ediv_of_nonneg _ (Int.pow_nonneg (by omega))]
  simp[Int.natCast_ediv,Int.natCast_pow]
 rw[e]
 simp only[UInt8.toNat_ofNat',Nat.reducePow]
 simp[IntKind.wrap,IntKind.bits,IntKind.signed]
def pad (b:Bytes):Bytes:=b++ [128]++List.replicate (zc b.length) 0++mq (8 * b.length)
abbrev qp:Nat:=322
def qO:AF:=⟨1,5,[.tmp 2],(.seq (.ops [.i (.mov 2 (.c (.val false [.nils])))]) (.seq (.ops [qm 5 0,qk 7 47 5, .i (.lsl 7 1 1 [.int .u8 0] [(0,1,(.c (.val false [.int .u8 128])))]), .i (.app 8 5 1 1 (.s 6) (.s 7)),qm 3 8]) (.seq (.block 0 (.loop [15,14,13,12,11,10,9] (.seq (.seq (.ops [qm 9 3,qn 10 9, .i (.bin 11 .rem (.s 10) (qi 64)), .i (.bin 12 .neq (.s 11) (qi 56))]) (.cond (.s 12) .skip (.exit 0))) (.block 1 (.ops [qm 13 3, .i (.lsl 14 1 1 [.int .u8 0] [(0,1,(.c (.val false [.int .u8 0])))]), .i (.app 15 5 1 1 (.s 13) (.s 14)),qm 3 15]))))) (.seq (.seq (.ops [.i (.mov 4 (qi 7))]) (.block 2 (.loop [29,28,27,26,25,24,23,22,21,20,19,18,17,16] (.seq (.seq (.ops [qm 16 4, .i (.bin 17 .geq (.s 16) (qi 0))]) (.cond (.s 17) .skip (.exit 2))) (.seq (.block 3 (.ops [qm 20 3,qm 21 0,qn 22 21, .i (.bin 23 .mul (qi 8) (.s 22)),qm 24 4, .i (.bin 25 .mul (qi 8) (.s 24)),qd 26 .shr 23 25, .i (.cvi 27 .u8 (.s 26)), .i (.lsl 28 1 1 [.int .u8 0] [(0,1,(.s 27))]), .i (.app 29 5 1 1 (.s 20) (.s 28)),qm 3 29])) (.ops [qm 18 4, .i (.bin 19 .sub (.s 18) (qi 1)),qm 4 19])))))) (.seq (.ops [qm 30 3,qm 2 30]) .ret)))))⟩
theorem zi:cd qp=some qO:=by kernel_rfl
theorem xp (b:Bytes) (hb:b.length≤1073741824):VC cd qp (bJ [(false,[.sl (bytes b)])]) (fun rs _=>rs= [(false,[.o true (some (5,1)) (bytes (pad b))])]):=by
 refine aa zi rfl ?_
 simp(disch:=omega) [qO,VY]
 refine an (eQ b (by omega)) rfl rfl ?_
 have e0:bytes b++ [[.int .u8 128]]=bytes (b++ [128]):=by simp[bytes]
 simp(disch:=omega) [e0,aS,VY]
 refine bS (σ:=Nat×Nat) (f1:=_) (es0:=_) (by simp(disch:=omega) [VY];rfl) (by simp(disch:=omega) [VY];rfl) (fun p=> [(3, .val false [.ow 65536 p.2])]) (fun p=> [(65536, .sl p.2 true true (some (5,1)) (bytes (b++ [128]++List.replicate p.1 0)))])
  (fun p g=>g+p.1=zc b.length) (0,_) (zc b.length) (by simp(disch:=omega) [VY];rfl) (by simp(disch:=omega) [VY]) (by omega) ?_
 rintro⟨j,v⟩ n g hg
 simp only at hg
 have hz:=sZ b.length
 have hl:(b++ [128]++List.replicate j (0:UInt8)).length=b.length+1+j:=by simp;omega
 have e1:Int.tmod ((b.length:Int)+((j:Int)+1)) 64=(((b.length+1+j) % 64:Nat):Int):=by rw[Int.tmod_eq_emod_of_nonneg (by omega)];omega
 simp only[]at *
 simp(disch:=omega) [aS,hl,e1,VY]
 refine aj (fun h1=> ?_) (fun h1=> ?_)
 ·have hj:j=zc b.length:=by omega
  subst hj
  simp(disch:=omega) [aS,VY]
  refine bS (σ:=Nat×Nat) (f1:=_) (es0:=_) (by simp(disch:=omega) [VY];rfl) (by simp(disch:=omega) [VY];rfl) (fun p=> [(4, .val false [.int .i64 (7 - (p.1:Int))]),(3, .val false [.ow 65536 p.2])]) (fun p=> [(65536, .sl p.2 true true (some (5,1)) (bytes (b++ [128]++List.replicate (zc b.length) 0++(mq (8 * b.length)).take p.1)))])
   (fun p g=>g+p.1=8) (0,_) 8 (by simp(disch:=omega) [VY];rfl) (by simp(disch:=omega) [VY]) (by omega) ?_
  rintro⟨k,w⟩ n g hg
  simp only at hg
  simp(disch:=omega) [VY]
  refine aj (fun h2=> ?_) (fun h2=> ?_)
  ·have hk:k < 8:=by omega
   have q1:¬(8:Int) * (7 - (k:Int)) < 0:=by omega
   have q2:((8:Int) * (7 - (k:Int))).toNat=8 * (7 - k):=by omega
   have q3:min (8 * (7 - k)) 64=8 * (7 - k):=by omega
   have q4:=Qx (8 * b.length) (8 * (7 - k))
   have q5:((8 * b.length:Nat):Int)=8 * (b.length:Int):=by omega
   rw[q5]at q4
   have q6:bytes (b++ [128]++List.replicate (zc b.length) 0++(mq (8 * b.length)).take k)++ [[.int .u8 ((UInt8.ofNat (8 * b.length / 2 ^ (8 * (7 - k)))).toNat:Int)]]=bytes (b++ [128]++List.replicate (zc b.length) 0++(mq (8 * b.length)).take (k+1)):=by
    rw[pj _ hk,←List.append_assoc];simp only[bytes,List.map_append,List.map_cons,List.map_nil]
   have q7:(bytes (b++ [128]++List.replicate (zc b.length) 0++(mq (8 * b.length)).take k)).length=b.length+1+zc b.length+k:=by
    rw[aS];simp[mq];omega
   simp(disch:=omega) [aS,q1,q2,q3,q4,q6,q7,IntKind.bits,VY]
   have q8:((UInt8.ofNat (8 * b.length / 2 ^ (8 * (7 - k)))).toNat:Int)=8 * (b.length:Int) / 2 ^ (8 * (7 - k)) % 256:=by simp[UInt8.toNat_ofNat']
   exact⟨k+1,_,g - 1,by omega,by omega,⟨rfl,by omega⟩,rfl,by rw[pj _ hk];simp[bytes,q8]⟩
  ·have hk:k=8:=by omega
   subst hk
   simp(disch:=omega) [pad,VY]
   rw[List.take_of_length_le (by simp[mq])]
 ·have e2:bytes (b++ [128]++List.replicate j (0:UInt8))++ [[.int .u8 0]]=bytes (b++ [128]++List.replicate (j+1) 0):=by rw[List.replicate_succ',←List.append_assoc];simp[bytes]
  have e3:(bytes (b++ [128]++List.replicate j (0:UInt8))).length=b.length+1+j:=by rw[aS,hl]
  simp(disch:=omega) [e2,e3,VY]
  exact⟨j+1,_,g - 1,by omega,by omega,rfl,rfl,by rw[List.replicate_succ'];simp[bytes]⟩
abbrev pY:Nat:=304
def qW:AF:=⟨1,6,[.tmp 2],(.seq (.ops [.i (.mov 2 (.c (.val false [.nils])))]) (.seq (.ops [qm 6 0,qk 8 43 6, .i (.lsl 8 1 1 [.int .u8 0] [(0,1,(.c (.val false [.int .u8 128])))]), .i (.app 9 5 1 1 (.s 7) (.s 8)),qm 3 9]) (.seq (.block 0 (.loop [16,15,14,13,12,11,10] (.seq (.seq (.ops [qm 10 3,qn 11 10, .i (.bin 12 .rem (.s 11) (qi 64)), .i (.bin 13 .neq (.s 12) (qi 56))]) (.cond (.s 13) .skip (.exit 0))) (.block 1 (.ops [qm 14 3, .i (.lsl 15 1 1 [.int .u8 0] [(0,1,(.c (.val false [.int .u8 0])))]), .i (.app 16 5 1 1 (.s 14) (.s 15)),qm 3 16]))))) (.seq (.ops [qm 17 0,qn 18 17, .i (.bin 19 .mul (qi 8) (.s 18)),qm 4 19]) (.seq (.seq (.ops [.i (.mov 5 (qi 7))]) (.block 2 (.loop [31,30,29,28,27,26,25,24,23,22,21,20] (.seq (.seq (.ops [qm 20 5, .i (.bin 21 .geq (.s 20) (qi 0))]) (.cond (.s 21) .skip (.exit 2))) (.seq (.block 3 (.ops [qm 24 3,qm 25 4,qm 26 5, .i (.bin 27 .mul (qi 8) (.s 26)),qd 28 .shr 25 27, .i (.cvi 29 .u8 (.s 28)), .i (.lsl 30 1 1 [.int .u8 0] [(0,1,(.s 29))]), .i (.app 31 5 1 1 (.s 24) (.s 30)),qm 3 31])) (.ops [qm 22 5, .i (.bin 23 .sub (.s 22) (qi 1)),qm 5 23])))))) (.seq (.ops [qm 32 3,qm 2 32]) .ret))))))⟩
theorem zH:cd pY=some qW:=by kernel_rfl
theorem yH (b:Bytes) (hb:b.length≤1073741824):VC cd pY (bJ [(false,[.sl (bytes b)])]) (fun rs _=>rs= [(false,[.o true (some (5,1)) (bytes (pad b))])]):=by
 refine aa zH rfl ?_
 simp(disch:=omega) [qW,VY]
 refine an (gI b (by omega)) rfl rfl ?_
 have e0:bytes b++ [[.int .u8 128]]=bytes (b++ [128]):=by simp[bytes]
 simp(disch:=omega) [e0,aS,VY]
 refine bS (σ:=Nat×Nat) (f1:=_) (es0:=_) (by simp(disch:=omega) [VY];rfl) (by simp(disch:=omega) [VY];rfl) (fun p=> [(3, .val false [.ow 73728 p.2])]) (fun p=> [(73728, .sl p.2 true true (some (5,1)) (bytes (b++ [128]++List.replicate p.1 0)))])
  (fun p g=>g+p.1=zc b.length) (0,_) (zc b.length) (by simp(disch:=omega) [VY];rfl) (by simp(disch:=omega) [VY]) (by omega) ?_
 rintro⟨j,v⟩ n g hg
 simp only at hg
 have hz:=sZ b.length
 have hl:(b++ [128]++List.replicate j (0:UInt8)).length=b.length+1+j:=by simp;omega
 have e1:Int.tmod ((b.length:Int)+((j:Int)+1)) 64=(((b.length+1+j) % 64:Nat):Int):=by rw[Int.tmod_eq_emod_of_nonneg (by omega)];omega
 simp only[]at *
 simp(disch:=omega) [aS,hl,e1,VY]
 refine aj (fun h1=> ?_) (fun h1=> ?_)
 ·have hj:j=zc b.length:=by omega
  subst hj
  simp(disch:=omega) [aS,VY]
  refine bS (σ:=Nat×Nat) (f1:=_) (es0:=_) (by simp(disch:=omega) [VY];rfl) (by simp(disch:=omega) [VY];rfl) (fun p=> [(5, .val false [.int .i64 (7 - (p.1:Int))]),(3, .val false [.ow 73728 p.2])]) (fun p=> [(73728, .sl p.2 true true (some (5,1)) (bytes (b++ [128]++List.replicate (zc b.length) 0++(mq (8 * b.length)).take p.1)))])
   (fun p g=>g+p.1=8) (0,_) 8 (by simp(disch:=omega) [VY];rfl) (by simp(disch:=omega) [VY]) (by omega) ?_
  rintro⟨k,w⟩ n g hg
  simp only at hg
  simp(disch:=omega) [VY]
  refine aj (fun h2=> ?_) (fun h2=> ?_)
  ·have hk:k < 8:=by omega
   have q1:¬(8:Int) * (7 - (k:Int)) < 0:=by omega
   have q2:((8:Int) * (7 - (k:Int))).toNat=8 * (7 - k):=by omega
   have q3:min (8 * (7 - k)) 64=8 * (7 - k):=by omega
   have q4:=Qx (8 * b.length) (8 * (7 - k))
   have q5:((8 * b.length:Nat):Int)=8 * (b.length:Int):=by omega
   rw[q5]at q4
   have q6:bytes (b++ [128]++List.replicate (zc b.length) 0++(mq (8 * b.length)).take k)++ [[.int .u8 ((UInt8.ofNat (8 * b.length / 2 ^ (8 * (7 - k)))).toNat:Int)]]=bytes (b++ [128]++List.replicate (zc b.length) 0++(mq (8 * b.length)).take (k+1)):=by
    rw[pj _ hk,←List.append_assoc];simp only[bytes,List.map_append,List.map_cons,List.map_nil]
   have q7:(bytes (b++ [128]++List.replicate (zc b.length) 0++(mq (8 * b.length)).take k)).length=b.length+1+zc b.length+k:=by
    rw[aS];simp[mq];omega
   simp(disch:=omega) [aS,q1,q2,q3,q4,q6,q7,IntKind.bits,VY]
   have q8:((UInt8.ofNat (8 * b.length / 2 ^ (8 * (7 - k)))).toNat:Int)=8 * (b.length:Int) / 2 ^ (8 * (7 - k)) % 256:=by simp[UInt8.toNat_ofNat']
   exact⟨k+1,_,g - 1,by omega,by omega,⟨rfl,by omega⟩,rfl,by rw[pj _ hk];simp[bytes,q8]⟩
  ·have hk:k=8:=by omega
   subst hk
   simp(disch:=omega) [pad,VY]
   rw[List.take_of_length_le (by simp[mq])]
 ·have e2:bytes (b++ [128]++List.replicate j (0:UInt8))++ [[.int .u8 0]]=bytes (b++ [128]++List.replicate (j+1) 0):=by rw[List.replicate_succ',←List.append_assoc];simp[bytes]
  have e3:(bytes (b++ [128]++List.replicate j (0:UInt8))).length=b.length+1+j:=by rw[aS,hl]
  simp(disch:=omega) [e2,e3,VY]
  exact⟨j+1,_,g - 1,by omega,by omega,rfl,rfl,by rw[List.replicate_succ'];simp[bytes]⟩
def gi (l:List Int) (i:Nat):Int:=l.getD i 0
def ints (l:List Int):List (List D):=l.map fun n=> [.int .i64 n]
theorem cc (l:List Int):(ints l).length=l.length:=by simp[ints]
theorem EB {l:List Int} {i:Nat} (h:i < l.length):(ints l)[i]? =some [.int .i64 (gi l i)]:=by simp[ints,gi,h]
theorem iC (l:List Int):flat (ints l)=true:=by
 induction l with
 |nil=>rfl
 |cons n l ih=>simp only[ints,List.map_cons,flat]at ih⊢;simpa[cB,D.leaf]using ih
theorem jK (l:List Int):wid 1 (ints l)=true:=by
 induction l with
 |nil=>rfl
 |cons n l ih=>simp only[ints,List.map_cons,wid]at ih⊢;simpa using ih
theorem fu {l:List Int} {i:Nat} (h:i < (ints l).length):(ints l)[i]= [.int .i64 (gi l i)]:=by simp[ints,gi]at h⊢;simp[h]
def pv (l:List Int):List D:=l.map (.int .i64)
theorem Cd (l:List Int):(pv l).length=l.length:=by simp[pv]
theorem B5 {l:List Int} {i:Nat} (h:i < l.length):((pv l).drop i).take 1= [.int .i64 (gi l i)]:=by
 have e:(pv l).drop i= .int .i64 (gi l i)::(pv l).drop (i+1):=by
  rw[List.drop_eq_getElem_cons (by simpa[pv]using h)]
  simp[pv,gi,h]
 rw[e];rfl
def init:List Int:= [1779033703,3144134277,1013904242,2773480762,1359893119,2600822924,528734635,1541459225]
abbrev ot:Nat:=321
def mN:AF:=⟨0,2,[.tmp 0],(.seq (.ops [.i (.mov 0 (.c (.val false [.nils])))]) (.seq (.ops [.i (.bsl 1 3 1 8 [.int .i64 0] [(0,1,(qi 1779033703)),(1,1,(qi 3144134277)),(2,1,(qi 1013904242)),(3,1,(qi 2773480762)),(4,1,(qi 1359893119)),(5,1,(qi 2600822924)),(6,1,(qi 528734635)),(7,1,(qi 1541459225))]),qm 0 1]) .ret))⟩
theorem xj:cd ot=some mN:=by kernel_rfl
theorem vJ:VC cd ot (bJ []) (fun rs _=>rs= [(false,[.o true (some (3,1)) (ints init)])]):=by
 refine aa xj rfl ?_
 simp(disch:=omega) [mN,ints,init,VY]
abbrev mw:Nat:=303
def nI:AF:=⟨0,2,[.tmp 0],(.seq (.ops [.i (.mov 0 (.c (.val false [.nils])))]) (.seq (.ops [.i (.bsl 1 3 1 8 [.int .i64 0] [(0,1,(qi 1779033703)),(1,1,(qi 3144134277)),(2,1,(qi 1013904242)),(3,1,(qi 2773480762)),(4,1,(qi 1359893119)),(5,1,(qi 2600822924)),(6,1,(qi 528734635)),(7,1,(qi 1541459225))]),qm 0 1]) .ret))⟩
theorem xX:cd mw=some nI:=by kernel_rfl
theorem vN:VC cd mw (bJ []) (fun rs _=>rs= [(false,[.o true (some (3,1)) (ints init)])]):=by
 refine aa xX rfl ?_
 simp(disch:=omega) [nI,ints,init,VY]
def kk:List Int:= [1116352408,1899447441,3049323471,3921009573,961987163,1508970993,2453635748,2870763221,3624381080,310598401,607225278,1426881987,1925078388,2162078206,2614888103,3248222580,3835390401,4022224774,264347078,604807628,770255983,1249150122,1555081692,1996064986,2554220882,2821834349,2952996808,3210313671,3336571891,3584528711,113926993,338241895,666307205,773529912,1294757372,1396182291,1695183700,1986661051,2177026350,2456956037,2730485921,2820302411,3259730800,3345764771,3516065817,3600352804,4094571909,275423344,430227734,506948616,659060556,883997877,958139571,1322822218,1537002063,1747873779,1955562222,2024104815,2227730452,2361852424,2428436474,2756734187,3204031479,3329325298]
abbrev rl:Nat:=325
def qq:AF:=⟨0,2,[.tmp 0],(.seq (.ops [.i (.mov 0 (.c (.val false [.nils])))]) (.seq (.ops [.i (.bsl 1 3 1 64 [.int .i64 0] [(0,1,(qi 1116352408)),(1,1,(qi 1899447441)),(2,1,(qi 3049323471)),(3,1,(qi 3921009573)),(4,1,(qi 961987163)),(5,1,(qi 1508970993)),(6,1,(qi 2453635748)),(7,1,(qi 2870763221)),(8,1,(qi 3624381080)),(9,1,(qi 310598401)),(10,1,(qi 607225278)),(11,1,(qi 1426881987)),(12,1,(qi 1925078388)),(13,1,(qi 2162078206)),(14,1,(qi 2614888103)),(15,1,(qi 3248222580)),(16,1,(qi 3835390401)),(17,1,(qi 4022224774)),(18,1,(qi 264347078)),(19,1,(qi 604807628)),(20,1,(qi 770255983)),(21,1,(qi 1249150122)),(22,1,(qi 1555081692)),(23,1,(qi 1996064986)),(24,1,(qi 2554220882)),(25,1,(qi 2821834349)),(26,1,(qi 2952996808)),(27,1,(qi 3210313671)),(28,1,(qi 3336571891)),(29,1,(qi 3584528711)),(30,1,(qi 113926993)),(31,1,(qi 338241895)),(32,1,(qi 666307205)),(33,1,(qi 773529912)),(34,1,(qi 1294757372)),(35,1,(qi 1396182291)),(36,1,(qi 1695183700)),(37,1,(qi 1986661051)),(38,1,(qi 2177026350)),(39,1,(qi 2456956037)),(40,1,(qi 2730485921)),(41,1,(qi 2820302411)),(42,1,(qi 3259730800)),(43,1,(qi 3345764771)),(44,1,(qi 3516065817)),(45,1,(qi 3600352804)),(46,1,(qi 4094571909)),(47,1,(qi 275423344)),(48,1,(qi 430227734)),(49,1,(qi 506948616)),(50,1,(qi 659060556)),(51,1,(qi 883997877)),(52,1,(qi 958139571)),(53,1,(qi 1322822218)),(54,1,(qi 1537002063)),(55,1,(qi 1747873779)),(56,1,(qi 1955562222)),(57,1,(qi 2024104815)),(58,1,(qi 2227730452)),(59,1,(qi 2361852424)),(60,1,(qi 2428436474)),(61,1,(qi 2756734187)),(62,1,(qi 3204031479)),(63,1,(qi 3329325298))]),qm 0 1]) .ret))⟩
theorem zF:cd rl=some qq:=by kernel_rfl
theorem Ht:VC cd rl (bJ []) (fun rs _=>rs= [(false,[.o true (some (3,1)) (ints kk)])]):=by
 refine aa zF rfl ?_
 simp(disch:=omega) [qq,ints,kk,VY]
abbrev ve:Nat:=320
def vk:AF:=⟨0,2,[.tmp 0],(.seq (.ops [.i (.mov 0 (.c (.val false [.nils])))]) (.seq (.ops [.i (.bsl 1 3 1 64 [.int .i64 0] [(0,1,(qi 1116352408)),(1,1,(qi 1899447441)),(2,1,(qi 3049323471)),(3,1,(qi 3921009573)),(4,1,(qi 961987163)),(5,1,(qi 1508970993)),(6,1,(qi 2453635748)),(7,1,(qi 2870763221)),(8,1,(qi 3624381080)),(9,1,(qi 310598401)),(10,1,(qi 607225278)),(11,1,(qi 1426881987)),(12,1,(qi 1925078388)),(13,1,(qi 2162078206)),(14,1,(qi 2614888103)),(15,1,(qi 3248222580)),(16,1,(qi 3835390401)),(17,1,(qi 4022224774)),(18,1,(qi 264347078)),(19,1,(qi 604807628)),(20,1,(qi 770255983)),(21,1,(qi 1249150122)),(22,1,(qi 1555081692)),(23,1,(qi 1996064986)),(24,1,(qi 2554220882)),(25,1,(qi 2821834349)),(26,1,(qi 2952996808)),(27,1,(qi 3210313671)),(28,1,(qi 3336571891)),(29,1,(qi 3584528711)),(30,1,(qi 113926993)),(31,1,(qi 338241895)),(32,1,(qi 666307205)),(33,1,(qi 773529912)),(34,1,(qi 1294757372)),(35,1,(qi 1396182291)),(36,1,(qi 1695183700)),(37,1,(qi 1986661051)),(38,1,(qi 2177026350)),(39,1,(qi 2456956037)),(40,1,(qi 2730485921)),(41,1,(qi 2820302411)),(42,1,(qi 3259730800)),(43,1,(qi 3345764771)),(44,1,(qi 3516065817)),(45,1,(qi 3600352804)),(46,1,(qi 4094571909)),(47,1,(qi 275423344)),(48,1,(qi 430227734)),(49,1,(qi 506948616)),(50,1,(qi 659060556)),(51,1,(qi 883997877)),(52,1,(qi 958139571)),(53,1,(qi 1322822218)),(54,1,(qi 1537002063)),(55,1,(qi 1747873779)),(56,1,(qi 1955562222)),(57,1,(qi 2024104815)),(58,1,(qi 2227730452)),(59,1,(qi 2361852424)),(60,1,(qi 2428436474)),(61,1,(qi 2756734187)),(62,1,(qi 3204031479)),(63,1,(qi 3329325298))]),qm 0 1]) .ret))⟩
theorem DJ:cd ve=some vk:=by kernel_rfl
theorem Ky:VC cd ve (bJ []) (fun rs _=>rs= [(false,[.o true (some (3,1)) (ints kk)])]):=by
 refine aa DJ rfl ?_
 simp(disch:=omega) [vk,ints,kk,VY]
def gb (b:Bytes) (i:Nat):Int:=((b.getD i 0).toNat:Int)
def bw (b:Bytes) (i:Nat):Int:=aH .or .i64 (aH .or .i64 (aH .or .i64 (IntKind.i64.wrap (gb b i * 2 ^ min 24 IntKind.i64.bits)) (IntKind.i64.wrap (gb b (i+1) * 2 ^ min 16 IntKind.i64.bits))) (IntKind.i64.wrap (gb b (i+2) * 2 ^ min 8 IntKind.i64.bits))) (gb b (i+3))
def QB (x:Int):Int:=aH .xor .i64 (aH .xor .i64 (turn x 7) (turn x 18)) (x.fdiv (2 ^ min 3 IntKind.i64.bits))
def QA (x:Int):Int:=aH .xor .i64 (aH .xor .i64 (turn x 17) (turn x 19)) (x.fdiv (2 ^ min 10 IntKind.i64.bits))
def IG (a x c y:Int):Int:=aH .and .i64 (IntKind.i64.wrap (IntKind.i64.wrap (IntKind.i64.wrap (a+QB x)+c)+QA y)) 4294967295
def eY (b:Bytes):Nat→List Int
 |0=> []
 |n+1=>eY b n++ [if n < 16 then bw b (4 * n)else IG (gi (eY b n) (n - 16)) (gi (eY b n) (n - 15)) (gi (eY b n) (n - 7)) (gi (eY b n) (n - 2))]
theorem fm (b:Bytes):∀n,(eY b n).length=n
 |0=>rfl
 |n+1=>by simp[eY,fm b n]
def sT (v:List Int) (k w:Int):Int:=IntKind.i64.wrap (IntKind.i64.wrap (IntKind.i64.wrap (IntKind.i64.wrap (gi v 7+aH .xor .i64 (aH .xor .i64 (turn (gi v 4) 6) (turn (gi v 4) 11)) (turn (gi v 4) 25))+aH .xor .i64 (aH .and .i64 (gi v 4) (gi v 5)) (aH .and .i64 (aH .xor .i64 4294967295 (gi v 4)) (gi v 6)))+k)+w)
def sU (v:List Int):Int:=IntKind.i64.wrap (aH .xor .i64 (aH .xor .i64 (turn (gi v 0) 2) (turn (gi v 0) 13)) (turn (gi v 0) 22)+aH .xor .i64 (aH .xor .i64 (aH .and .i64 (gi v 0) (gi v 1)) (aH .and .i64 (gi v 0) (gi v 2))) (aH .and .i64 (gi v 1) (gi v 2)))
def Qq (v:List Int) (k w:Int):List Int:= [aH .and .i64 (IntKind.i64.wrap (sT v k w+sU v)) 4294967295,gi v 0,gi v 1,gi v 2,aH .and .i64 (IntKind.i64.wrap (gi v 3+sT v k w)) 4294967295,gi v 4,gi v 5,gi v 6]
def gT (h:List Int) (b:Bytes):Nat→List Int
 |0=>h
 |n+1=>Qq (gT h b n) (gi kk n) (gi (eY b 64) n)
theorem oh {h:List Int} (hl:h.length=8) (b:Bytes):∀n,(gT h b n).length=8
 |0=>hl
 |n+1=>rfl
def pC (h:List Int) (b:Bytes):List Int:=(List.range 8).map fun i=>aH .and .i64 (IntKind.i64.wrap (gi h i+gi (gT h b 64) i)) 4294967295
theorem ob {b:Bytes} {i:Nat} (h:i < b.length):(bytes b)[i]? =some [.int .u8 (gb b i)]:=by simp[bytes,gb,h]
theorem ee (b:Bytes) (i:Nat):0≤gb b i∧gb b i < 256:=by unfold gb;have:=(b.getD i 0).toNat_lt;omega
end Go.Eng.F
namespace Go.Eng.F
theorem AU (h:List Int) (b:Bytes) {k:Nat} (hk:k < 8):ints ((pC h b).take (k+1))=ints ((pC h b).take k)++ [[.int .i64 (aH .and .i64 (IntKind.i64.wrap (gi h k+gi (gT h b 64) k)) 4294967295)]]:=by
 rw[List.take_add_one]
 simp only[ints,List.map_append]
 congr 1
 simp[pC,hk]
abbrev mc:Nat:=305
def lh:AF:=⟨2,8,[.tmp 4],(.seq (.ops [.i (.mov 4 (.c (.val false [.nils])))]) (.seq (.seq (.ops [qm 23 0,qn 24 23, .i (.bin 25 .neq (.s 24) (qi 8)),qm 26 25, .g 26 false 28 (.mov 27 (.s 1)), .g 26 false 29 (.len 28 false (.s 27)), .g 26 false 30 (.bin 29 .neq (.s 28) (qi 64)), .i (.pick 30 (.s 26) (qb true) (.s 29))]) (.cond (.s 30) (.seq (.ops [.i (.mov 4 (.c (.val false [.nils])))]) .ret) .skip)) (.seq (.seq (.ops [qm 31 0,qn 32 31, .i (.mov 33 (qi 0))]) (.block 0 (.loop [40,39,38,37,36,35,34,6] (.seq (.ops [qd 34 .lss 33 32]) (.seq (.cond (.s 34) .skip (.exit 0)) (.seq (.block 1 (.seq (.ops [.i (.iad 35 (.s 31) (.s 33) 1), .i (.ldh 36 (.s 35) 1 false),qm 6 36]) (.seq (.ops [qm 37 6,qk 39 318 37, .i (.not 39 (.s 38))]) (.cond (.s 39) (.seq (.ops [.i (.mov 4 (.c (.val false [.nils])))]) .ret) .skip)))) (.ops [.i (.bin 40 .add (.s 33) (qi 1)),qm 33 40]))))))) (.seq (.ops [.i (.bse 41),qm 7 41]) (.seq (.seq (.ops [.i (.mov 8 (qi 0))]) (.block 2 (.loop [77,76,75,74,73,72,71,70,69,68,67,66,65,64,63,62,61,60,59,58,57,56,55,54,53,52,51,50,49,48,47,46,45,44,43,42] (.seq (.seq (.ops [qm 42 8, .i (.bin 43 .lss (.s 42) (qi 64))]) (.cond (.s 43) .skip (.exit 2))) (.seq (.block 3 (.ops [qm 46 7,qm 47 1,qm 48 8, .i (.iad 49 (.s 47) (.s 48) 1), .i (.ldh 50 (.s 49) 1 false), .i (.cvi 51 .i64 (.s 50)), .i (.bin 52 .shl (.s 51) (.c (.val false [.int .u64 24]))),qm 53 1,qm 54 8, .i (.bin 55 .add (.s 54) (qi 1)), .i (.iad 56 (.s 53) (.s 55) 1), .i (.ldh 57 (.s 56) 1 false), .i (.cvi 58 .i64 (.s 57)), .i (.bin 59 .shl (.s 58) (.c (.val false [.int .u64 16]))),qd 60 .or 52 59,qm 61 1,qm 62 8, .i (.bin 63 .add (.s 62) (qi 2)), .i (.iad 64 (.s 61) (.s 63) 1), .i (.ldh 65 (.s 64) 1 false), .i (.cvi 66 .i64 (.s 65)), .i (.bin 67 .shl (.s 66) (.c (.val false [.int .u64 8]))),qd 68 .or 60 67,qm 69 1,qm 70 8, .i (.bin 71 .add (.s 70) (qi 3)), .i (.iad 72 (.s 69) (.s 71) 1), .i (.ldh 73 (.s 72) 1 false), .i (.cvi 74 .i64 (.s 73)),qd 75 .or 68 74, .i (.lsl 76 1 1 [.int .i64 0] [(0,1,(.s 75))]), .i (.app 77 3 1 8 (.s 46) (.s 76)),qm 7 77])) (.ops [qm 44 8, .i (.bin 45 .add (.s 44) (qi 4)),qm 8 45])))))) (.seq (.seq (.ops [.i (.mov 9 (qi 16))]) (.block 4 (.loop [126,125,124,123,122,121,120,119,118,117,116,115,114,113,112,111,110,109,108,107,106,105,104,103,102,101,100,99,98,97,96,95,94,93,92,91,90,89,88,87,86,85,84,83,82,81,80,79,78,13,12,11,10] (.seq (.seq (.ops [qm 78 9, .i (.bin 79 .lss (.s 78) (qi 64))]) (.cond (.s 79) .skip (.exit 4))) (.seq (.block 5 (.seq (.ops [qm 82 7,qm 83 9, .i (.bin 84 .sub (.s 83) (qi 15)), .i (.iad 85 (.s 82) (.s 84) 1), .i (.ldh 86 (.s 85) 1 false),qm 10 86]) (.seq (.ops [qm 87 7,qm 88 9, .i (.bin 89 .sub (.s 88) (qi 2)), .i (.iad 90 (.s 87) (.s 89) 1), .i (.ldh 91 (.s 90) 1 false),qm 11 91]) (.seq (.ops [qm 92 10, .i (.call 94 319 false [(.s 92),(qi 7)]),qm 94 10, .i (.call 96 319 false [(.s 94),(qi 18)]),qd 96 .xor 93 95,qm 97 10, .i (.bin 98 .shr (.s 97) (.c (.val false [.int .u64 3]))),qd 99 .xor 96 98,qm 12 99]) (.seq (.ops [qm 100 11, .i (.call 102 319 false [(.s 100),(qi 17)]),qm 102 11, .i (.call 104 319 false [(.s 102),(qi 19)]),qd 104 .xor 101 103,qm 105 11, .i (.bin 106 .shr (.s 105) (.c (.val false [.int .u64 10]))),qd 107 .xor 104 106,qm 13 107]) (.ops [qm 108 7,qm 109 7,qm 110 9, .i (.bin 111 .sub (.s 110) (qi 16)), .i (.iad 112 (.s 109) (.s 111) 1), .i (.ldh 113 (.s 112) 1 false),qm 114 12,qd 115 .add 113 114,qm 116 7,qm 117 9, .i (.bin 118 .sub (.s 117) (qi 7)), .i (.iad 119 (.s 116) (.s 118) 1), .i (.ldh 120 (.s 119) 1 false),qd 121 .add 115 120,qm 122 13,qd 123 .add 121 122, .i (.bin 124 .and (.s 123) (qi 4294967295)), .i (.lsl 125 1 1 [.int .i64 0] [(0,1,(.s 124))]), .i (.app 126 3 1 8 (.s 108) (.s 125)),qm 7 126])))))) (.ops [qm 80 9, .i (.bin 81 .add (.s 80) (qi 1)),qm 9 81])))))) (.seq (.ops [.i (.call 128 320 false []),qm 14 127]) (.seq (.ops [.i (.bse 128),qm 129 0, .i (.app 130 3 1 8 (.s 128) (.s 129)),qm 15 130]) (.seq (.seq (.ops [.i (.mov 16 (qi 0))]) (.block 6 (.loop [232,231,230,229,228,227,226,225,224,223,222,221,220,219,218,217,216,215,214,213,212,211,210,209,208,207,206,205,204,203,202,201,200,199,198,197,196,195,194,193,192,191,190,189,188,187,186,185,184,183,182,181,180,179,178,177,176,175,174,173,172,171,170,169,168,167,166,165,164,163,162,161,160,159,158,157,156,155,154,153,152,151,150,149,148,147,146,145,144,143,142,141,140,139,138,137,136,135,134,133,132,131,20,19,18,17] (.seq (.seq (.ops [qm 131 16, .i (.bin 132 .lss (.s 131) (qi 64))]) (.cond (.s 132) .skip (.exit 6))) (.seq (.block 7 (.seq (.ops [qm 135 15, .i (.iad 136 (.s 135) (qi 4) 1), .i (.ldh 137 (.s 136) 1 false),qm 17 137]) (.seq (.ops [qm 138 15, .i (.iad 139 (.s 138) (qi 0) 1), .i (.ldh 140 (.s 139) 1 false),qm 18 140]) (.seq (.ops [qm 141 15, .i (.iad 142 (.s 141) (qi 7) 1), .i (.ldh 143 (.s 142) 1 false),qm 144 17, .i (.call 146 319 true [(.s 144),(qi 6)]),qm 146 17, .i (.call 148 319 true [(.s 146),(qi 11)]),qd 148 .xor 145 147,qm 149 17, .i (.call 151 319 true [(.s 149),(qi 25)]),qd 151 .xor 148 150,qd 152 .add 143 151,qm 153 17,qm 154 15, .i (.iad 155 (.s 154) (qi 5) 1), .i (.ldh 156 (.s 155) 1 false),qd 157 .and 153 156,qm 158 17, .i (.bin 159 .xor (qi 4294967295) (.s 158)),qm 160 15, .i (.iad 161 (.s 160) (qi 6) 1), .i (.ldh 162 (.s 161) 1 false),qd 163 .and 159 162,qd 164 .xor 157 163,qd 165 .add 152 164,qm 166 14,qm 167 16, .i (.iad 168 (.s 166) (.s 167) 1), .i (.ldh 169 (.s 168) 1 false),qd 170 .add 165 169,qm 171 7,qm 172 16, .i (.iad 173 (.s 171) (.s 172) 1), .i (.ldh 174 (.s 173) 1 false),qd 175 .add 170 174,qm 19 175]) (.seq (.ops [qm 176 18, .i (.call 178 319 true [(.s 176),(qi 2)]),qm 178 18, .i (.call 180 319 true [(.s 178),(qi 13)]),qd 180 .xor 177 179,qm 181 18, .i (.call 183 319 true [(.s 181),(qi 22)]),qd 183 .xor 180 182,qm 184 18,qm 185 15, .i (.iad 186 (.s 185) (qi 1) 1), .i (.ldh 187 (.s 186) 1 false),qd 188 .and 184 187,qm 189 18,qm 190 15, .i (.iad 191 (.s 190) (qi 2) 1), .i (.ldh 192 (.s 191) 1 false),qd 193 .and 189 192,qd 194 .xor 188 193,qm 195 15, .i (.iad 196 (.s 195) (qi 1) 1), .i (.ldh 197 (.s 196) 1 false),qm 198 15, .i (.iad 199 (.s 198) (qi 2) 1), .i (.ldh 200 (.s 199) 1 false),qd 201 .and 197 200,qd 202 .xor 194 201,qd 203 .add 183 202,qm 20 203]) (.ops [qm 204 19,qm 205 20,qd 206 .add 204 205, .i (.bin 207 .and (.s 206) (qi 4294967295)),qm 208 15, .i (.iad 209 (.s 208) (qi 0) 1), .i (.ldh 210 (.s 209) 1 false),qm 211 15, .i (.iad 212 (.s 211) (qi 1) 1), .i (.ldh 213 (.s 212) 1 false),qm 214 15, .i (.iad 215 (.s 214) (qi 2) 1), .i (.ldh 216 (.s 215) 1 false),qm 217 15, .i (.iad 218 (.s 217) (qi 3) 1), .i (.ldh 219 (.s 218) 1 false),qm 220 19,qd 221 .add 219 220, .i (.bin 222 .and (.s 221) (qi 4294967295)),qm 223 15, .i (.iad 224 (.s 223) (qi 4) 1), .i (.ldh 225 (.s 224) 1 false),qm 226 15, .i (.iad 227 (.s 226) (qi 5) 1), .i (.ldh 228 (.s 227) 1 false),qm 229 15, .i (.iad 230 (.s 229) (qi 6) 1), .i (.ldh 231 (.s 230) 1 false), .i (.bsl 232 3 1 8 [.int .i64 0] [(0,1,(.s 207)),(1,1,(.s 210)),(2,1,(.s 213)),(3,1,(.s 216)),(4,1,(.s 222)),(5,1,(.s 225)),(6,1,(.s 228)),(7,1,(.s 231))]),qm 15 232])))))) (.ops [qm 133 16, .i (.bin 134 .add (.s 133) (qi 1)),qm 16 134])))))) (.seq (.ops [.i (.bse 233),qm 21 233]) (.seq (.seq (.ops [qm 234 0,qn 235 234, .i (.mov 236 (qi 0))]) (.block 8 (.loop [252,251,250,249,248,247,246,245,244,243,242,241,240,239,238,237,22] (.seq (.ops [qd 237 .lss 236 235]) (.seq (.cond (.s 237) .skip (.exit 8)) (.seq (.block 9 (.seq (.ops [qm 238 236,qm 22 238]) (.ops [qm 239 21,qm 240 0,qm 241 22, .i (.iad 242 (.s 240) (.s 241) 1), .i (.ldh 243 (.s 242) 1 false),qm 244 15,qm 245 22, .i (.iad 246 (.s 244) (.s 245) 1), .i (.ldh 247 (.s 246) 1 false),qd 248 .add 243 247, .i (.bin 249 .and (.s 248) (qi 4294967295)), .i (.lsl 250 1 1 [.int .i64 0] [(0,1,(.s 249))]), .i (.app 251 3 1 8 (.s 239) (.s 250)),qm 21 251]))) (.ops [.i (.bin 252 .add (.s 236) (qi 1)),qm 236 252]))))))) (.seq (.ops [qm 253 21,qm 4 253]) .ret))))))))))))⟩
theorem vF:cd mc=some lh:=by kernel_rfl
theorem uI (h:List Int) (b:Bytes) (hl:h.length=8) (hw:∀x∈h,word x=true) (hb:b.length=64):VC cd mc (bJ [(false,[.sl (ints h)]),(false,[.sl (bytes b)])]) (fun rs _=>rs= [(false,[.o true (some (3,1)) (ints (pC h b))])]):=by
 refine aa vF rfl ?_
 simp(disch:=omega) [lh,cc,aS,hl,hb,VY]
 refine bS (σ:=Nat) (f1:=_) (es0:=_) (by simp(disch:=omega) [VY];rfl) (by simp(disch:=omega) [VY];rfl) (fun i=> [(33, .val false [.int .i64 i])]) (fun _=> []) (fun i g=>g+i=8) 0 8 (by simp(disch:=omega) [VY]) (by simp(disch:=omega) [VY]) (by omega) ?_
 rintro i n g hg
 simp(disch:=omega) [VY]
 refine aj (fun h1=> ?_) (fun h1=> ?_)
 ·have hx:i < h.length:=by omega
  simp(disch:=omega) [EB hx,VY]
  refine an (Fp _) rfl rfl ?_
  have hq:word (gi h i)=true:=hw _ (by simp[gi,hx])
  simp(disch:=omega) [hq,VY]
  exact⟨i+1,g - 1,by omega,by omega,by omega⟩
 have hi:i=8:=by omega
 subst hi
 simp(disch:=omega) [VY]
 refine bS (σ:=Nat×Nat) (f1:=_) (es0:=_) (by simp(disch:=omega) [VY];rfl) (by simp(disch:=omega) [VY];rfl) (fun p=> [(8, .val false [.int .i64 (4 * (p.1:Int))]),(7, .val false [.ow 41 p.2])]) (fun p=> [(41, .sl p.2 true true (some (3,1)) (ints (eY b p.1)))])
  (fun p g=>g+p.1=16) (0,_) 16 (by simp(disch:=omega) [VY];rfl) (by simp(disch:=omega) [ints,eY,VY]) (by omega) ?_
 rintro⟨k,v⟩ n g hg
 simp only at hg
 simp(disch:=omega) [VY]
 refine aj (fun h2=> ?_) (fun h2=> ?_)
 ·have hk:k < 16:=by omega
  have q1:((4:Int) * (k:Int)).toNat=4 * k:=by omega
  have q2:((4:Int) * (k:Int)+1).toNat=4 * k+1:=by omega
  have q3:((4:Int) * (k:Int)+2).toNat=4 * k+2:=by omega
  have q4:((4:Int) * (k:Int)+3).toNat=4 * k+3:=by omega
  have p1:(0:Int)≤(4:Int) * (k:Int)∧(0:Int)≤(4:Int) * (k:Int)+1∧(0:Int)≤(4:Int) * (k:Int)+2∧(0:Int)≤(4:Int) * (k:Int)+3:=by omega
  obtain⟨p1,p2,p3,p4⟩:=p1
  have r1:=ee b (4 * k)
  have r2:=ee b (4 * k+1)
  have r3:=ee b (4 * k+2)
  have r4:=ee b (4 * k+3)
  have e1:(ints (eY b k)).length=k:=by rw[cc,fm]
  simp(disch:=omega) [aS,hb,q1,q2,q3,q4,p1,p2,p3,p4,e1,iC,jK,ob (show 4 * k < b.length by omega),ob (show 4 * k+1 < b.length by omega),ob (show 4 * k+2 < b.length by omega),ob (show 4 * k+3 < b.length by omega),VY]
  exact⟨k+1,_,g - 1,by omega,by omega,⟨rfl,by omega⟩,rfl,by rw[eY,if_pos hk];simp only[ints,List.map_append,List.map_cons,List.map_nil,bw]⟩
 have hk:k=16:=by omega
 subst hk
 simp(disch:=omega) [VY]
 refine bS (σ:=Nat×Nat) (f1:=_) (es0:=_) (by simp(disch:=omega) [VY];rfl) (by simp(disch:=omega) [VY];rfl) (fun p=> [(9, .val false [.int .i64 p.1]),(7, .val false [.ow 41 p.2])]) (fun p=> [(41, .sl p.2 true true (some (3,1)) (ints (eY b p.1)))])
  (fun p g=>g+p.1=64∧16≤p.1) (16,_) 48 (by simp(disch:=omega) [VY];rfl) (by simp(disch:=omega) [VY]) (by omega) ?_
 rintro⟨k,v⟩ n g hg
 simp only at hg
 simp(disch:=omega) [VY]
 refine aj (fun h3=> ?_) (fun h3=> ?_)
 ·have hk:k < 64:=by omega
  obtain⟨p1,p2,p3⟩:(15:Int)≤(k:Int)∧((k:Int) - 15).toNat=k - 15∧(k:Int) - 15 < k:=by omega
  obtain⟨p4,p5,p6⟩:(2:Int)≤(k:Int)∧((k:Int) - 2).toNat=k - 2∧(k:Int) - 2 < k:=by omega
  obtain⟨p7,p8,p9⟩:(16:Int)≤(k:Int)∧((k:Int) - 16).toNat=k - 16∧(k:Int) - 16 < k:=by omega
  obtain⟨q1,q2,q3⟩:(7:Int)≤(k:Int)∧((k:Int) - 7).toNat=k - 7∧(k:Int) - 7 < k:=by omega
  have e1:(ints (eY b k)).length=k:=by rw[cc,fm]
  have hwl:=fm b k
  simp(disch:=omega) [e1,p1,p2,p3,p4,p5,p6,fu,VY]
  refine an (dy _ 7 (by omega)) rfl rfl ?_
  simp(disch:=omega) [VY]
  refine an (dy _ 18 (by omega)) rfl rfl ?_
  simp(disch:=omega) [VY]
  refine an (dy _ 17 (by omega)) rfl rfl ?_
  simp(disch:=omega) [VY]
  refine an (dy _ 19 (by omega)) rfl rfl ?_
  simp(disch:=omega) [e1,p7,p8,p9,q1,q2,q3,fu,iC,jK,VY]
  exact⟨k+1,_,g - 1,by omega,by omega,⟨rfl,by omega⟩,rfl,by rw[eY,if_neg (by omega)];simp only[ints,List.map_append,List.map_cons,List.map_nil,IG,QB,QA]⟩
 have hk:k=64:=by omega
 subst hk
 simp(disch:=omega) [VY]
 refine an (Ky) rfl rfl ?_
 simp(disch:=omega) [cc,hl,iC,jK,VY]
 refine ti (σ:=Nat×Nat) (f0:=_) (by simp(disch:=omega) [VY];rfl) (dD.Qh (s:=15) (k:=128) (k':=232) (by simp(disch:=omega) [VY]) rfl (by omega)) (f1:=_) (es0:=_) (by simp(disch:=omega) [VY];rfl) (by simp(disch:=omega) [sP,i3,VY];rfl) (fun p=> [(16, .val false [.int .i64 p.1]),(15, .val false [.ow 232 p.2])]) (fun p=> [(232, .sl p.2 true true (some (3,1)) (ints (gT h b p.1)))])
  (fun p g=>g+p.1=64) (0,_) 64 (by simp(disch:=omega) [VY];rfl) (by simp(disch:=omega) [gT,sP,i3,VY]) (by omega) ?_
 rintro⟨k,v⟩ n g hg
 simp only at hg
 simp(disch:=omega) [VY]
 refine aj (fun h4=> ?_) (fun h4=> ?_)
 ·have hk:k < 64:=by omega
  have hv:=oh hl b k
  have e1:(ints (gT h b k)).length=8:=by rw[cc,hv]
  have e2:(ints kk).length=64:=rfl
  have e3:(ints (eY b 64)).length=64:=by rw[cc,fm]
  simp(disch:=omega) [e1,e2,e3,fu,VY]
  refine an (dy _ 6 (by omega)) rfl rfl ?_
  simp(disch:=omega) [VY]
  refine an (dy _ 11 (by omega)) rfl rfl ?_
  simp(disch:=omega) [VY]
  refine an (dy _ 25 (by omega)) rfl rfl ?_
  simp(disch:=omega) [e1,e2,e3,fu,VY]
  refine an (dy _ 2 (by omega)) rfl rfl ?_
  simp(disch:=omega) [VY]
  refine an (dy _ 13 (by omega)) rfl rfl ?_
  simp(disch:=omega) [VY]
  refine an (dy _ 22 (by omega)) rfl rfl ?_
  simp(disch:=omega) [e1,e2,e3,fu,VY]
  exact⟨k+1,_,g - 1,by omega,by omega,⟨rfl,by omega⟩,rfl,rfl⟩
 have hk:k=64:=by omega
 subst hk
 simp(disch:=omega) [cc,hl,VY]
 refine bS (σ:=Nat×Nat) (f1:=_) (es0:=_) (by simp(disch:=omega) [VY];rfl) (by simp(disch:=omega) [VY];rfl) (fun p=> [(236, .val false [.int .i64 p.1]),(21, .val false [.ow 233 p.2])]) (fun p=> [(233, .sl p.2 true true (some (3,1)) (ints ((pC h b).take p.1)))])
  (fun p g=>g+p.1=8) (0,_) 8 (by simp(disch:=omega) [VY];rfl) (by simp(disch:=omega) [ints,VY]) (by omega) ?_
 rintro⟨k,w⟩ n g hg
 simp only at hg
 simp(disch:=omega) [VY]
 refine aj (fun h5=> ?_) (fun h5=> ?_)
 ·have hk:k < 8:=by omega
  have hv:=oh hl b 64
  have e1:(ints (gT h b 64)).length=8:=by rw[cc,hv]
  have e2:(ints h).length=8:=by rw[cc,hl]
  have e3:(ints ((pC h b).take k)).length=k:=by rw[cc];simp[pC];omega
  simp(disch:=omega) [e1,e2,e3,fu,iC,jK,VY]
  exact⟨k+1,_,g - 1,by omega,by omega,⟨rfl,by omega⟩,rfl,AU h b hk⟩
 ·have hk:k=8:=by omega
  subst hk
  simp(disch:=omega) [VY]
  rw[List.take_of_length_le (by simp[pC])]
end Go.Eng.F
namespace Go.Eng.F
theorem rq (n:Int):BitVec.ofInt 64 (IntKind.i64.wrap n)=BitVec.ofInt 64 n:=by
 apply BitVec.eq_of_toNat_eq
 rw[IntKind.wrap_i64]
 simp only[BitVec.toNat_ofInt]
 congr 1
 omega
theorem uh (v:BitVec 64):BitVec.ofInt 64 (v.toNat:Int)=v:=by
 apply BitVec.eq_of_toNat_eq
 simp
theorem JV (x y:Int):BitVec.ofInt 64 (aH .and .i64 x y)=BitVec.ofInt 64 x &&& BitVec.ofInt 64 y:=by
 show BitVec.ofInt 64 (IntKind.i64.wrap ((BitVec.ofInt 64 x &&& BitVec.ofInt 64 y).toNat:Int))=_
 rw[rq,uh]
theorem OS (x y:Int):BitVec.ofInt 64 (aH .or .i64 x y)=BitVec.ofInt 64 x|||BitVec.ofInt 64 y:=by
 show BitVec.ofInt 64 (IntKind.i64.wrap ((BitVec.ofInt 64 x|||BitVec.ofInt 64 y).toNat:Int))=_
 rw[rq,uh]
theorem H7 (x y:Int):BitVec.ofInt 64 (aH .xor .i64 x y)=BitVec.ofInt 64 x ^^^ BitVec.ofInt 64 y:=by
 show BitVec.ofInt 64 (IntKind.i64.wrap ((BitVec.ofInt 64 x ^^^ BitVec.ofInt 64 y).toNat:Int))=_
 rw[rq,uh]
theorem sW {x:Int}:word x=true↔0≤x∧x≤4294967295:=by simp[word,dR]
theorem nv {x:Int} (h:word x=true):(BitVec.ofInt 64 x).toNat=x.toNat∧x.toNat < 4294967296:=by
 have h:=sW.1 h
 rw[BitVec.toNat_ofInt]
 omega
theorem Hm {x:Int} (h:word x=true):BitVec.ofInt 64 x &&& BitVec.ofInt 64 4294967295=BitVec.ofInt 64 x:=by
 obtain⟨h1,h2⟩:=nv h
 apply BitVec.eq_of_toNat_eq
 rw[BitVec.toNat_and,h1]
 have:(BitVec.ofInt 64 4294967295).toNat=2 ^ 32 - 1:=rfl
 rw[this,Nat.and_two_pow_sub_one_eq_mod]
 omega
theorem wrap_small {n:Nat} (h:n < 4294967296):word (IntKind.i64.wrap (n:Int))=true:=by
 rw[sW,aN (by omega) (by omega)]
 omega
theorem tq (x:Int):word (aH .and .i64 x 4294967295)=true:=by
 show word (IntKind.i64.wrap ((BitVec.ofInt 64 x &&& BitVec.ofInt 64 4294967295).toNat:Int))=true
 refine wrap_small ?_
 rw[BitVec.toNat_and]
 have:(BitVec.ofInt 64 4294967295).toNat=2 ^ 32 - 1:=rfl
 rw[this,Nat.and_two_pow_sub_one_eq_mod]
 omega
theorem Bl {x y:Int} (hx:word x=true) (hy:word y=true):word (aH .or .i64 x y)=true:=by
 show word (IntKind.i64.wrap ((BitVec.ofInt 64 x|||BitVec.ofInt 64 y).toNat:Int))=true
 refine wrap_small ?_
 rw[BitVec.toNat_or,(nv hx).1,(nv hy).1]
 exact Nat.or_lt_two_pow (n:=32) (nv hx).2 (nv hy).2
theorem ON {e p q:Int} (he:word e=true):aH .or .i64 (aH .and .i64 e p) (aH .and .i64 (aH .xor .i64 e 4294967295) q)=aH .xor .i64 (aH .and .i64 e p) (aH .and .i64 (aH .xor .i64 4294967295 e) q):=by
 show IntKind.i64.wrap ((BitVec.ofInt 64 _|||BitVec.ofInt 64 _).toNat:Int)=IntKind.i64.wrap ((BitVec.ofInt 64 _ ^^^ BitVec.ofInt 64 _).toNat:Int)
 congr 2
 apply congrArg BitVec.toNat
 simp only[JV,H7]
 have hm:=Hm he
 generalize BitVec.ofInt 64 e=a at *
 generalize BitVec.ofInt 64 p=b
 generalize BitVec.ofInt 64 q=c
 generalize BitVec.ofInt 64 4294967295=m at *
 apply BitVec.eq_of_getLsbD_eq
 intro i hi
 have h1:=congrArg (fun v=>v.getLsbD i) hm
 simp only[BitVec.getLsbD_and]at h1
 simp only[BitVec.getLsbD_or,BitVec.getLsbD_xor,BitVec.getLsbD_and]
 revert h1
 cases a.getLsbD i <;>cases b.getLsbD i <;>cases c.getLsbD i <;>cases m.getLsbD i <;>simp
theorem NP (a p q:Int):aH .or .i64 (aH .or .i64 (aH .and .i64 a p) (aH .and .i64 a q)) (aH .and .i64 p q)=aH .xor .i64 (aH .xor .i64 (aH .and .i64 a p) (aH .and .i64 a q)) (aH .and .i64 p q):=by
 show IntKind.i64.wrap ((BitVec.ofInt 64 _|||BitVec.ofInt 64 _).toNat:Int)=IntKind.i64.wrap ((BitVec.ofInt 64 _ ^^^ BitVec.ofInt 64 _).toNat:Int)
 congr 2
 apply congrArg BitVec.toNat
 simp only[JV,H7,OS]
 generalize BitVec.ofInt 64 a=a
 generalize BitVec.ofInt 64 p=b
 generalize BitVec.ofInt 64 q=c
 apply BitVec.eq_of_getLsbD_eq
 intro i hi
 simp only[BitVec.getLsbD_or,BitVec.getLsbD_xor,BitVec.getLsbD_and]
 cases a.getLsbD i <;>cases b.getLsbD i <;>cases c.getLsbD i <;>rfl
theorem LY (b:Bytes) (i:Nat):word (bw b i)=true:=by
 have h1:=ee b i
 have h2:=ee b (i+1)
 have h3:=ee b (i+2)
 have h4:=ee b (i+3)
 have e1:min 24 IntKind.i64.bits=24:=rfl
 have e2:min 16 IntKind.i64.bits=16:=rfl
 have e3:min 8 IntKind.i64.bits=8:=rfl
 unfold bw
 rw[e1,e2,e3]
 refine Bl (Bl (Bl ?_ ?_) ?_) ?_ <;>rw[sW]
 ·rw[aN (by omega) (by omega)];omega
 ·rw[aN (by omega) (by omega)];omega
 ·rw[aN (by omega) (by omega)];omega
 ·omega
theorem tQ (b:Bytes):∀n,∀x∈eY b n,word x=true
 |0,x,hx=>by cases hx
 |n+1,x,hx=>by
  simp only[eY]at hx
  rcases List.mem_append.1 hx with hx|hx
  ·exact tQ b n x hx
  ·simp only[List.mem_singleton]at hx
   subst hx
   split
   ·exact LY _ _
   ·exact tq _
theorem tY {l:List Int} {i:Nat} (h:i < l.length):gi l i∈l:=by simp[gi,h]
theorem ui {h:List Int} (hl:h.length=8) (hw:∀x∈h,word x=true) (b:Bytes):∀n,∀x∈gT h b n,word x=true
 |0,x,hx=>hw x hx
 |n+1,x,hx=>by
  have ih:=ui hl hw b n
  have hv:=oh hl b n
  have hm:∀i,i < 8→word (gi (gT h b n) i)=true:=fun i hi=>ih _ (tY (by omega))
  simp only[gT,Qq,List.mem_cons,List.not_mem_nil,or_false]at hx
  rcases hx with rfl|rfl|rfl|rfl|rfl|rfl|rfl|rfl
  ·exact tq _
  ·exact hm 0 (by omega)
  ·exact hm 1 (by omega)
  ·exact hm 2 (by omega)
  ·exact tq _
  ·exact hm 4 (by omega)
  ·exact hm 5 (by omega)
  ·exact hm 6 (by omega)
def arr (b:Bytes) (k:Nat):List Int:=eY b k++List.replicate (64 - k) 0
theorem Cw (b:Bytes) {k:Nat} (h:k≤64):(pv (arr b k)).length=64:=by simp[pv,arr,fm];omega
theorem tn (b:Bytes) {k i:Nat} (hk:k≤64) (h:i < k):((pv (arr b k)).drop i).take 1= [.int .i64 (gi (eY b k) i)]:=by
 rw[B5 (by simp[arr,fm];omega)]
 simp[gi,arr,List.getD_eq_getElem?_getD,List.getElem?_append_left (show i < (eY b k).length by rw[fm];exact h)]
theorem GR (b:Bytes) {k:Nat} (h:k < 64) (x:Int):(pv (arr b k)).set k (.int .i64 x)=pv (eY b k++ [x]++List.replicate (64 - (k+1)) 0):=by
 have e:64 - k=(64 - (k+1))+1:=by omega
 have h2:=fm b k
 simp only[pv,arr,e,List.replicate_succ,List.map_append,List.map_cons]
 rw[List.set_append_right _ _ (by simp[h2])]
 simp[h2]
end Go.Eng.F
namespace Go.Eng.F
theorem Hi (b:Bytes) {k:Nat} (hk:k < 16):pv (eY b k++bw b (4 * k)::List.replicate (63 - k) 0)=pv (arr b (k+1)):=by
 unfold arr
 rw[eY,if_pos hk,show 64 - (k+1)=63 - k by omega]
 simp
theorem HI (b:Bytes) {k:Nat} (hk:16≤k):pv (eY b k++IG (gi (eY b k) (k - 16)) (gi (eY b k) (k - 15)) (gi (eY b k) (k - 7)) (gi (eY b k) (k - 2))::List.replicate (63 - k) 0)=pv (arr b (k+1)):=by
 unfold arr
 rw[eY,if_neg (by omega),show 64 - (k+1)=63 - k by omega]
 simp
theorem Iu (l:List Int):(ints l).flatten=pv l:=by
 induction l with
 |nil=>rfl
 |cons n l ih=>simp only[ints,pv,List.map_cons,List.flatten_cons]at ih⊢;rw[ih];rfl
theorem Aq {α:Type} {cs vs:List α} (h:vs.length=cs.length):aR cs 0 vs=vs:=by rw[du _ _ _ (by omega)];simp[h]
abbrev ma:Nat:=323
def kV:AF:=⟨2,8,[.tmp 4],(.seq (.ops [.i (.mov 4 (.c (.val false [.nils])))]) (.seq (.seq (.ops [qm 25 0,qn 26 25, .i (.bin 27 .neq (.s 26) (qi 8)),qm 28 27, .g 28 false 30 (.mov 29 (.s 1)), .g 28 false 31 (.len 30 false (.s 29)), .g 28 false 32 (.bin 31 .neq (.s 30) (qi 64)), .i (.pick 32 (.s 28) (qb true) (.s 31))]) (.cond (.s 32) (.seq (.ops [.i (.mov 4 (.c (.val false [.nils])))]) .ret) .skip)) (.seq (.seq (.ops [qm 33 0,qn 34 33, .i (.mov 35 (qi 0))]) (.block 0 (.loop [42,41,40,39,38,37,36,6] (.seq (.ops [qd 36 .lss 35 34]) (.seq (.cond (.s 36) .skip (.exit 0)) (.seq (.block 1 (.seq (.ops [.i (.iad 37 (.s 33) (.s 35) 1), .i (.ldh 38 (.s 37) 1 false),qm 6 38]) (.seq (.ops [qm 39 6,qk 41 247 39, .i (.not 41 (.s 40))]) (.cond (.s 41) (.seq (.ops [.i (.mov 4 (.c (.val false [.nils])))]) .ret) .skip)))) (.ops [.i (.bin 42 .add (.s 35) (qi 1)),qm 35 42]))))))) (.seq (.ops [.i (.bld 43 [.int .i64 0, .int .i64 0, .int .i64 0, .int .i64 0, .int .i64 0, .int .i64 0, .int .i64 0, .int .i64 0, .int .i64 0, .int .i64 0, .int .i64 0, .int .i64 0, .int .i64 0, .int .i64 0, .int .i64 0, .int .i64 0, .int .i64 0, .int .i64 0, .int .i64 0, .int .i64 0, .int .i64 0, .int .i64 0, .int .i64 0, .int .i64 0, .int .i64 0, .int .i64 0, .int .i64 0, .int .i64 0, .int .i64 0, .int .i64 0, .int .i64 0, .int .i64 0, .int .i64 0, .int .i64 0, .int .i64 0, .int .i64 0, .int .i64 0, .int .i64 0, .int .i64 0, .int .i64 0, .int .i64 0, .int .i64 0, .int .i64 0, .int .i64 0, .int .i64 0, .int .i64 0, .int .i64 0, .int .i64 0, .int .i64 0, .int .i64 0, .int .i64 0, .int .i64 0, .int .i64 0, .int .i64 0, .int .i64 0, .int .i64 0, .int .i64 0, .int .i64 0, .int .i64 0, .int .i64 0, .int .i64 0, .int .i64 0, .int .i64 0, .int .i64 0] []), .i (.call 45 325 false []), .i (.bld 45 [.int .i64 0, .int .i64 0, .int .i64 0, .int .i64 0, .int .i64 0, .int .i64 0, .int .i64 0, .int .i64 0] []), .i (.lal 7 [.int .i64 0, .int .i64 0, .int .i64 0, .int .i64 0, .int .i64 0, .int .i64 0, .int .i64 0, .int .i64 0, .int .i64 0, .int .i64 0, .int .i64 0, .int .i64 0, .int .i64 0, .int .i64 0, .int .i64 0, .int .i64 0, .int .i64 0, .int .i64 0, .int .i64 0, .int .i64 0, .int .i64 0, .int .i64 0, .int .i64 0, .int .i64 0, .int .i64 0, .int .i64 0, .int .i64 0, .int .i64 0, .int .i64 0, .int .i64 0, .int .i64 0, .int .i64 0, .int .i64 0, .int .i64 0, .int .i64 0, .int .i64 0, .int .i64 0, .int .i64 0, .int .i64 0, .int .i64 0, .int .i64 0, .int .i64 0, .int .i64 0, .int .i64 0, .int .i64 0, .int .i64 0, .int .i64 0, .int .i64 0, .int .i64 0, .int .i64 0, .int .i64 0, .int .i64 0, .int .i64 0, .int .i64 0, .int .i64 0, .int .i64 0, .int .i64 0, .int .i64 0, .int .i64 0, .int .i64 0, .int .i64 0, .int .i64 0, .int .i64 0, .int .i64 0]), .i (.hal 9 300 [.int .i64 0, .int .i64 0, .int .i64 0, .int .i64 0, .int .i64 0, .int .i64 0, .int .i64 0, .int .i64 0]),qs 7 7 43 64,qm 8 44, .i (.sth (.s 9) (.s 45) 8)]) (.seq (.seq (.ops [.i (.mov 46 (qi 0))]) (.block 2 (.loop [84,83,82,81,80,79,78,77,76,75,74,73,72,71,70,69,68,67,66,65,64,63,62,61,60,59,58,57,56,55,54,53,52,51,50,49,48,47,10] (.seq (.ops [.i (.bin 47 .lss (.s 46) (qi 16))]) (.seq (.cond (.s 47) .skip (.exit 2)) (.seq (.block 3 (.seq (.ops [qm 48 46,qm 10 48]) (.ops [qm 49 10,qm 50 1,qm 51 10, .i (.bin 52 .mul (qi 4) (.s 51)), .i (.iad 53 (.s 50) (.s 52) 1), .i (.ldh 54 (.s 53) 1 false), .i (.cvi 55 .i64 (.s 54)), .i (.bin 56 .shl (.s 55) (.c (.val false [.int .u64 24]))),qm 57 1,qm 58 10, .i (.bin 59 .mul (qi 4) (.s 58)), .i (.bin 60 .add (.s 59) (qi 1)), .i (.iad 61 (.s 57) (.s 60) 1), .i (.ldh 62 (.s 61) 1 false), .i (.cvi 63 .i64 (.s 62)), .i (.bin 64 .shl (.s 63) (.c (.val false [.int .u64 16]))),qd 65 .or 56 64,qm 66 1,qm 67 10, .i (.bin 68 .mul (qi 4) (.s 67)), .i (.bin 69 .add (.s 68) (qi 2)), .i (.iad 70 (.s 66) (.s 69) 1), .i (.ldh 71 (.s 70) 1 false), .i (.cvi 72 .i64 (.s 71)), .i (.bin 73 .shl (.s 72) (.c (.val false [.int .u64 8]))),qd 74 .or 65 73,qm 75 1,qm 76 10, .i (.bin 77 .mul (qi 4) (.s 76)), .i (.bin 78 .add (.s 77) (qi 3)), .i (.iad 79 (.s 75) (.s 78) 1), .i (.ldh 80 (.s 79) 1 false), .i (.cvi 81 .i64 (.s 80)),qd 82 .or 74 81, .i (.iaa 83 (.s 7) (.s 49) 1 64),qs 7 83 82 1]))) (.ops [.i (.bin 84 .add (.s 46) (qi 1)),qm 46 84]))))))) (.seq (.seq (.ops [.i (.mov 11 (qi 16))]) (.block 4 (.loop [128,127,126,125,124,123,122,121,120,119,118,117,116,115,114,113,112,111,110,109,108,107,106,105,104,103,102,101,100,99,98,97,96,95,94,93,92,91,90,89,88,87,86,85,15,14,13,12] (.seq (.seq (.ops [qm 85 11, .i (.bin 86 .lss (.s 85) (qi 64))]) (.cond (.s 86) .skip (.exit 4))) (.seq (.block 5 (.seq (.ops [qm 89 11, .i (.bin 90 .sub (.s 89) (qi 15)), .i (.iaa 91 (.s 7) (.s 90) 1 64),ql 92 7 91 1 false,qm 93 11, .i (.bin 94 .sub (.s 93) (qi 2)), .i (.iaa 95 (.s 7) (.s 94) 1 64),ql 96 7 95 1 false,qm 12 92,qm 13 96]) (.seq (.ops [qm 97 12, .i (.call 99 326 false [(.s 97),(qi 7)]),qm 99 12, .i (.call 101 326 false [(.s 99),(qi 18)]),qd 101 .xor 98 100,qm 102 12, .i (.bin 103 .shr (.s 102) (.c (.val false [.int .u64 3]))),qd 104 .xor 101 103,qm 14 104]) (.seq (.ops [qm 105 13, .i (.call 107 326 false [(.s 105),(qi 17)]),qm 107 13, .i (.call 109 326 false [(.s 107),(qi 19)]),qd 109 .xor 106 108,qm 110 13, .i (.bin 111 .shr (.s 110) (.c (.val false [.int .u64 10]))),qd 112 .xor 109 111,qm 15 112]) (.ops [qm 113 11,qm 114 11, .i (.bin 115 .sub (.s 114) (qi 16)), .i (.iaa 116 (.s 7) (.s 115) 1 64),ql 117 7 116 1 false,qm 118 14,qd 119 .add 117 118,qm 120 11, .i (.bin 121 .sub (.s 120) (qi 7)), .i (.iaa 122 (.s 7) (.s 121) 1 64),ql 123 7 122 1 false,qd 124 .add 119 123,qm 125 15,qd 126 .add 124 125, .i (.bin 127 .and (.s 126) (qi 4294967295)), .i (.iaa 128 (.s 7) (.s 113) 1 64),qs 7 128 127 1]))))) (.ops [qm 87 11, .i (.bin 88 .add (.s 87) (qi 1)),qm 11 88])))))) (.seq (.ops [.i (.sla 129 (.s 9) 8 1),qm 130 0, .i (.cpy 131 1 (.s 129) (.s 130))]) (.seq (.seq (.ops [.i (.mov 132 (qi 0))]) (.block 6 (.loop [216,215,214,213,212,211,210,209,208,207,206,205,204,203,202,201,200,199,198,197,196,195,194,193,192,191,190,189,188,187,186,185,184,183,182,181,180,179,178,177,176,175,174,173,172,171,170,169,168,167,166,165,164,163,162,161,160,159,158,157,156,155,154,153,152,151,150,149,148,147,146,145,144,143,142,141,140,139,138,137,136,135,134,133,22,21,20,19,18,17,16] (.seq (.ops [.i (.bin 133 .lss (.s 132) (qi 64))]) (.seq (.cond (.s 133) .skip (.exit 6)) (.seq (.block 7 (.seq (.ops [qm 134 132,qm 16 134]) (.seq (.ops [.i (.iaa 135 (.s 9) (qi 4) 1 8), .i (.ldh 136 (.s 135) 1 false), .i (.iaa 137 (.s 9) (qi 0) 1 8), .i (.ldh 138 (.s 137) 1 false),qm 17 136,qm 18 138]) (.seq (.ops [qm 139 17, .i (.iaa 140 (.s 9) (qi 5) 1 8), .i (.ldh 141 (.s 140) 1 false),qd 142 .and 139 141,qm 143 17, .i (.bin 144 .xor (.s 143) (qi 4294967295)), .i (.iaa 145 (.s 9) (qi 6) 1 8), .i (.ldh 146 (.s 145) 1 false),qd 147 .and 144 146,qd 148 .or 142 147,qm 19 148]) (.seq (.ops [qm 149 18, .i (.iaa 150 (.s 9) (qi 1) 1 8), .i (.ldh 151 (.s 150) 1 false),qd 152 .and 149 151,qm 153 18, .i (.iaa 154 (.s 9) (qi 2) 1 8), .i (.ldh 155 (.s 154) 1 false),qd 156 .and 153 155,qd 157 .or 152 156, .i (.iaa 158 (.s 9) (qi 1) 1 8), .i (.ldh 159 (.s 158) 1 false), .i (.iaa 160 (.s 9) (qi 2) 1 8), .i (.ldh 161 (.s 160) 1 false),qd 162 .and 159 161,qd 163 .or 157 162,qm 20 163]) (.seq (.ops [.i (.iaa 164 (.s 9) (qi 7) 1 8), .i (.ldh 165 (.s 164) 1 false),qm 166 17, .i (.call 168 326 true [(.s 166),(qi 6)]),qm 168 17, .i (.call 170 326 true [(.s 168),(qi 11)]),qd 170 .xor 167 169,qm 171 17, .i (.call 173 326 true [(.s 171),(qi 25)]),qd 173 .xor 170 172,qd 174 .add 165 173,qm 175 19,qd 176 .add 174 175,qm 177 8,qm 178 16, .i (.iad 179 (.s 177) (.s 178) 1), .i (.ldh 180 (.s 179) 1 false),qd 181 .add 176 180,qm 182 16, .i (.iaa 183 (.s 7) (.s 182) 1 64),ql 184 7 183 1 false,qd 185 .add 181 184,qm 21 185]) (.seq (.ops [qm 186 18, .i (.call 188 326 false [(.s 186),(qi 2)]),qm 188 18, .i (.call 190 326 false [(.s 188),(qi 13)]),qd 190 .xor 187 189,qm 191 18, .i (.call 193 326 false [(.s 191),(qi 22)]),qd 193 .xor 190 192,qm 194 20,qd 195 .add 193 194,qm 22 195]) (.ops [qm 196 21,qm 197 22,qd 198 .add 196 197, .i (.bin 199 .and (.s 198) (qi 4294967295)),qm 200 18, .i (.iaa 201 (.s 9) (qi 1) 1 8), .i (.ldh 202 (.s 201) 1 false), .i (.iaa 203 (.s 9) (qi 2) 1 8), .i (.ldh 204 (.s 203) 1 false), .i (.iaa 205 (.s 9) (qi 3) 1 8), .i (.ldh 206 (.s 205) 1 false),qm 207 21,qd 208 .add 206 207, .i (.bin 209 .and (.s 208) (qi 4294967295)),qm 210 17, .i (.iaa 211 (.s 9) (qi 5) 1 8), .i (.ldh 212 (.s 211) 1 false), .i (.iaa 213 (.s 9) (qi 6) 1 8), .i (.ldh 214 (.s 213) 1 false), .i (.bld 215 [.int .i64 0, .int .i64 0, .int .i64 0, .int .i64 0, .int .i64 0, .int .i64 0, .int .i64 0, .int .i64 0] [(0,1,(.s 199)),(1,1,(.s 200)),(2,1,(.s 202)),(3,1,(.s 204)),(4,1,(.s 209)),(5,1,(.s 210)),(6,1,(.s 212)),(7,1,(.s 214))]), .i (.sth (.s 9) (.s 215) 8)])))))))) (.ops [.i (.bin 216 .add (.s 132) (qi 1)),qm 132 216]))))))) (.seq (.ops [.i (.bse 217),qm 23 217]) (.seq (.seq (.ops [.i (.mov 218 (qi 0))]) (.block 8 (.loop [233,232,231,230,229,228,227,226,225,224,223,222,221,220,219,24] (.seq (.ops [.i (.bin 219 .lss (.s 218) (qi 8))]) (.seq (.cond (.s 219) .skip (.exit 8)) (.seq (.block 9 (.seq (.ops [qm 220 218,qm 24 220]) (.ops [qm 221 23,qm 222 0,qm 223 24, .i (.iad 224 (.s 222) (.s 223) 1), .i (.ldh 225 (.s 224) 1 false),qm 226 24, .i (.iaa 227 (.s 9) (.s 226) 1 8), .i (.ldh 228 (.s 227) 1 false),qd 229 .add 225 228, .i (.bin 230 .and (.s 229) (qi 4294967295)), .i (.lsl 231 1 1 [.int .i64 0] [(0,1,(.s 230))]), .i (.app 232 3 1 8 (.s 221) (.s 231)),qm 23 232]))) (.ops [.i (.bin 233 .add (.s 218) (qi 1)),qm 218 233]))))))) (.seq (.ops [qm 234 23,qm 4 234]) .ret)))))))))))⟩
theorem wa:cd ma=some kV:=by kernel_rfl
theorem u3 (h:List Int) (b:Bytes) (hl:h.length=8) (hw:∀x∈h,word x=true) (hb:b.length=64):VC cd ma (bJ [(false,[.sl (ints h)]),(false,[.sl (bytes b)])]) (fun rs _=>rs= [(false,[.o true (some (3,1)) (ints (pC h b))])]):=by
 refine aa wa rfl ?_
 simp(disch:=omega) [kV,cc,aS,hl,hb,VY]
 refine bS (σ:=Nat) (f1:=_) (es0:=_) (by simp(disch:=omega) [VY];rfl) (by simp(disch:=omega) [VY];rfl) (fun i=> [(35, .val false [.int .i64 i])]) (fun _=> []) (fun i g=>g+i=8) 0 8 (by simp(disch:=omega) [VY]) (by simp(disch:=omega) [VY]) (by omega) ?_
 rintro i n g hg
 simp(disch:=omega) [VY]
 refine aj (fun h1=> ?_) (fun h1=> ?_)
 ·have hx:i < h.length:=by omega
  simp(disch:=omega) [EB hx,VY]
  refine an (tZ _) rfl rfl ?_
  have hq:word (gi h i)=true:=hw _ (tY hx)
  simp(disch:=omega) [hq,VY]
  exact⟨i+1,g - 1,by omega,by omega,by omega⟩
 have hi:i=8:=by omega
 subst hi
 simp(disch:=omega) [VY]
 refine an (Ht) rfl rfl ?_
 simp(disch:=omega) [VY]
 refine bS (σ:=Nat) (f1:=_) (es0:=_) (by simp(disch:=omega) [VY];rfl) (by simp(disch:=omega) [VY];rfl) (fun k=> [(46, .val false [.int .i64 k]),(7, .box (pv (arr b k)))]) (fun _=> []) (fun k g=>g+k=16) 0 16 (by simp(disch:=omega) [pv,arr,eY,VY]) (by simp(disch:=omega) [VY]) (by omega) ?_
 rintro k n g hg
 simp(disch:=omega) [VY]
 refine aj (fun h2=> ?_) (fun h2=> ?_)
 ·have hk:k < 16:=by omega
  have q1:((4:Int) * (k:Int)).toNat=4 * k:=by omega
  have q2:((4:Int) * (k:Int)+1).toNat=4 * k+1:=by omega
  have q3:((4:Int) * (k:Int)+2).toNat=4 * k+2:=by omega
  have q4:((4:Int) * (k:Int)+3).toNat=4 * k+3:=by omega
  have p1:(0:Int)≤(4:Int) * (k:Int)∧(0:Int)≤(4:Int) * (k:Int)+1∧(0:Int)≤(4:Int) * (k:Int)+2∧(0:Int)≤(4:Int) * (k:Int)+3:=by omega
  obtain⟨p1,p2,p3,p4⟩:=p1
  have r1:=ee b (4 * k)
  have r2:=ee b (4 * k+1)
  have r3:=ee b (4 * k+2)
  have r4:=ee b (4 * k+3)
  have p5:(k:Int) < 64:=by omega
  have p6:k≤63:=by omega
  have e1:=Cw b (show k≤64 by omega)
  have e2:=fun x=>GR b (show k < 64 by omega) x
  simp(disch:=omega) [aS,hb,q1,q2,q3,q4,p1,p2,p3,p4,p5,p6,e1,e2,ob (show 4 * k < b.length by omega),ob (show 4 * k+1 < b.length by omega),ob (show 4 * k+2 < b.length by omega),ob (show 4 * k+3 < b.length by omega),VY]
  exact⟨k+1,g - 1,by omega,by omega,⟨Hi b hk,by omega⟩⟩
 have hk:k=16:=by omega
 subst hk
 simp(disch:=omega) [VY]
 refine bS (σ:=Nat) (f1:=_) (es0:=_) (by simp(disch:=omega) [VY];rfl) (by simp(disch:=omega) [VY];rfl) (fun k=> [(11, .val false [.int .i64 k]),(7, .box (pv (arr b k)))]) (fun _=> []) (fun k g=>g+k=64∧16≤k) 16 48 (by simp(disch:=omega) [VY]) (by simp(disch:=omega) [VY]) (by omega) ?_
 rintro k n g hg
 simp(disch:=omega) [VY]
 refine aj (fun h3=> ?_) (fun h3=> ?_)
 ·have hk:k < 64:=by omega
  obtain⟨p1,p2,p3⟩:(15:Int)≤(k:Int)∧((k:Int) - 15).toNat=k - 15∧(k:Int) - 15 < 64:=by omega
  obtain⟨p4,p5,p6⟩:(2:Int)≤(k:Int)∧((k:Int) - 2).toNat=k - 2∧(k:Int) - 2 < 64:=by omega
  obtain⟨p7,p8,p9⟩:(16:Int)≤(k:Int)∧((k:Int) - 16).toNat=k - 16∧(k:Int) - 16 < 64:=by omega
  obtain⟨q1,q2,q3⟩:(7:Int)≤(k:Int)∧((k:Int) - 7).toNat=k - 7∧(k:Int) - 7 < 64:=by omega
  have p10:(k:Int) < 64:=by omega
  have p11:k≤63:=by omega
  obtain⟨t1,t2,t3,t4⟩:k≤78∧k≤65∧k≤79∧k≤70:=by omega
  have e1:=Cw b (show k≤64 by omega)
  have e2:=fun x=>GR b (show k < 64 by omega) x
  have g1:=tn b (show k≤64 by omega) (show k - 15 < k by omega)
  have g2:=tn b (show k≤64 by omega) (show k - 2 < k by omega)
  have g3:=tn b (show k≤64 by omega) (show k - 16 < k by omega)
  have g4:=tn b (show k≤64 by omega) (show k - 7 < k by omega)
  have hwl:=fm b k
  have w1:=tQ b k _ (tY (show k - 15 < (eY b k).length by omega))
  have w2:=tQ b k _ (tY (show k - 2 < (eY b k).length by omega))
  simp(disch:=omega) [e1,p1,p2,p3,p4,p5,p6,g1,g2,t1,t2,VY]
  refine an (cF _ 7 (by omega) w1) rfl rfl ?_
  simp(disch:=omega) [VY]
  refine an (cF _ 18 (by omega) w1) rfl rfl ?_
  simp(disch:=omega) [VY]
  refine an (cF _ 17 (by omega) w2) rfl rfl ?_
  simp(disch:=omega) [VY]
  refine an (cF _ 19 (by omega) w2) rfl rfl ?_
  simp(disch:=omega) [e1,e2,p7,p8,p9,q1,q2,q3,p10,p11,g3,g4,t3,t4,VY]
  exact⟨k+1,g - 1,by omega,by omega,HI b (by omega),by omega⟩
 have hk:k=64:=by omega
 subst hk
 have c1:((ints h).take 8).flatten=pv h:=by rw[List.take_of_length_le (by rw[cc];omega)];exact Iu h
 have c2:aR [.int .i64 0, .int .i64 0, .int .i64 0, .int .i64 0, .int .i64 0, .int .i64 0, .int .i64 0, .int .i64 0] 0 (pv h)=pv h:=Aq (by rw[Cd,hl];rfl)
 simp(disch:=omega) [cc,hl,iC,jK,c1,c2,VY]
 refine bS (σ:=Nat×Nat) (f1:=_) (es0:=_) (by simp(disch:=omega) [VY];rfl) (by simp(disch:=omega) [VY];rfl) (fun p=> [(132, .val false [.int .i64 p.1]),(9, .val false [.pt 9 p.2 0])]) (fun p=> [(9, .pt p.2 300 (pv (gT h b p.1)))]) (fun p g=>g+p.1=64) (0,_) 64 (by simp(disch:=omega) [VY];rfl) (by simp(disch:=omega) [gT,VY]) (by omega) ?_
 rintro⟨k,v⟩ n g hg
 simp only at hg
 simp(disch:=omega) [VY]
 refine aj (fun h4=> ?_) (fun h4=> ?_)
 ·have hk:k < 64:=by omega
  have hv:=oh hl b k
  have e1:(pv (gT h b k)).length=8:=by rw[Cd,hv]
  have e2:(ints kk).length=64:=rfl
  have e3:=Cw b (show 64≤64 by omega)
  have p1:(k:Int) < 64:=by omega
  have p2:k≤63:=by omega
  have g1:∀i,i < 8→((pv (gT h b k)).drop i).take 1= [.int .i64 (gi (gT h b k) i)]:=fun i hi=>B5 (by omega)
  have g2:=tn b (show 64≤64 by omega) hk
  have g0:(pv (gT h b k)).take 1= [.int .i64 (gi (gT h b k) 0)]:=g1 0 (by omega)
  have w1:=ui hl hw b k _ (tY (show 4 < (gT h b k).length by omega))
  have w2:=ui hl hw b k _ (tY (show 0 < (gT h b k).length by omega))
  have g01:(pv (gT h b k)).tail.take 1= [.int .i64 (gi (gT h b k) 1)]:=by have:=g1 1 (by omega);simpa using this
  simp(disch:=omega) [e1,e2,e3,g0,g01,g1,g2,fu,p1,p2,VY]
  refine an (cF _ 6 (by omega) w1) rfl rfl ?_
  simp(disch:=omega) [VY]
  refine an (cF _ 11 (by omega) w1) rfl rfl ?_
  simp(disch:=omega) [VY]
  refine an (cF _ 25 (by omega) w1) rfl rfl ?_
  simp(disch:=omega) [e1,e2,e3,g0,g01,g1,g2,fu,p1,p2,VY]
  refine an (cF _ 2 (by omega) w2) rfl rfl ?_
  simp(disch:=omega) [VY]
  refine an (cF _ 13 (by omega) w2) rfl rfl ?_
  simp(disch:=omega) [VY]
  refine an (cF _ 22 (by omega) w2) rfl rfl ?_
  have hset:∀a b' c d e f g' h',aR (pv (gT h b k)) 0 [a,b',c,d,e,f,g',h']= [a,b',c,d,e,f,g',h']:=fun _ _ _ _ _ _ _ _=>Aq (by rw[e1];rfl)
  simp(disch:=omega) [e1,e2,e3,g0,g01,g1,g2,fu,p1,p2,hset,VY]
  simp only[ON w1,NP]
  exact⟨k+1,_,g - 1,by omega,by omega,⟨rfl,by omega⟩,rfl,rfl⟩
 have hk:k=64:=by omega
 subst hk
 simp(disch:=omega) [VY]
 refine bS (σ:=Nat×Nat) (f1:=_) (es0:=_) (by simp(disch:=omega) [VY];rfl) (by simp(disch:=omega) [VY];rfl) (fun p=> [(218, .val false [.int .i64 p.1]),(23, .val false [.ow 217 p.2])]) (fun p=> [(217, .sl p.2 true true (some (3,1)) (ints ((pC h b).take p.1)))])
  (fun p g=>g+p.1=8) (0,_) 8 (by simp(disch:=omega) [VY];rfl) (by simp(disch:=omega) [ints,VY]) (by omega) ?_
 rintro⟨k,w⟩ n g hg
 simp only at hg
 simp(disch:=omega) [VY]
 refine aj (fun h5=> ?_) (fun h5=> ?_)
 ·have hk:k < 8:=by omega
  have hv:=oh hl b 64
  have e1:(pv (gT h b 64)).length=8:=by rw[Cd,hv]
  have e2:(ints h).length=8:=by rw[cc,hl]
  have e3:(ints ((pC h b).take k)).length=k:=by rw[cc];simp[pC];omega
  have p1:(k:Int) < 8:=by omega
  have p2:k≤7:=by omega
  have g1:((pv (gT h b 64)).drop k).take 1= [.int .i64 (gi (gT h b 64) k)]:=B5 (by omega)
  simp(disch:=omega) [e1,e2,e3,g1,p1,p2,fu,iC,jK,VY]
  exact⟨k+1,_,g - 1,by omega,by omega,⟨rfl,by omega⟩,rfl,AU h b hk⟩
 ·have hk:k=8:=by omega
  subst hk
  simp(disch:=omega) [VY]
  rw[List.take_of_length_le (by simp[pC])]
end Go.Eng.F
namespace Go.Eng.F
theorem Gi (b:Bytes):(pad b).length=b.length+1+zc b.length+8∧(pad b).length % 64=0:=by
 have h:=sZ b.length
 have e:(pad b).length=b.length+1+zc b.length+8:=by simp[pad,mq];omega
 omega
def hs (b:Bytes):Nat→List Int
 |0=>init
 |n+1=>pC (hs b n) (((pad b).drop (64 * n)).take 64)
theorem uE (b:Bytes):∀n,(hs b n).length=8
 |0=>rfl
 |n+1=>by simp[hs,pC]
theorem Gl (b:Bytes):∀n,∀x∈hs b n,word x=true
 |0,x,hx=>by
  have h:∀x∈init,word x=true:=by decide
  exact h x hx
 |n+1,x,hx=>by
  simp only[hs,pC,List.mem_map]at hx
  obtain⟨i,_,rfl⟩:=hx
  exact tq _
def b8 (y:Int):UInt8:=UInt8.ofNat (IntKind.u8.wrap y).toNat
theorem N5 (y:Int):((b8 y).toNat:Int)=IntKind.u8.wrap y:=by
 obtain⟨h1,h2⟩:=GK .u8 y
 have e1:IntKind.u8.min=0:=rfl
 have e2:IntKind.u8.max=255:=rfl
 unfold b8
 rw[UInt8.toNat_ofNat']
 omega
def w4 (x:Int):Bytes:= [b8 (x.fdiv (2 ^ min 24 IntKind.i64.bits)),b8 (x.fdiv (2 ^ min 16 IntKind.i64.bits)),b8 (x.fdiv (2 ^ min 8 IntKind.i64.bits)),b8 x]
theorem GG {l:List Int} {k:Nat} (h:k < l.length):bytes ((l.take (k+1)).flatMap w4)=bytes ((l.take k).flatMap w4)++ [[.int .u8 (IntKind.u8.wrap ((gi l k).fdiv (2 ^ min 24 IntKind.i64.bits)))],[.int .u8 (IntKind.u8.wrap ((gi l k).fdiv (2 ^ min 16 IntKind.i64.bits)))],[.int .u8 (IntKind.u8.wrap ((gi l k).fdiv (2 ^ min 8 IntKind.i64.bits)))],[.int .u8 (IntKind.u8.wrap (gi l k))]]:=by
 have e:gi l k=l[k]:=by simp[gi,h]
 rw[List.take_add_one,List.getElem?_eq_getElem h,e]
 simp only[List.flatMap_append,Option.toList_some,List.flatMap_cons,List.flatMap_nil,List.append_nil,bytes,List.map_append,w4,List.map_cons,List.map_nil,N5]
theorem B3:∀(l:List Int) (k:Nat),k≤l.length→((l.take k).flatMap w4).length=4 * k
 |_,0,_=>by simp
 | [],k+1,h=>by simp at h
 |x::l,k+1,h=>by
  have:=B3 l k (by simpa using h)
  simp only[List.take_succ_cons,List.flatMap_cons,List.length_append,this]
  simp only[w4,List.length_cons,List.length_nil]
  omega
def F4 (b:Bytes):Bytes:=(hs b ((pad b).length / 64)).flatMap w4
abbrev yg:Nat:=311
def yu:AF:=⟨1,6,[.tmp 2],(.seq (.ops [.i (.mov 2 (.c (.val false [.nils])))]) (.seq (.ops [.i (.call 10 321 false []),qm 10 0,qk 12 322 10,qm 3 9,qm 4 11]) (.seq (.seq (.ops [.i (.mov 5 (qi 0))]) (.block 0 (.loop [24,23,22,21,20,19,18,17,16,15,14,13,12] (.seq (.seq (.ops [qm 12 5,qm 13 4,qn 14 13,qd 15 .lss 12 14]) (.cond (.s 15) .skip (.exit 0))) (.seq (.block 1 (.ops [qm 18 3,qm 19 4,qm 20 5,qm 21 5, .i (.bin 22 .add (.s 21) (qi 64)), .i (.fb 23 1 (.s 19) (some (.s 20)) (some (.s 22))), .i (.call 25 323 false [(.s 18),(.s 23)]),qm 3 24])) (.ops [qm 16 5, .i (.bin 17 .add (.s 16) (qi 64)),qm 5 17])))))) (.seq (.ops [.i (.bse 25),qm 6 25]) (.seq (.seq (.ops [qm 26 3,qn 27 26, .i (.mov 28 (qi 0))]) (.block 2 (.loop [46,45,44,43,42,41,40,39,38,37,36,35,34,33,32,31,30,29,8] (.seq (.ops [qd 29 .lss 28 27]) (.seq (.cond (.s 29) .skip (.exit 2)) (.seq (.block 3 (.seq (.ops [.i (.iad 30 (.s 26) (.s 28) 1), .i (.ldh 31 (.s 30) 1 false),qm 8 31]) (.ops [qm 32 6,qm 33 8, .i (.bin 34 .shr (.s 33) (.c (.val false [.int .u64 24]))), .i (.cvi 35 .u8 (.s 34)),qm 36 8, .i (.bin 37 .shr (.s 36) (.c (.val false [.int .u64 16]))), .i (.cvi 38 .u8 (.s 37)),qm 39 8, .i (.bin 40 .shr (.s 39) (.c (.val false [.int .u64 8]))), .i (.cvi 41 .u8 (.s 40)),qm 42 8, .i (.cvi 43 .u8 (.s 42)), .i (.lsl 44 1 4 [.int .u8 0] [(0,1,(.s 35)),(1,1,(.s 38)),(2,1,(.s 41)),(3,1,(.s 43))]), .i (.app 45 5 1 1 (.s 32) (.s 44)),qm 6 45]))) (.ops [.i (.bin 46 .add (.s 28) (qi 1)),qm 28 46]))))))) (.seq (.ops [qm 47 6,qm 2 47]) .ret))))))⟩
theorem FM:cd yg=some yu:=by kernel_rfl
theorem nN (b:Bytes) (hb:b.length≤1073741824):VC cd yg (bJ [(false,[.sl (bytes b)])]) (fun rs _=>rs= [(false,[.o true (some (5,1)) (bytes (F4 b))])]):=by
 have hp:=Gi b
 have hz:=sZ b.length
 refine aa FM rfl ?_
 simp(disch:=omega) [yu,VY]
 refine an (vJ) rfl rfl ?_
 simp(disch:=omega) [VY]
 refine an (xp b hb) rfl rfl ?_
 simp(disch:=omega) [VY]
 refine ti (σ:=Nat×Nat) (f0:=_) (by simp(disch:=omega) [VY];rfl) ((dD.Qo (.ow 106496 2)).trans (dD.Qh (s:=3) (k:=90112) (k':=212992) (by simp(disch:=omega) [VY]) rfl (by omega))) (f1:=_) (es0:=_) (by simp(disch:=omega) [VY];rfl) (by simp(disch:=omega) [sP,i3,kn,St.put,VY];rfl) (fun p=> [(5, .val false [.int .i64 (64 * (p.1:Int))]),(3, .val false [.ow 212992 p.2])]) (fun p=> [(212992, .sl p.2 true true (some (3,1)) (ints (hs b p.1)))])
  (fun p g=>g+p.1=(pad b).length / 64) (0,_) ((pad b).length / 64) (by simp(disch:=omega) [sP,kn,St.put,VY];rfl) (by simp(disch:=omega) [hs,sP,i3,kn,St.put,VY]) (by omega) ?_
 rintro⟨k,v⟩ n g hg
 simp only at hg
 simp(disch:=omega) [aS,VY]
 refine aj (fun h1=> ?_) (fun h1=> ?_)
 ·have hk:64 * k+64≤(pad b).length:=by omega
  have p1:(64:Int) * (k:Int)+64≤((pad b).length:Int):=by omega
  have p2:((64:Int) * (k:Int)).toNat=64 * k:=by omega
  have p3:(0:Int)≤64 * (k:Int):=by omega
  have p4:((64:Int) * (k:Int)+64 - 64 * (k:Int)).toNat=64:=by omega
  have p5:(64:Int) * (k:Int)≤64 * (k:Int)+64:=by omega
  have hx:((bytes (pad b)).drop (64 * k)).take 64=bytes (((pad b).drop (64 * k)).take 64):=by simp[bytes]
  simp(disch:=omega) [aS,p1,p2,p3,p4,p5,hx,jZ,VY]
  refine cp (u3 (hs b k) (((pad b).drop (64 * k)).take 64) (uE b k) (Gl b k) (by simp;omega)) ?_
  simp(disch:=omega) [VY]
  exact⟨k+1,_,g - 1,by omega,by omega,⟨rfl,by omega⟩,rfl,rfl⟩
 have hk:k=(pad b).length / 64:=by omega
 subst hk
 have hl:=uE b ((pad b).length / 64)
 simp(disch:=omega) [cc,hl,VY]
 refine bS (σ:=Nat×Nat) (f1:=_) (es0:=_) (by simp(disch:=omega) [VY];rfl) (by simp(disch:=omega) [VY];rfl) (fun p=> [(28, .val false [.int .i64 p.1]),(6, .val false [.ow 25 p.2])]) (fun p=> [(25, .sl p.2 true true (some (5,1)) (bytes (((hs b ((pad b).length / 64)).take p.1).flatMap w4)))])
  (fun p g=>g+p.1=8) (0,_) 8 (by simp(disch:=omega) [VY];rfl) (by simp(disch:=omega) [bytes,VY]) (by omega) ?_
 rintro⟨k,w⟩ n g hg
 simp only at hg
 simp(disch:=omega) [VY]
 refine aj (fun h2=> ?_) (fun h2=> ?_)
 ·have hk:k < 8:=by omega
  have e1:(ints (hs b ((pad b).length / 64))).length=8:=by rw[cc,hl]
  have e2:(bytes (((hs b ((pad b).length / 64)).take k).flatMap w4)).length=4 * k:=by rw[aS];exact B3 _ _ (by omega)
  simp(disch:=omega) [e1,e2,fu,VY]
  exact⟨k+1,_,g - 1,by omega,by omega,⟨by omega,rfl⟩,rfl,GG (by omega)⟩
 ·have hk:k=8:=by omega
  subst hk
  simp(disch:=omega) [VY]
  rw[List.take_of_length_le (by omega)]
  rfl
abbrev y9:Nat:=269
def xm:AF:=⟨1,6,[.tmp 2],(.seq (.ops [.i (.mov 2 (.c (.val false [.nils])))]) (.seq (.ops [.i (.call 10 303 false []),qm 3 9]) (.seq (.ops [qm 10 0,qk 12 304 10,qm 4 11]) (.seq (.seq (.ops [.i (.mov 5 (qi 0))]) (.block 0 (.loop [24,23,22,21,20,19,18,17,16,15,14,13,12] (.seq (.seq (.ops [qm 12 5,qm 13 4,qn 14 13,qd 15 .lss 12 14]) (.cond (.s 15) .skip (.exit 0))) (.seq (.block 1 (.ops [qm 18 3,qm 19 4,qm 20 5,qm 21 5, .i (.bin 22 .add (.s 21) (qi 64)), .i (.fb 23 1 (.s 19) (some (.s 20)) (some (.s 22))), .i (.call 25 305 false [(.s 18),(.s 23)]),qm 3 24])) (.ops [qm 16 5, .i (.bin 17 .add (.s 16) (qi 64)),qm 5 17])))))) (.seq (.ops [.i (.bse 25),qm 6 25]) (.seq (.seq (.ops [qm 26 3,qn 27 26, .i (.mov 28 (qi 0))]) (.block 2 (.loop [46,45,44,43,42,41,40,39,38,37,36,35,34,33,32,31,30,29,8] (.seq (.ops [qd 29 .lss 28 27]) (.seq (.cond (.s 29) .skip (.exit 2)) (.seq (.block 3 (.seq (.ops [.i (.iad 30 (.s 26) (.s 28) 1), .i (.ldh 31 (.s 30) 1 false),qm 8 31]) (.ops [qm 32 6,qm 33 8, .i (.bin 34 .shr (.s 33) (.c (.val false [.int .u64 24]))), .i (.cvi 35 .u8 (.s 34)),qm 36 8, .i (.bin 37 .shr (.s 36) (.c (.val false [.int .u64 16]))), .i (.cvi 38 .u8 (.s 37)),qm 39 8, .i (.bin 40 .shr (.s 39) (.c (.val false [.int .u64 8]))), .i (.cvi 41 .u8 (.s 40)),qm 42 8, .i (.cvi 43 .u8 (.s 42)), .i (.lsl 44 1 4 [.int .u8 0] [(0,1,(.s 35)),(1,1,(.s 38)),(2,1,(.s 41)),(3,1,(.s 43))]), .i (.app 45 5 1 1 (.s 32) (.s 44)),qm 6 45]))) (.ops [.i (.bin 46 .add (.s 28) (qi 1)),qm 28 46]))))))) (.seq (.ops [qm 47 6,qm 2 47]) .ret)))))))⟩
theorem Fz:cd y9=some xm:=by kernel_rfl
theorem ov (b:Bytes) (hb:b.length≤1073741824):VC cd y9 (bJ [(false,[.sl (bytes b)])]) (fun rs _=>rs= [(false,[.o true (some (5,1)) (bytes (F4 b))])]):=by
 have hp:=Gi b
 have hz:=sZ b.length
 refine aa Fz rfl ?_
 simp(disch:=omega) [xm,VY]
 refine an (vN) rfl rfl ?_
 simp(disch:=omega) [VY]
 refine an (yH b hb) rfl rfl ?_
 simp(disch:=omega) [VY]
 refine ti (σ:=Nat×Nat) (f0:=_) (by simp(disch:=omega) [VY];rfl) ((dD.Qo (.ow 106496 2)).trans (dD.Qh (s:=3) (k:=90112) (k':=212992) (by simp(disch:=omega) [VY]) rfl (by omega))) (f1:=_) (es0:=_) (by simp(disch:=omega) [VY];rfl) (by simp(disch:=omega) [sP,i3,kn,St.put,VY];rfl) (fun p=> [(5, .val false [.int .i64 (64 * (p.1:Int))]),(3, .val false [.ow 212992 p.2])]) (fun p=> [(212992, .sl p.2 true true (some (3,1)) (ints (hs b p.1)))])
  (fun p g=>g+p.1=(pad b).length / 64) (0,_) ((pad b).length / 64) (by simp(disch:=omega) [sP,kn,St.put,VY];rfl) (by simp(disch:=omega) [hs,sP,i3,kn,St.put,VY]) (by omega) ?_
 rintro⟨k,v⟩ n g hg
 simp only at hg
 simp(disch:=omega) [aS,VY]
 refine aj (fun h1=> ?_) (fun h1=> ?_)
 ·have hk:64 * k+64≤(pad b).length:=by omega
  have p1:(64:Int) * (k:Int)+64≤((pad b).length:Int):=by omega
  have p2:((64:Int) * (k:Int)).toNat=64 * k:=by omega
  have p3:(0:Int)≤64 * (k:Int):=by omega
  have p4:((64:Int) * (k:Int)+64 - 64 * (k:Int)).toNat=64:=by omega
  have p5:(64:Int) * (k:Int)≤64 * (k:Int)+64:=by omega
  have hx:((bytes (pad b)).drop (64 * k)).take 64=bytes (((pad b).drop (64 * k)).take 64):=by simp[bytes]
  simp(disch:=omega) [aS,p1,p2,p3,p4,p5,hx,jZ,VY]
  refine cp (uI (hs b k) (((pad b).drop (64 * k)).take 64) (uE b k) (Gl b k) (by simp;omega)) ?_
  simp(disch:=omega) [VY]
  exact⟨k+1,_,g - 1,by omega,by omega,⟨rfl,by omega⟩,rfl,rfl⟩
 have hk:k=(pad b).length / 64:=by omega
 subst hk
 have hl:=uE b ((pad b).length / 64)
 simp(disch:=omega) [cc,hl,VY]
 refine bS (σ:=Nat×Nat) (f1:=_) (es0:=_) (by simp(disch:=omega) [VY];rfl) (by simp(disch:=omega) [VY];rfl) (fun p=> [(28, .val false [.int .i64 p.1]),(6, .val false [.ow 25 p.2])]) (fun p=> [(25, .sl p.2 true true (some (5,1)) (bytes (((hs b ((pad b).length / 64)).take p.1).flatMap w4)))])
  (fun p g=>g+p.1=8) (0,_) 8 (by simp(disch:=omega) [VY];rfl) (by simp(disch:=omega) [bytes,VY]) (by omega) ?_
 rintro⟨k,w⟩ n g hg
 simp only at hg
 simp(disch:=omega) [VY]
 refine aj (fun h2=> ?_) (fun h2=> ?_)
 ·have hk:k < 8:=by omega
  have e1:(ints (hs b ((pad b).length / 64))).length=8:=by rw[cc,hl]
  have e2:(bytes (((hs b ((pad b).length / 64)).take k).flatMap w4)).length=4 * k:=by rw[aS];exact B3 _ _ (by omega)
  simp(disch:=omega) [e1,e2,fu,VY]
  exact⟨k+1,_,g - 1,by omega,by omega,⟨by omega,rfl⟩,rfl,GG (by omega)⟩
 ·have hk:k=8:=by omega
  subst hk
  simp(disch:=omega) [VY]
  rw[List.take_of_length_le (by omega)]
  rfl
end Go.Eng.F
namespace Go.Eng.F
abbrev lz:Nat:=312
def lu:AF:=⟨1,3,[.tmp 2],(.seq (.ops [.i (.mov 2 (.c (.val false [.nils])))]) (.seq (.ops [.i (.bsl 3 5 1 1 [.int .u8 0] [(0,1,(.c (.val false [.int .u8 0])))]),qm 4 0, .i (.app 5 5 1 1 (.s 3) (.s 4)),qk 7 311 5,qm 2 6]) .ret))⟩
theorem wi:cd lz=some lu:=by kernel_rfl
theorem uT (x:Bytes) (hx:x.length≤1073741823):VC cd lz (bJ [(false,[.sl (bytes x)])]) (fun rs _=>rs= [(false,[.o true (some (5,1)) (bytes (F4 (0::x)))])]):=by
 have e: [[D.int .u8 0]]++bytes x=bytes (0::x):=rfl
 refine aa wi rfl ?_
 simp(disch:=omega) [lu,e,aS,VY]
 refine an (nN (0::x) (by simp;omega)) rfl rfl ?_
 simp(disch:=omega) [VY]
abbrev lJ:Nat:=270
def kW:AF:=⟨1,3,[.tmp 2],(.seq (.ops [.i (.mov 2 (.c (.val false [.nils])))]) (.seq (.ops [.i (.bsl 3 5 1 1 [.int .u8 0] [(0,1,(.c (.val false [.int .u8 0])))]),qm 4 0, .i (.app 5 5 1 1 (.s 3) (.s 4)),qk 7 269 5,qm 2 6]) .ret))⟩
theorem vZ:cd lJ=some kW:=by kernel_rfl
theorem uo (x:Bytes) (hx:x.length≤1073741823):VC cd lJ (bJ [(false,[.sl (bytes x)])]) (fun rs _=>rs= [(false,[.o true (some (5,1)) (bytes (F4 (0::x)))])]):=by
 have e: [[D.int .u8 0]]++bytes x=bytes (0::x):=rfl
 refine aa vZ rfl ?_
 simp(disch:=omega) [kW,e,aS,VY]
 refine an (ov (0::x) (by simp;omega)) rfl rfl ?_
 simp(disch:=omega) [VY]
abbrev ld:Nat:=314
def la:AF:=⟨2,4,[.tmp 4],(.seq (.ops [.i (.mov 4 (.c (.val false [.nils])))]) (.seq (.ops [.i (.bsl 5 5 1 1 [.int .u8 0] [(0,1,(.c (.val false [.int .u8 1])))]),qm 6 0, .i (.app 7 5 1 1 (.s 5) (.s 6)),qm 8 1, .i (.app 9 5 1 1 (.s 7) (.s 8)),qk 11 311 9,qm 4 10]) .ret))⟩
theorem wh:cd ld=some la:=by kernel_rfl
theorem tV (x y:Bytes) (hx:x.length≤1000) (hy:y.length≤1000):VC cd ld (bJ [(false,[.sl (bytes x)]),(false,[.sl (bytes y)])]) (fun rs _=>rs= [(false,[.o true (some (5,1)) (bytes (F4 (1::x++y)))])]):=by
 have e: [[D.int .u8 1]]++bytes x=bytes (1::x):=rfl
 have e2:bytes (1::x)++bytes y=bytes (1::x++y):=by simp[bytes]
 refine aa wh rfl ?_
 simp(disch:=omega) [la,e,e2,aS,VY]
 refine an (nN (1::x++y) (by simp;omega)) rfl rfl ?_
 simp(disch:=omega) [VY]
abbrev lC:Nat:=272
def ly:AF:=⟨2,4,[.tmp 4],(.seq (.ops [.i (.mov 4 (.c (.val false [.nils])))]) (.seq (.ops [.i (.bsl 6 5 1 1 [.int .u8 0] [(0,1,(.c (.val false [.int .u8 1])))]),qm 7 0, .i (.app 8 5 1 1 (.s 6) (.s 7)),qm 5 8]) (.seq (.ops [qm 9 5,qm 10 1, .i (.app 11 5 1 1 (.s 9) (.s 10)),qk 13 269 11,qm 4 12]) .ret)))⟩
theorem wm:cd lC=some ly:=by kernel_rfl
theorem tU (x y:Bytes) (hx:x.length≤1000) (hy:y.length≤1000):VC cd lC (bJ [(false,[.sl (bytes x)]),(false,[.sl (bytes y)])]) (fun rs _=>rs= [(false,[.o true (some (5,1)) (bytes (F4 (1::x++y)))])]):=by
 have e: [[D.int .u8 1]]++bytes x=bytes (1::x):=rfl
 have e2:bytes (1::x)++bytes y=bytes (1::x++y):=by simp[bytes]
 refine aa wm rfl ?_
 simp(disch:=omega) [ly,e,e2,aS,VY]
 refine an (ov (1::x++y) (by simp;omega)) rfl rfl ?_
 simp(disch:=omega) [VY]
def IE (n k:Nat):Nat:=if h:0 < k∧k < n - k then IE n (2 * k)else k
termination_by n - k
decreasing_by omega
def splitAt (n:Nat):Nat:=if n < 2 then 0 else IE n 1
abbrev nO:Nat:=313
def om:AF:=⟨1,4,[.tmp 2],(.seq (.ops [.i (.mov 2 (qi 0))]) (.seq (.seq (.ops [qm 4 0, .i (.bin 5 .lss (.s 4) (qi 2))]) (.cond (.s 5) (.seq (.ops [.i (.mov 2 (qi 0))]) .ret) .skip)) (.seq (.ops [.i (.mov 3 (qi 1))]) (.seq (.block 0 (.loop [12,11,10,9,8,7,6] (.seq (.seq (.ops [qm 6 3,qm 7 0,qm 8 3,qd 9 .sub 7 8,qd 10 .lss 6 9]) (.cond (.s 10) .skip (.exit 0))) (.block 1 (.ops [qm 11 3, .i (.bin 12 .mul (.s 11) (qi 2)),qm 3 12]))))) (.seq (.ops [qm 13 3,qm 2 13]) .ret)))))⟩
theorem xz:cd nO=some om:=by kernel_rfl
theorem lW (n:Nat) (hn:n≤1073741824):VC cd nO (bJ [(false,[.int .i64 (n:Int)])]) (fun rs _=>rs=it (splitAt n)):=by
 refine aa xz rfl ?_
 simp(disch:=omega) [om,VY]
 refine aj (fun h1=> ?_) (fun h1=> ?_)
 ·have h2:n < 2:=by omega
  simp(disch:=omega) [splitAt,h2,VY]
 ·have h2:¬n < 2:=by omega
  simp(disch:=omega) [VY]
  refine bS (σ:=Nat) (f1:=_) (es0:=_) (by simp(disch:=omega) [VY];rfl) (by simp(disch:=omega) [VY];rfl) (fun k=> [(3, .val false [.int .i64 k])]) (fun _=> []) (fun k g=>g+k=n∧0 < k∧IE n k=splitAt n) 1 (n - 1) (by simp(disch:=omega) [VY]) (by simp(disch:=omega) [VY]) ⟨by omega,by omega,by rw[splitAt,if_neg h2]⟩ ?_
  rintro k v g ⟨hg,h0,hk⟩
  simp(disch:=omega) [VY]
  refine aj (fun h3=> ?_) (fun h3=> ?_)
  ·simp(disch:=omega) [VY]
   exact⟨2 * k,n - 2 * k,by omega,⟨by omega,by omega,by rw[←hk];conv=>rhs;rw[IE,dif_pos ⟨h0,by omega⟩]⟩,by omega⟩
  ·simp(disch:=omega) [VY]
   rw[IE,dif_neg (by omega)]at hk
   rw[hk]
abbrev nE:Nat:=271
def ni:AF:=⟨1,4,[.tmp 2],(.seq (.ops [.i (.mov 2 (qi 0))]) (.seq (.seq (.ops [qm 4 0, .i (.bin 5 .lss (.s 4) (qi 2))]) (.cond (.s 5) (.seq (.ops [.i (.mov 2 (qi 0))]) .ret) .skip)) (.seq (.ops [.i (.mov 3 (qi 1))]) (.seq (.block 0 (.loop [12,11,10,9,8,7,6] (.seq (.seq (.ops [qm 6 3,qm 7 0,qm 8 3,qd 9 .sub 7 8,qd 10 .lss 6 9]) (.cond (.s 10) .skip (.exit 0))) (.block 1 (.ops [qm 11 3, .i (.bin 12 .mul (qi 2) (.s 11)),qm 3 12]))))) (.seq (.ops [qm 13 3,qm 2 13]) .ret)))))⟩
theorem yY:cd nE=some ni:=by kernel_rfl
theorem lE (n:Nat) (hn:n≤1073741824):VC cd nE (bJ [(false,[.int .i64 (n:Int)])]) (fun rs _=>rs=it (splitAt n)):=by
 refine aa yY rfl ?_
 simp(disch:=omega) [ni,VY]
 refine aj (fun h1=> ?_) (fun h1=> ?_)
 ·have h2:n < 2:=by omega
  simp(disch:=omega) [splitAt,h2,VY]
 ·have h2:¬n < 2:=by omega
  simp(disch:=omega) [VY]
  refine bS (σ:=Nat) (f1:=_) (es0:=_) (by simp(disch:=omega) [VY];rfl) (by simp(disch:=omega) [VY];rfl) (fun k=> [(3, .val false [.int .i64 k])]) (fun _=> []) (fun k g=>g+k=n∧0 < k∧IE n k=splitAt n) 1 (n - 1) (by simp(disch:=omega) [VY]) (by simp(disch:=omega) [VY]) ⟨by omega,by omega,by rw[splitAt,if_neg h2]⟩ ?_
  rintro k v g ⟨hg,h0,hk⟩
  simp(disch:=omega) [VY]
  refine aj (fun h3=> ?_) (fun h3=> ?_)
  ·simp(disch:=omega) [VY]
   exact⟨2 * k,n - 2 * k,by omega,⟨by omega,by omega,by rw[←hk];conv=>rhs;rw[IE,dif_pos ⟨h0,by omega⟩]⟩,by omega⟩
  ·simp(disch:=omega) [VY]
   rw[IE,dif_neg (by omega)]at hk
   rw[hk]
theorem NX (n:Nat):∀(g k:Nat),g=n - k→0 < k→k < n→k≤IE n k∧IE n k < n:=by
 intro g
 induction g using Nat.strongRecOn with
 |ind g ih=>
 intro k hg h0 hk
 rw[IE]
 split
 ·rename_i h
  have:=ih (n - 2 * k) (by omega) (2 * k) rfl (by omega) (by omega)
  omega
 ·omega
theorem fC {n:Nat} (h:2≤n):0 < splitAt n∧splitAt n < n:=by
 rw[splitAt,if_neg (by omega)]
 have:=NX n _ 1 rfl (by omega) (by omega)
 omega
def bx (l:List Bytes):Bytes:=match l with
 | []=>F4 []
 | [x]=>F4 (0::x)
 |a::b::r=>F4 (1::bx ((a::b::r).take (splitAt (a::b::r).length))++bx ((a::b::r).drop (splitAt (a::b::r).length)))
termination_by l.length
decreasing_by
 all_goals
  have:=fC (n:=(a::b::r).length) (by simp)
  simp only[List.length_take,List.length_drop,List.length_cons]at *
  omega
theorem BI (b:Bytes):(F4 b).length=32:=by
 have h:=B3 (hs b ((pad b).length / 64)) 8 (by rw[uE];omega)
 rw[List.take_of_length_le (by rw[uE];omega)]at h
 exact h
theorem tG:bx []=F4 []:=by rw[bx]
theorem sI {l:List Bytes} (h:l.length=1):bx l=F4 (0::l[0]):=by
 match l,h with
 | [x],_=>rw[bx];rfl
theorem qA {l:List Bytes} (h:2≤l.length):bx l=F4 (1::bx (l.take (splitAt l.length))++bx (l.drop (splitAt l.length))):=by
 match l,h with
 |a::b::r,_=>rw[bx]
theorem ix (l:List Bytes):(bx l).length=32:=by
 match l with
 | []=>rw[bx];exact BI _
 | [x]=>rw[bx];exact BI _
 |a::b::r=>rw[bx];exact BI _
abbrev lV:Nat:=282
def lA:AF:=⟨1,5,[.tmp 2],(.seq (.ops [.i (.mov 2 (.c (.val false [.nils])))]) (.seq (.seq (.ops [qm 4 0,qn 5 4]) (.block 0 (.seq (.ops [.i (.bin 7 .eql (.s 5) (qi 0)),qm 6 7]) (.cond (.s 6) (.seq (.ops [.i (.call 9 311 false [(.c (.val false [.nils]))]),qm 2 8]) .ret) (.seq (.ops [.i (.bin 10 .eql (.s 5) (qi 1)),qm 9 10]) (.cond (.s 9) (.seq (.ops [qm 11 0, .i (.iad 12 (.s 11) (qi 0) 1), .i (.ldh 13 (.s 12) 1 false),qk 15 312 13,qm 2 14]) .ret) .skip)))))) (.seq (.ops [qm 15 0,qn 16 15,qk 18 313 16,qm 3 17]) (.seq (.ops [qm 18 0,qm 19 3, .i (.fb 20 1 (.s 18) none (some (.s 19))),qk 22 282 20,qm 22 0,qm 23 3, .i (.fb 24 1 (.s 22) (some (.s 23)) none),qk 26 282 24, .i (.call 27 314 false [(.s 21),(.s 25)]),qm 2 26]) .ret))))⟩
theorem wu:cd lV=some lA:=by kernel_rfl
theorem uV:∀(n:Nat) (l:List Bytes),l.length=n→l.length≤1073741824→(∀x∈l,x.length≤1073741823)→VC cd lV (bJ [(false,[.sl (df l)])]) (fun rs _=>rs= [(false,[.o true (some (5,1)) (bytes (bx l))])]):=by
 intro n
 induction n using Nat.strongRecOn with
 |ind n ih=>
 intro l hn hl hx
 refine aa wu rfl ?_
 simp(disch:=omega) [lA,cn,VY]
 refine aj (fun h1=> ?_) (fun h1=> ?_)
 ·have h2:l= []:=h1
  subst h2
  simp(disch:=omega) [VY]
  refine an (nN [] (by simp)) rfl rfl ?_
  simp(disch:=omega) [tG,VY]
 ·have h0:0 < l.length:=List.length_pos_iff.2 h1
  simp(disch:=omega) [cn,VY]
  refine aj (fun h2=> ?_) (fun h2=> ?_)
  ·have h3:0 < l.length:=by omega
   simp(disch:=omega) [GD h3,cn,VY]
   refine an (uT l[0] (hx _ (List.getElem_mem h3))) rfl rfl ?_
   simp(disch:=omega) [VY]
   rw[sI (by omega)]
  ·have h3:2≤l.length:=by omega
   obtain⟨k1,k2⟩:=fC h3
   simp(disch:=omega) [cn,VY]
   refine an (lW l.length (by omega)) rfl rfl ?_
   have t1:(df l).take (splitAt l.length)=df (l.take (splitAt l.length)):=by simp[df]
   have t2:(df l).drop (splitAt l.length)=df (l.drop (splitAt l.length)):=by simp[df]
   have t3:((splitAt l.length:Nat):Int)≤(l.length:Int):=by omega
   have t4:splitAt l.length≤l.length:=by omega
   have t5:((l.length:Int) - (splitAt l.length:Int)).toNat=l.length - splitAt l.length:=by omega
   have t6:(df (l.drop (splitAt l.length))).take (l.length - splitAt l.length)=df (l.drop (splitAt l.length)):=List.take_of_length_le (by rw[cn];simp)
   simp(disch:=omega) [cn,wX,t1,t2,t3,t4,t5,t6,VY]
   refine an (ih (splitAt l.length) (by omega) (l.take (splitAt l.length)) (by simp;omega) (by simp;omega) (fun x h=>hx x (List.mem_of_mem_take h))) rfl rfl ?_
   simp(disch:=omega) [cn,wX,t1,t2,t3,t4,t5,t6,VY]
   refine an (ih (l.length - splitAt l.length) (by omega) (l.drop (splitAt l.length)) (by simp) (by simp;omega) (fun x h=>hx x (List.mem_of_mem_drop h))) rfl rfl ?_
   simp(disch:=omega) [VY]
   refine an (tV (bx (l.take (splitAt l.length))) (bx (l.drop (splitAt l.length))) (by rw[ix];omega) (by rw[ix];omega)) rfl rfl ?_
   simp(disch:=omega) [VY]
   rw[qA h3]
   rfl
abbrev lG:Nat:=191
def lx:AF:=⟨1,5,[.tmp 2],(.seq (.ops [.i (.mov 2 (.c (.val false [.nils])))]) (.seq (.seq (.ops [qm 4 0,qn 5 4, .i (.bin 6 .eql (.s 5) (qi 0))]) (.cond (.s 6) (.seq (.ops [.i (.call 8 269 false [(.c (.val false [.nils]))]),qm 2 7]) .ret) .skip)) (.seq (.seq (.ops [qm 8 0,qn 9 8, .i (.bin 10 .eql (.s 9) (qi 1))]) (.cond (.s 10) (.seq (.ops [qm 11 0, .i (.iad 12 (.s 11) (qi 0) 1), .i (.ldh 13 (.s 12) 1 false),qk 15 270 13,qm 2 14]) .ret) .skip)) (.seq (.ops [qm 15 0,qn 16 15,qk 18 271 16,qm 3 17]) (.seq (.ops [qm 18 0,qm 19 3, .i (.fb 20 1 (.s 18) none (some (.s 19))),qk 22 191 20,qm 22 0,qm 23 3, .i (.fb 24 1 (.s 22) (some (.s 23)) none),qk 26 191 24, .i (.call 27 272 false [(.s 21),(.s 25)]),qm 2 26]) .ret)))))⟩
theorem wg:cd lG=some lx:=by kernel_rfl
theorem uM:∀(n:Nat) (l:List Bytes),l.length=n→l.length≤1073741824→(∀x∈l,x.length≤1073741823)→VC cd lG (bJ [(false,[.sl (df l)])]) (fun rs _=>rs= [(false,[.o true (some (5,1)) (bytes (bx l))])]):=by
 intro n
 induction n using Nat.strongRecOn with
 |ind n ih=>
 intro l hn hl hx
 refine aa wg rfl ?_
 simp(disch:=omega) [lx,cn,VY]
 refine aj (fun h1=> ?_) (fun h1=> ?_)
 ·have h2:l= []:=h1
  subst h2
  simp(disch:=omega) [VY]
  refine an (ov [] (by simp)) rfl rfl ?_
  simp(disch:=omega) [tG,VY]
 ·have h0:0 < l.length:=List.length_pos_iff.2 h1
  simp(disch:=omega) [cn,VY]
  refine aj (fun h2=> ?_) (fun h2=> ?_)
  ·have h3:0 < l.length:=by omega
   simp(disch:=omega) [GD h3,cn,VY]
   refine an (uo l[0] (hx _ (List.getElem_mem h3))) rfl rfl ?_
   simp(disch:=omega) [VY]
   rw[sI (by omega)]
  ·have h3:2≤l.length:=by omega
   obtain⟨k1,k2⟩:=fC h3
   simp(disch:=omega) [cn,VY]
   refine an (lE l.length (by omega)) rfl rfl ?_
   have t1:(df l).take (splitAt l.length)=df (l.take (splitAt l.length)):=by simp[df]
   have t2:(df l).drop (splitAt l.length)=df (l.drop (splitAt l.length)):=by simp[df]
   have t3:((splitAt l.length:Nat):Int)≤(l.length:Int):=by omega
   have t4:splitAt l.length≤l.length:=by omega
   have t5:((l.length:Int) - (splitAt l.length:Int)).toNat=l.length - splitAt l.length:=by omega
   have t6:(df (l.drop (splitAt l.length))).take (l.length - splitAt l.length)=df (l.drop (splitAt l.length)):=List.take_of_length_le (by rw[cn];simp)
   simp(disch:=omega) [cn,wX,t1,t2,t3,t4,t5,t6,VY]
   refine an (ih (splitAt l.length) (by omega) (l.take (splitAt l.length)) (by simp;omega) (by simp;omega) (fun x h=>hx x (List.mem_of_mem_take h))) rfl rfl ?_
   simp(disch:=omega) [cn,wX,t1,t2,t3,t4,t5,t6,VY]
   refine an (ih (l.length - splitAt l.length) (by omega) (l.drop (splitAt l.length)) (by simp) (by simp;omega) (fun x h=>hx x (List.mem_of_mem_drop h))) rfl rfl ?_
   simp(disch:=omega) [VY]
   refine an (tU (bx (l.take (splitAt l.length))) (bx (l.drop (splitAt l.length))) (by rw[ix];omega) (by rw[ix];omega)) rfl rfl ?_
   simp(disch:=omega) [VY]
   rw[qA h3]
   rfl
end Go.Eng.F
namespace Go.Eng.F
def ey (n:Nat):Bytes:=if n < 128 then [UInt8.ofNat n]else UInt8.ofNat (n % 128+128)::ey (n / 128)
termination_by n
decreasing_by omega
theorem FX {n:Nat} (h:n < 128):ey n= [UInt8.ofNat n]:=by rw[ey,if_pos h]
theorem Li {n:Nat} (h:¬n < 128):ey n=UInt8.ofNat (n % 128+128)::ey (n / 128):=by rw[ey,if_neg h]
def M5 (q:Qc):Bytes:=ey q.view.toNat++ey q.height.toNat++q.block++q.bits++q.tags.flatten
def sV (h:Head):Bytes:=ey h.view.toNat++ey h.height.toNat++ey h.proposer.toNat++h.parent++h.root++M5 h.qc
theorem sv {n:Int} (h:1≤n∧n≤10):vu n≤2:=by unfold vu;split <;>omega
structure Oj (q:Qc):Prop where
 view:isNum q.view=true
 height:isNum q.height=true
 block:q.block.length=32
 bits:q.bits.length≤2
 tags:q.tags.length≤16
 tag:∀t∈q.tags,t.length=32
theorem wO {l:ao} {q:Qc} (h:oy l q=true):Oj q:=by
 simp only[oy,Bool.and_eq_true,decide_eq_true_eq]at h
 obtain⟨⟨⟨⟨⟨⟨h0,h1⟩,h2⟩,h3⟩,h4⟩,h5⟩,h6⟩:=h
 simp only[eo,Bool.and_eq_true,decide_eq_true_eq]at h4
 have hb:=sv (eU h4.1.1)
 have hl:=eR q.bits
 refine⟨h1,h2,by simpa[hash]using h3,by omega,by omega,fun t ht=> ?_⟩
 simp only[hashes,List.all_eq_true]at h6
 simpa[hash]using h6 t ht
def O0 (l:ao) (h:Head):Bytes:=if eC l h then F4 (72::sV h)else []
end Go.Eng.F
namespace Go.Eng.F
open Go.Eng.U (za c8 TLimits fx)
theorem eJ {n:Int} (h:IntKind.i64.min≤n∧n≤IntKind.i64.max):oN n:=by
 have h1:IntKind.i64.min= -9223372036854775808:=rfl
 have h2:IntKind.i64.max=9223372036854775807:=rfl
 unfold oN
 omega
theorem dZ {n:Int} (h:oN n):aC (.int .i64) (.i n):=by
 have h1:IntKind.i64.min= -9223372036854775808:=rfl
 have h2:IntKind.i64.max=9223372036854775807:=rfl
 unfold oN at h
 simp only[aC]
 omega
theorem iD:maxLen=9223372036854775807:=rfl
theorem ei (l:List Bytes):enc (.sl (.sl (.int .u8))) (eX l)= [.sl (df l)]:=Lu l
theorem dY (k:IntKind) (n:Int):enc (.int k) (.i n)= [.int k n]:=rfl
theorem fj (b:Bool):enc .bool (.b b)= [.bool b]:=rfl
theorem fc (ts:List Ty) (vs:List Tv):enc (.st ts) (.r vs)=tk ts vs:=rfl
theorem ck (t:Ty) (ts:List Ty) (v:Tv) (vs:List Tv):tk (t::ts) (v::vs)=enc t v++tk ts vs:=rfl
theorem cY:tk [] []= []:=rfl
theorem y8 (t:Ty) (xs:List Tv):enc (.sl t) (.l xs)= [.sl (xs.map (enc t))]:=rfl
theorem bc {t:Ty} {ts:List Ty} {v:Tv} {vs:List Tv}:eg (t::ts) (v::vs)↔aC t v∧eg ts vs:=by simp only[eg]
theorem eS:eg [] []↔True:=by simp only[eg]
theorem dg {ts:List Ty} {vs:List Tv}:aC (.st ts) (.r vs)↔eg ts vs:=by simp only[aC]
theorem ok_int {k:IntKind} {n:Int}:aC (.int k) (.i n)↔k.min≤n∧n≤k.max:=by simp only[aC]
theorem xo {t:Ty} {xs:List Tv}:aC (.sl t) (.l xs)↔xs.length≤maxLen∧∀x∈xs,aC t x:=by simp only[aC]
theorem pP {x:Bytes} (h:wt (vA x)≤1048576):Sz x.length:=by rw[nm]at h;unfold Sz;omega
theorem E1 {l:List Bytes} (h:wt (eX l)≤1048576):Sz l.length∧∀x∈l,Sz x.length:=by
 obtain⟨h1,h2⟩:=Kd l
 unfold Sz
 exact⟨by omega,fun x hx=>by have:=h2 x hx;omega⟩
theorem pW {x:Bytes} (h:Sz x.length):aC (.sl (.int .u8)) (vA x):=MT (by unfold Sz at h;rw[iD];omega)
theorem FI {l:List Bytes} (h:Sz l.length) (h2:∀x∈l,Sz x.length):aC (.sl (.sl (.int .u8))) (eX l):=Nk (by unfold Sz at h;rw[iD];omega) fun x hx=>by have:=h2 x hx;unfold Sz at this;rw[iD];omega
theorem gV (l:List Int):enc (.sl (.int .i64)) (MC l)= [.sl (l.map fun n=> [.int .i64 n])]:=by
 simp only[MC,y8,List.map_map]
 congr 2
theorem gM (s:ByteArray):enc .str (.s s)= [.str s]:=rfl
def ao.tv (l:ao):Tv:= .r [.i l.n, .i l.tx, .i l.txs, .i l.frame, .i l.heads]
theorem ao.enc (l:ao):enc TLimits l.tv=l.c:=rfl
theorem ao.ex {v:Tv} (h:aC TLimits v):∃l:ao,v=l.tv:=by
 obtain⟨vs,rfl,h⟩:=h.st
 obtain⟨v0,_,rfl,h0,h⟩:=h.step
 obtain⟨v1,_,rfl,h1,h⟩:=h.step
 obtain⟨v2,_,rfl,h2,h⟩:=h.step
 obtain⟨v3,_,rfl,h3,h⟩:=h.step
 obtain⟨v4,_,rfl,h4,h⟩:=h.step
 obtain rfl:=h.fin
 obtain⟨n0,rfl,_⟩:=h0.int
 obtain⟨n1,rfl,_⟩:=h1.int
 obtain⟨n2,rfl,_⟩:=h2.int
 obtain⟨n3,rfl,_⟩:=h3.int
 obtain⟨n4,rfl,_⟩:=h4.int
 exact⟨⟨n0,n1,n2,n3,n4⟩,rfl⟩
def Qc.tv (q:Qc):Tv:= .r [.i q.view, .i q.height,vA q.block,vA q.bits,eX q.tags]
theorem Qc.enc (q:Qc):enc za q.tv=q.c:=by simp only[Qc.tv,fc,ck,cY,dY,gK,ei,Qc.c,List.cons_append,List.nil_append]
theorem Qc.ex {v:Tv} (h:aC za v):∃q:Qc,v=q.tv:=by
 obtain⟨vs,rfl,h⟩:=h.st
 obtain⟨v0,_,rfl,h0,h⟩:=h.step
 obtain⟨v1,_,rfl,h1,h⟩:=h.step
 obtain⟨v2,_,rfl,h2,h⟩:=h.step
 obtain⟨v3,_,rfl,h3,h⟩:=h.step
 obtain⟨v4,_,rfl,h4,h⟩:=h.step
 obtain rfl:=h.fin
 obtain⟨n0,rfl,_⟩:=h0.int
 obtain⟨n1,rfl,_⟩:=h1.int
 obtain⟨n2,rfl⟩:=i0 h2
 obtain⟨n3,rfl⟩:=i0 h3
 obtain⟨n4,rfl⟩:=wF h4
 exact⟨⟨n0,n1,n2,n3,n4⟩,rfl⟩
theorem Qc.of {q:Qc} (h:aC za q.tv) (hw:wt q.tv≤1048576):q.wc:=by
 simp only[Qc.tv,dg,bc,ok_int]at h
 simp only[Qc.tv,wt,dw]at hw
 obtain⟨h0,h1,_⟩:=h
 have h4:=E1 (l:=q.tags) (by omega)
 exact⟨⟨eJ h0,eJ h1,pP (by omega),pP (by omega),h4.1⟩,h4.2⟩
theorem Qc.wc.tok {q:Qc} (h:q.wc):aC za q.tv:=by
 obtain⟨⟨h0,h1,h2,h3,h4⟩,h5⟩:=h
 simp only[Qc.tv,dg,bc]
 exact⟨dZ h0,dZ h1,pW h2,pW h3,FI h4 h5,eS.2 trivial⟩
theorem Qc.rs (q:Qc):Aw q.o (Go.Eng.enc za q.tv):=by
 rw[Qc.enc]
 simp only[Qc.o,Qc.c,Aw,D.leaf,and_self]
def Head.tv (h:Head):Tv:= .r [.i h.view, .i h.height, .i h.proposer,vA h.parent,vA h.root,h.qc.tv]
theorem Head.enc (h:Head):enc c8 h.tv=h.c:=by simp only[Head.tv,Qc.enc,fc,ck,cY,dY,gK,ei,Head.c,Qc.c,List.cons_append,List.nil_append]
theorem Head.ex {v:Tv} (h:aC c8 v):∃q:Head,v=q.tv:=by
 obtain⟨vs,rfl,h⟩:=h.st
 obtain⟨v0,_,rfl,h0,h⟩:=h.step
 obtain⟨v1,_,rfl,h1,h⟩:=h.step
 obtain⟨v2,_,rfl,h2,h⟩:=h.step
 obtain⟨v3,_,rfl,h3,h⟩:=h.step
 obtain⟨v4,_,rfl,h4,h⟩:=h.step
 obtain⟨v5,_,rfl,h5,h⟩:=h.step
 obtain rfl:=h.fin
 obtain⟨n0,rfl,_⟩:=h0.int
 obtain⟨n1,rfl,_⟩:=h1.int
 obtain⟨n2,rfl,_⟩:=h2.int
 obtain⟨n3,rfl⟩:=i0 h3
 obtain⟨n4,rfl⟩:=i0 h4
 obtain⟨n5,rfl⟩:=Qc.ex h5
 exact⟨⟨n0,n1,n2,n3,n4,n5⟩,rfl⟩
theorem Head.of {q:Head} (h:aC c8 q.tv) (hw:wt q.tv≤1048576):q.wc:=by
 simp only[Head.tv,dg,bc]at h
 simp only[Head.tv,wt,dw]at hw
 obtain⟨h0,h1,h2,_,_,h5,_⟩:=h
 have h4:=Qc.of h5 (by omega)
 exact⟨⟨eJ (ok_int.1 h0),eJ (ok_int.1 h1),eJ (ok_int.1 h2),pP (by omega),pP (by omega),h4.1⟩,h4.2⟩
theorem Head.wc.tok {q:Head} (h:q.wc):aC c8 q.tv:=by
 obtain⟨⟨h0,h1,h2,h3,h4,h5⟩,h6⟩:=h
 simp only[Head.tv,dg,bc]
 exact⟨dZ h0,dZ h1,dZ h2,pW h3,pW h4,Qc.wc.tok ⟨h5,h6⟩,eS.2 trivial⟩
theorem Head.rs (q:Head):Aw q.o (Go.Eng.enc c8 q.tv):=by
 rw[Head.enc]
 simp only[Head.o,Head.c,Aw,D.leaf,and_self]
def pz (l:List Head):Tv:= .l (l.map Head.tv)
theorem pq (l:List Head):enc (.sl c8) (pz l)= [.sl (uL l)]:=by
 simp only[pz,y8,List.map_map,uL]
 congr 2
 exact List.map_congr_left fun x _=>Head.enc x
theorem wY {v:Tv} (h:aC (.sl c8) v):∃l,v=pz l:=by
 obtain⟨xs,rfl,_,h2⟩:=h.sl
 obtain⟨ys,rfl⟩:=oR (f:=Head.tv) (P:=aC c8) (fun v hv=>Head.ex hv) h2
 exact⟨ys,rfl⟩
theorem CG {l:List Head} (h:aC (.sl c8) (pz l)) (hw:wt (pz l)≤1048576):Sz l.length∧∀x∈l,x.wc:=by
 unfold pz at h hw
 rw[zk]at hw
 have h2:=(xo.1 h).2
 simp only[List.length_map]at hw
 refine⟨by unfold Sz;omega,fun x hx=>Head.of (h2 _ (List.mem_map_of_mem hx)) ?_⟩
 have:=td (f:=Head.tv) hx
 omega
def Proof.tv (p:Proof):Tv:= .r [pz p.heads,p.qc.tv]
theorem Proof.enc (p:Proof):enc fx p.tv=p.c:=by simp only[Proof.tv,Qc.enc,pq,fc,ck,cY,dY,Proof.c,Qc.c,List.cons_append,List.nil_append]
theorem Proof.ex {v:Tv} (h:aC fx v):∃q:Proof,v=q.tv:=by
 obtain⟨vs,rfl,h⟩:=h.st
 obtain⟨v0,_,rfl,h0,h⟩:=h.step
 obtain⟨v1,_,rfl,h1,h⟩:=h.step
 obtain rfl:=h.fin
 obtain⟨n0,rfl⟩:=wY h0
 obtain⟨n1,rfl⟩:=Qc.ex h1
 exact⟨⟨n0,n1⟩,rfl⟩
theorem Proof.of {q:Proof} (h:aC fx q.tv) (hw:wt q.tv≤1048576):q.wf∧(∀h∈q.heads,h.wc)∧q.qc.wc:=by
 simp only[Proof.tv,dg,bc]at h
 simp only[Proof.tv,wt,dw]at hw
 obtain⟨h0,h1,_⟩:=h
 have h4:=Qc.of h1 (by omega)
 have h5:=CG h0 (by omega)
 exact⟨⟨⟨h5.1,fun h hh=>(h5.2 h hh).1⟩,h4.1⟩,h5.2,h4⟩
theorem _root_.Go.Eng.dW.Ox {h:H} {T:Ty} {v:Tv} {al:List (Ty×Tv)} {ms:List (Bool×List C)} (ha:dW h ((T,v)::al) ms):aC T v∧∃mr,dW h al mr:=by
 obtain⟨cs,mr,rfl,⟨S,h1⟩,h2⟩:=ha
 exact⟨h1.ok,mr,h2⟩
def Qw (h:H) (ts:List (Ty×Tv)) (r:V) (h':H):Prop:=∃t css S,h'=h++t∧r=cW css∧GY h' ts css S∧dr h' S∧∀i∈S,h.length≤i
end Go.Eng.F
namespace Go.Eng.F
open Go.Eng.U (za c8 TLimits fx mj iZ)
def Proof.wc (p:Proof):Prop:=p.wf∧(∀h∈p.heads,h.wc)∧p.qc.wc
def Proof.o (p:Proof):List E:= [.o true (some (64,10)) (uL p.heads), .p (.int .i64 p.qc.view), .p (.int .i64 p.qc.height), .o true (some (5,1)) (bytes p.qc.block), .o true (some (5,1)) (bytes p.qc.bits), .o true (some (24,1)) (df p.qc.tags)]
theorem J1 {l:List Head} (h:Sz l.length) (h2:∀x∈l,x.wc):aC (.sl c8) (pz l):=by
 unfold pz
 refine xo.2 ⟨by unfold Sz at h;rw[List.length_map,iD];omega,fun v hv=> ?_⟩
 obtain⟨x,hx,rfl⟩:=List.mem_map.1 hv
 exact(h2 x hx).tok
theorem Proof.Qu {q:Proof} (h:aC fx q.tv) (hw:wt q.tv≤1048576):q.wc:=Proof.of h hw
theorem Proof.wc.tok {q:Proof} (h:q.wc):aC fx q.tv:=by
 simp only[Proof.tv,dg,bc]
 exact⟨J1 h.1.1.1 h.2.1,h.2.2.tok,eS.2 trivial⟩
structure Block where
 head:Head
 txs:List Bytes
def Block.c (x:Block):List D:=x.head.c++ [.sl (df x.txs)]
def Block.wc (x:Block):Prop:=x.head.wc∧Gy x.txs
def Block.o (x:Block):List E:= [.p (.int .i64 x.head.view), .p (.int .i64 x.head.height), .p (.int .i64 x.head.proposer), .o true (some (5,1)) (bytes x.head.parent), .o true (some (5,1)) (bytes x.head.root), .p (.int .i64 x.head.qc.view), .p (.int .i64 x.head.qc.height), .o true (some (5,1)) (bytes x.head.qc.block), .o true (some (5,1)) (bytes x.head.qc.bits), .o true (some (24,1)) (df x.head.qc.tags), .o true (some (24,1)) (df x.txs)]
def Block.tv (x:Block):Tv:= .r [x.head.tv,eX x.txs]
theorem Block.enc (x:Block):enc iZ x.tv=x.c:=by simp only[Block.tv,Head.enc,fc,ck,cY,dY,fj,gM,gK,ei,gV,Block.c,Head.c,Head.c,Qc.c,List.cons_append,List.nil_append,List.append_assoc]
theorem Block.ex {v:Tv} (h:aC iZ v):∃x:Block,v=x.tv:=by
 obtain⟨vs,rfl,h⟩:=h.st
 obtain⟨v0,_,rfl,h0,h⟩:=h.step
 obtain⟨v1,_,rfl,h1,h⟩:=h.step
 obtain rfl:=h.fin
 obtain⟨n0,rfl⟩:=Head.ex h0
 obtain⟨n1,rfl⟩:=wF h1
 exact⟨⟨n0,n1⟩,rfl⟩
theorem Block.of {x:Block} (h:aC iZ x.tv) (hw:wt x.tv≤1048576):x.wc:=by
 simp only[Block.tv,dg,bc]at h
 simp only[Block.tv,wt,dw]at hw
 obtain⟨h0,h1,_⟩:=h
 exact⟨Head.of h0 (by omega),E1 (by omega)⟩
theorem Block.wc.tok {x:Block} (h:x.wc):aC iZ x.tv:=by
 simp only[Block.tv,dg,bc]
 obtain⟨h0,h1⟩:=h
 exact⟨h0.tok,FI h1.1 h1.2,eS.2 trivial⟩
theorem Block.Qu {q:Block} (h:aC iZ q.tv) (hw:wt q.tv≤1048576):q.wc:=Block.of h hw
end Go.Eng.F
namespace Go.Eng.F
structure di where
 l:ao
 heads:List Head
def di.c (f:di):List D:=f.l.c++ [.sl (uL f.heads)]
def di.wf (f:di):Prop:=Ci f.heads
def di.wc (f:di):Prop:=Sz f.heads.length∧∀h∈f.heads,h.wc
theorem di.wc.wf {f:di} (h:f.wc):f.wf:=⟨h.1,fun x hx=>(h.2 x hx).1⟩
def hh (l:ao) (hs:List Head) (i:Nat):Bytes:=match hs[i]? with|some h=>O0 l h|none=> []
theorem ab:bytes []= []:=rfl
def di.o (f:di):List E:= [.p (.int .i64 f.l.n), .p (.int .i64 f.l.tx), .p (.int .i64 f.l.txs), .p (.int .i64 f.l.frame), .p (.int .i64 f.l.heads), .o true (some (64,10)) (uL f.heads)]
end Go.Eng.F
namespace Go.Eng.F
open Go.Eng.U (za c8 TLimits fx vP iL oG TPush)
structure Row where
 weight:Int
 key:Bytes
def Row.c (r:Row):List D:= [.int .i64 r.weight, .sl (bytes r.key)]
def Row.wf (r:Row):Prop:=oN r.weight∧Sz r.key.length
structure Table where
 rows:List Row
def rws (l:List Row):List (List D):=l.map Row.c
def Table.c (t:Table):List D:= [.sl (rws t.rows)]
def Table.wf (t:Table):Prop:=Sz t.rows.length∧∀r∈t.rows,r.wf
def Row.tv (x:Row):Tv:= .r [.i x.weight,vA x.key]
theorem Row.enc (x:Row):enc vP x.tv=x.c:=by simp only[Row.tv,fc,ck,cY,dY,fj,gM,gK,ei,gV,Row.c,List.cons_append,List.nil_append,List.append_assoc]
theorem Row.ex {v:Tv} (h:aC vP v):∃x:Row,v=x.tv:=by
 obtain⟨vs,rfl,h⟩:=h.st
 obtain⟨v0,_,rfl,h0,h⟩:=h.step
 obtain⟨v1,_,rfl,h1,h⟩:=h.step
 obtain rfl:=h.fin
 obtain⟨n0,rfl,_⟩:=h0.int
 obtain⟨n1,rfl⟩:=i0 h1
 exact⟨⟨n0,n1⟩,rfl⟩
theorem Row.of {x:Row} (h:aC vP x.tv) (hw:wt x.tv≤1048576):x.wf:=by
 simp only[Row.tv,dg,bc]at h
 simp only[Row.tv,wt,dw]at hw
 obtain⟨h0,h1,_⟩:=h
 exact⟨eJ (ok_int.1 h0),pP (by omega)⟩
theorem Row.wf.tok {x:Row} (h:x.wf):aC vP x.tv:=by
 simp only[Row.tv,dg,bc]
 obtain⟨h0,h1⟩:=h
 exact⟨dZ h0,pW h1,eS.2 trivial⟩
def CJ (l:List Row):Tv:= .l (l.map Row.tv)
theorem Ln (l:List Row):enc (.sl vP) (CJ l)= [.sl (rws l)]:=by
 simp only[CJ,y8,List.map_map,rws]
 congr 2
 exact List.map_congr_left fun x _=>Row.enc x
theorem K3 {v:Tv} (h:aC (.sl vP) v):∃l,v=CJ l:=by
 obtain⟨xs,rfl,_,h2⟩:=h.sl
 obtain⟨ys,rfl⟩:=oR (f:=Row.tv) (P:=aC vP) (fun v hv=>Row.ex hv) h2
 exact⟨ys,rfl⟩
theorem MY {l:List Row} (h:aC (.sl vP) (CJ l)) (hw:wt (CJ l)≤1048576):Sz l.length∧∀x∈l,x.wf:=by
 unfold CJ at h hw
 rw[zk]at hw
 have h2:=(xo.1 h).2
 simp only[List.length_map]at hw
 refine⟨by unfold Sz;omega,fun x hx=>Row.of (h2 _ (List.mem_map_of_mem hx)) ?_⟩
 have:=td (f:=Row.tv) hx
 omega
theorem Lw {l:List Row} (h:Sz l.length∧∀x∈l,x.wf):aC (.sl vP) (CJ l):=by
 unfold CJ
 refine xo.2 ⟨by have:=h.1;unfold Sz at this;rw[List.length_map,iD];omega,fun v hv=> ?_⟩
 obtain⟨x,hx,rfl⟩:=List.mem_map.1 hv
 exact(h.2 x hx).tok
def Table.tv (x:Table):Tv:= .r [CJ x.rows]
theorem Table.enc (x:Table):enc iL x.tv=x.c:=by simp only[Table.tv,Ln,fc,ck,cY,dY,fj,gM,gK,ei,gV,Table.c,List.cons_append,List.nil_append,List.append_assoc]
theorem Table.ex {v:Tv} (h:aC iL v):∃x:Table,v=x.tv:=by
 obtain⟨vs,rfl,h⟩:=h.st
 obtain⟨v0,_,rfl,h0,h⟩:=h.step
 obtain rfl:=h.fin
 obtain⟨n0,rfl⟩:=K3 h0
 exact⟨⟨n0⟩,rfl⟩
theorem Table.of {x:Table} (h:aC iL x.tv) (hw:wt x.tv≤1048576):x.wf:=by
 simp only[Table.tv,dg,bc]at h
 simp only[Table.tv,wt,dw]at hw
 obtain⟨h0,_⟩:=h
 exact MY h0 (by omega)
theorem Table.wf.tok {x:Table} (h:x.wf):aC iL x.tv:=by
 simp only[Table.tv,dg,bc]
 have h0:=h
 exact⟨Lw h0,eS.2 trivial⟩
end Go.Eng.F
namespace Go.Eng.F
theorem j0 {b:Bytes} (h:hash b=true):b.length=32:=by simpa[hash]using h
end Go.Eng.F
namespace Go.Eng.F
def ct (c:Nat):Nat:=if c % 2=1 then(c / 2) ^^^ 3988292384 else c / 2
def zb:Nat→Nat→Nat
 |0,c=>c
 |n+1,c=>ct (zb n c)
def kM (c:Nat) (b:Bytes):Nat:=b.foldl (fun c x=>zb 8 (c ^^^ x.toNat)) c
def sH (c:Nat) (b:Bytes):Nat:=kM (c ^^^ 4294967295) b ^^^ 4294967295
def JA (b:Bytes):Nat:=sH 0 b
theorem Pv {c:Nat} (h:c < 4294967296):ct c < 4294967296:=by
 unfold ct
 split
 ·exact Nat.xor_lt_two_pow (n:=32) (by omega) (by omega)
 ·omega
theorem BO {c:Nat} (h:c < 4294967296):∀n,zb n c < 4294967296
 |0=>h
 |n+1=>Pv (BO h n)
theorem BE {a b:Nat} (ha:a < 4294967296) (hb:b < 4294967296):aH .xor .i64 (a:Int) (b:Int)=((a ^^^ b:Nat):Int):=by
 have h:=Nat.xor_lt_two_pow (n:=32) (x:=a) (y:=b) (by omega) (by omega)
 show IntKind.i64.wrap ((BitVec.ofInt 64 (a:Int) ^^^ BitVec.ofInt 64 (b:Int)).toNat:Int)=_
 rw[BitVec.toNat_xor,show BitVec.ofInt 64 (a:Int)=BitVec.ofNat 64 a from rfl,show BitVec.ofInt 64 (b:Int)=BitVec.ofNat 64 b from rfl,BitVec.toNat_ofNat,BitVec.toNat_ofNat,Nat.mod_eq_of_lt (by omega),Nat.mod_eq_of_lt (by omega)]
 exact aN (by omega) (by omega)
theorem AY {x y:Int} {a b:Nat} (hx:x=(a:Int)) (hy:y=(b:Int)) (ha:a < 4294967296) (hb:b < 4294967296):aH .xor .i64 x y=((a ^^^ b:Nat):Int):=by
 rw[hx,hy]
 exact BE ha hb
theorem um {a b:Nat} (ha:a < 4294967296) (hb:b < 4294967296):a ^^^ b < 4294967296:=Nat.xor_lt_two_pow (n:=32) (by omega) (by omega)
theorem Lj {c:Nat} (h:c < 4294967296):aH .and .i64 (c:Int) 1=((c % 2:Nat):Int):=by
 show IntKind.i64.wrap ((BitVec.ofInt 64 (c:Int) &&& BitVec.ofInt 64 1).toNat:Int)=_
 rw[BitVec.toNat_and,show BitVec.ofInt 64 (c:Int)=BitVec.ofNat 64 c from rfl,BitVec.toNat_ofNat,Nat.mod_eq_of_lt (by omega),show(BitVec.ofInt 64 1).toNat=2 ^ 1 - 1 from rfl,Nat.and_two_pow_sub_one_eq_mod]
 exact aN (by omega) (by omega)
theorem F5 {c:Nat} (h:c < 4294967296):word (c:Int)=true:=by rw[sW];omega
abbrev qh:Nat:=182
def qE:AF:=⟨1,3,[.tmp 2],(.seq (.ops [.i (.mov 2 (qb false))]) (.seq (.ops [qm 3 0, .i (.call 5 67 false [(.s 3),(qi 0),(qi 4294967295)]),qm 2 4]) .ret))⟩
theorem Aa:cd qh=some qE:=by kernel_rfl
theorem G4 (x:Int):VC cd qh (bJ [(false,[.int .i64 x])]) (fun rs _=>rs=bl (word x)):=by
 refine aa Aa rfl ?_
 simp(disch:=omega) [qE,VY]
 refine an (dN _ _ _) rfl rfl ?_
 simp(disch:=omega) [word,VY]
abbrev ox:Nat:=183
def oD:AF:=⟨1,4,[.tmp 2],(.seq (.ops [.i (.mov 2 (qi 0))]) (.seq (.seq (.ops [qm 3 0, .i (.bin 4 .rem (.s 3) (qi 2)), .i (.bin 5 .eql (.s 4) (qi 1))]) (.cond (.s 5) (.seq (.ops [qm 6 0, .i (.bin 7 .quo (.s 6) (qi 2)), .i (.bin 8 .xor (.s 7) (qi 3988292384)),qm 2 8]) .ret) .skip)) (.seq (.ops [qm 9 0, .i (.bin 10 .quo (.s 9) (qi 2)),qm 2 10]) .ret)))⟩
theorem xi:cd ox=some oD:=by kernel_rfl
theorem Fv (c:Nat) (h:c < 4294967296):VC cd ox (bJ [(false,[.int .i64 (c:Int)])]) (fun rs _=>rs=it (ct c)):=by
 have e1:Int.tmod (c:Int) 2=(c:Int) % 2:=Int.tmod_eq_emod_of_nonneg (by omega)
 have e2:Int.tdiv (c:Int) 2=(c:Int) / 2:=Int.tdiv_eq_ediv_of_nonneg (by omega)
 have e3:aH .xor .i64 ((c:Int) / 2) 3988292384=((c / 2 ^^^ 3988292384:Nat):Int):=AY (by omega) rfl (by omega) (by omega)
 have e4:=um (a:=c / 2) (b:=3988292384) (by omega) (by omega)
 refine aa xi rfl ?_
 simp(disch:=omega) [oD,e1,VY]
 refine aj (fun h1=> ?_) (fun h1=> ?_)
 ·have:c % 2=1:=by omega
  simp(disch:=omega) [e2,e3,ct,this,VY]
 ·have:¬c % 2=1:=by omega
  simp(disch:=omega) [e2,ct,this,VY]
abbrev sx:Nat:=248
def si:AF:=⟨1,5,[.tmp 2],(.seq (.ops [.i (.mov 2 (qi 0))]) (.seq (.seq (.ops [.i (.mov 4 (qi 0))]) (.block 0 (.loop [14,13,12,11,10,9,8,7,6,5,3] (.seq (.ops [.i (.bin 5 .lss (.s 4) (qi 8))]) (.seq (.cond (.s 5) .skip (.exit 0)) (.seq (.block 1 (.seq (.ops [qm 6 0, .i (.bin 7 .and (.s 6) (qi 1)),qm 3 7]) (.seq (.ops [qm 8 0, .i (.bin 9 .shr (.s 8) (.c (.val false [.int .u64 1]))),qm 0 9]) (.seq (.ops [qm 10 3, .i (.bin 11 .eql (.s 10) (qi 1))]) (.cond (.s 11) (.ops [qm 12 0, .i (.bin 13 .xor (.s 12) (qi 3988292384)),qm 0 13]) .skip))))) (.ops [.i (.bin 14 .add (.s 4) (qi 1)),qm 4 14]))))))) (.seq (.ops [qm 15 0,qm 2 15]) .ret)))⟩
theorem Bs:cd sx=some si:=by kernel_rfl
theorem Io (c:Nat) (h:c < 4294967296):VC cd sx (bJ [(false,[.int .i64 (c:Int)])]) (fun rs _=>rs=it (zb 8 c)):=by
 refine aa Bs rfl ?_
 simp(disch:=omega) [si,VY]
 refine ed (σ:=Nat) (f1:=_) (es0:=_) (by simp(disch:=omega) [VY];rfl) (by simp(disch:=omega) [VY];rfl) (fun i=> [(0, .val false [.int .i64 (zb i c:Int)]),(4, .val false [.int .i64 (i:Int)])]) (fun _=> []) (fun i g=>g+i=8) 0 8 (by simp(disch:=omega) [zb,VY]) (by simp(disch:=omega) [VY]) (by omega) ?_
 rintro i n g hg P hP
 simp(disch:=omega) [VY]
 refine aj (fun h1=> ?_) (fun h1=> ?_)
 ·have hl:=BO h i
  have e0:aH .and .i64 (zb i c:Int) 1=(zb i c:Int) % 2:=(Lj hl).trans (by omega)
  have e1:Int.fdiv (zb i c:Int) 2=(zb i c:Int) / 2:=Int.fdiv_eq_ediv_of_nonneg _ (by omega)
  have e3:aH .xor .i64 ((zb i c:Int) / 2) 3988292384=((zb i c / 2 ^^^ 3988292384:Nat):Int):=AY (by omega) rfl (by omega) (by omega)
  simp(disch:=omega) [e0,e1,e3,IntKind.bits,VY]
  refine aj (fun h2=> ?_) (fun h2=> ?_)
  ·have h3:zb i c % 2=1:=by omega
   simp(disch:=omega) [e3,VY]
   exact hP (i+1) (g - 1) _ _ (by omega) (by omega) (by simp(disch:=omega) [zb,ct,h3,e3,VY]) (by simp(disch:=omega) [VY])
  ·have h3:¬zb i c % 2=1:=by omega
   simp(disch:=omega) [VY]
   exact hP (i+1) (g - 1) _ _ (by omega) (by omega) (by simp(disch:=omega) [zb,ct,h3,VY]) (by simp(disch:=omega) [VY])
 ·have:i=8:=by omega
  subst this
  simp(disch:=omega) [VY]
theorem wT (b:Bytes):∀ {c:Nat},c < 4294967296→kM c b < 4294967296:=by
 unfold kM
 induction b with
 |nil=>exact fun h=>h
 |cons x r ih=>
  refine fun {c} h=> ?_
  have hx:x.toNat < 4294967296:=by have:=yf x;omega
  rw[List.foldl_cons]
  exact ih (BO (um h hx) 8)
theorem HD (b:Bytes) (x:UInt8) (c:Nat):kM c (b++ [x])=zb 8 (kM c b ^^^ x.toNat):=by
 unfold kM
 rw[List.foldl_append]
 rfl
theorem AL {b:Bytes} {i:Nat} (h:i < b.length) (c:Nat):kM c (b.take (i+1))=zb 8 (kM c (b.take i) ^^^ b[i].toNat):=by
 rw[List.take_add_one,List.getElem?_eq_getElem h]
 exact HD _ _ _
abbrev mV:Nat:=165
def mF:AF:=⟨2,5,[.tmp 4],(.seq (.ops [.i (.mov 4 (qi 0))]) (.seq (.seq (.ops [qm 7 0,qk 9 247 7, .i (.not 9 (.s 8))]) (.cond (.s 9) (.seq (.ops [.i (.mov 4 (qi 0))]) .ret) .skip)) (.seq (.ops [qm 10 0, .i (.bin 11 .xor (.s 10) (qi 4294967295)),qm 0 11]) (.seq (.seq (.ops [qm 12 1,qn 13 12, .i (.mov 14 (qi 0))]) (.block 0 (.loop [23,22,21,20,19,18,17,16,15,6] (.seq (.ops [qd 15 .lss 14 13]) (.seq (.cond (.s 15) .skip (.exit 0)) (.seq (.block 1 (.seq (.ops [.i (.iad 16 (.s 12) (.s 14) 1), .i (.ldh 17 (.s 16) 1 false),qm 6 17]) (.ops [qm 18 0,qm 19 6, .i (.cvi 20 .i64 (.s 19)),qd 21 .xor 18 20,qk 23 248 21,qm 0 22]))) (.ops [.i (.bin 23 .add (.s 14) (qi 1)),qm 14 23]))))))) (.seq (.ops [qm 24 0, .i (.bin 25 .xor (.s 24) (qi 4294967295)),qm 4 25]) .ret)))))⟩
theorem yJ:cd mV=some mF:=by kernel_rfl
theorem wD (c:Nat) (b:Bytes) (h:c < 4294967296) (hb:b.length≤1073741824):VC cd mV (bJ [(false,[.int .i64 (c:Int)]),(false,[.sl (bytes b)])]) (fun rs _=>rs=it (sH c b)):=by
 have h0:=um (a:=c) (b:=4294967295) h (by omega)
 have e0:aH .xor .i64 (c:Int) 4294967295=((c ^^^ 4294967295:Nat):Int):=AY rfl rfl h (by omega)
 refine aa yJ rfl ?_
 simp(disch:=omega) [mF,VY]
 refine an (tZ c) rfl rfl ?_
 simp(disch:=omega) [F5 h,e0,VY]
 refine ed (σ:=Nat) (f1:=_) (es0:=_) (by simp(disch:=omega) [VY];rfl) (by simp(disch:=omega) [VY];rfl) (fun i=> [(0, .val false [.int .i64 (kM (c ^^^ 4294967295) (b.take i):Int)]),(14, .val false [.int .i64 (i:Int)])]) (fun _=> []) (fun i g=>g+i=b.length) 0 b.length (by simp(disch:=omega) [kM,VY]) (by simp(disch:=omega) [VY]) (by omega) ?_
 rintro i n g hg P hP
 simp(disch:=omega) [VY]
 refine aj (fun h1=> ?_) (fun h1=> ?_)
 ·have hi:i < b.length:=by omega
  have hl:=wT (b.take i) h0
  have hx:=yf b[i]
  have e1:=aN (n:=(b[i].toNat:Int)) (by omega) (by omega)
  have e2:=BE hl (b:=b[i].toNat) (by omega)
  simp(disch:=omega) [bP hi,e1,e2,VY]
  refine cp (Io (kM (c ^^^ 4294967295) (b.take i) ^^^ b[i].toNat) (um hl (by omega))) ?_
  simp(disch:=omega) [VY]
  exact hP (i+1) (g - 1) _ _ (by omega) (by omega) (by simp(disch:=omega) [AL hi,VY]) (by simp(disch:=omega) [VY])
 ·have:i=b.length:=by omega
  subst this
  have hl:=wT b h0
  have e2:aH .xor .i64 (kM (c ^^^ 4294967295) b:Int) 4294967295=((kM (c ^^^ 4294967295) b ^^^ 4294967295:Nat):Int):=AY rfl rfl hl (by omega)
  simp(disch:=omega) [e2,sH,VY]
abbrev nA:Nat:=119
def nK:AF:=⟨2,6,[.tmp 4],(.seq (.ops [.i (.mov 4 (qi 0))]) (.seq (.seq (.ops [qm 9 0,qk 11 182 9, .i (.not 11 (.s 10))]) (.cond (.s 11) (.seq (.ops [.i (.mov 4 (qi 0))]) .ret) .skip)) (.seq (.ops [qm 12 0, .i (.bin 13 .xor (.s 12) (qi 4294967295)),qm 5 13]) (.seq (.seq (.ops [qm 14 1,qn 15 14, .i (.mov 16 (qi 0))]) (.block 0 (.loop [30,29,28,27,26,25,24,23,22,21,20,19,18,17,8,7] (.seq (.ops [qd 17 .lss 16 15]) (.seq (.cond (.s 17) .skip (.exit 0)) (.seq (.block 1 (.seq (.ops [.i (.iad 18 (.s 14) (.s 16) 1), .i (.ldh 19 (.s 18) 1 false),qm 7 19]) (.seq (.ops [qm 20 5,qm 21 7, .i (.cvi 22 .i64 (.s 21)),qd 23 .xor 20 22,qm 5 23]) (.seq (.ops [.i (.mov 8 (qi 0))]) (.block 2 (.loop [29,28,27,26,25,24] (.seq (.seq (.ops [qm 24 8, .i (.bin 25 .lss (.s 24) (qi 8))]) (.cond (.s 25) .skip (.exit 2))) (.seq (.block 3 (.ops [qm 28 5,qk 30 183 28,qm 5 29])) (.ops [qm 26 8, .i (.bin 27 .add (.s 26) (qi 1)),qm 8 27]))))))))) (.ops [.i (.bin 30 .add (.s 16) (qi 1)),qm 16 30]))))))) (.seq (.ops [qm 31 5, .i (.bin 32 .xor (.s 31) (qi 4294967295)),qm 4 32]) .ret)))))⟩
theorem yj:cd nA=some nK:=by kernel_rfl
theorem vE (c:Nat) (b:Bytes) (h:c < 4294967296) (hb:b.length≤1073741824):VC cd nA (bJ [(false,[.int .i64 (c:Int)]),(false,[.sl (bytes b)])]) (fun rs _=>rs=it (sH c b)):=by
 have h0:=um (a:=c) (b:=4294967295) h (by omega)
 have e0:aH .xor .i64 (c:Int) 4294967295=((c ^^^ 4294967295:Nat):Int):=AY rfl rfl h (by omega)
 refine aa yj rfl ?_
 simp(disch:=omega) [nK,VY]
 refine an (G4 c) rfl rfl ?_
 simp(disch:=omega) [F5 h,e0,VY]
 refine ed (σ:=Nat) (f1:=_) (es0:=_) (by simp(disch:=omega) [VY];rfl) (by simp(disch:=omega) [VY];rfl) (fun i=> [(5, .val false [.int .i64 (kM (c ^^^ 4294967295) (b.take i):Int)]),(16, .val false [.int .i64 (i:Int)])]) (fun _=> []) (fun i g=>g+i=b.length) 0 b.length (by simp(disch:=omega) [kM,VY]) (by simp(disch:=omega) [VY]) (by omega) ?_
 rintro i n g hg P hP
 simp(disch:=omega) [VY]
 refine aj (fun h1=> ?_) (fun h1=> ?_)
 ·have hi:i < b.length:=by omega
  have hl:=wT (b.take i) h0
  have hx:=yf b[i]
  have e1:=aN (n:=(b[i].toNat:Int)) (by omega) (by omega)
  have e2:=BE hl (b:=b[i].toNat) (by omega)
  have hy:=um hl (b:=b[i].toNat) (by omega)
  simp(disch:=omega) [bP hi,e1,e2,VY]
  refine ed (σ:=Nat) (f1:=_) (es0:=_) (by simp(disch:=omega) [VY];rfl) (by simp(disch:=omega) [VY];rfl) (fun j=> [(5, .val false [.int .i64 (zb j (kM (c ^^^ 4294967295) (b.take i) ^^^ b[i].toNat):Int)]),(8, .val false [.int .i64 (j:Int)])]) (fun _=> []) (fun j g=>g+j=8) 0 8 (by simp(disch:=omega) [zb,VY]) (by simp(disch:=omega) [VY]) (by omega) ?_
  rintro j n2 g2 hg2 P2 hP2
  simp(disch:=omega) [VY]
  refine aj (fun h2=> ?_) (fun h2=> ?_)
  ·simp(disch:=omega) [VY]
   refine cp (Fv (zb j (kM (c ^^^ 4294967295) (b.take i) ^^^ b[i].toNat)) (BO hy j)) ?_
   simp(disch:=omega) [VY]
   exact hP2 (j+1) (g2 - 1) _ _ (by omega) (by omega) (by simp(disch:=omega) [zb,VY]) (by simp(disch:=omega) [VY])
  ·have:j=8:=by omega
   subst this
   simp(disch:=omega) [VY]
   exact hP (i+1) (g - 1) _ _ (by omega) (by omega) (by simp(disch:=omega) [AL hi,VY]) (by simp(disch:=omega) [VY])
 ·have:i=b.length:=by omega
  subst this
  have hl:=wT b h0
  have e2:aH .xor .i64 (kM (c ^^^ 4294967295) b:Int) 4294967295=((kM (c ^^^ 4294967295) b ^^^ 4294967295:Nat):Int):=AY rfl rfl hl (by omega)
  simp(disch:=omega) [e2,sH,VY]
abbrev xY:Nat:=105
def xH:AF:=⟨1,3,[.tmp 2],(.seq (.ops [.i (.mov 2 (qi 0))]) (.seq (.ops [qm 3 0, .i (.call 5 165 false [(qi 0),(.s 3)]),qm 2 4]) .ret))⟩
theorem FQ:cd xY=some xH:=by kernel_rfl
theorem DT (b:Bytes) (hb:b.length≤1073741824):VC cd xY (bJ [(false,[.sl (bytes b)])]) (fun rs _=>rs=it (JA b)):=by
 refine aa FQ rfl ?_
 simp(disch:=omega) [xH,VY]
 refine cp (wD 0 b (by omega) hb) ?_
 simp(disch:=omega) [JA,VY]
abbrev y5:Nat:=69
def xZ:AF:=⟨1,3,[.tmp 2],(.seq (.ops [.i (.mov 2 (qi 0))]) (.seq (.ops [qm 3 0, .i (.call 5 119 false [(qi 0),(.s 3)]),qm 2 4]) .ret))⟩
theorem FB:cd y5=some xZ:=by kernel_rfl
theorem Dr (b:Bytes) (hb:b.length≤1073741824):VC cd y5 (bJ [(false,[.sl (bytes b)])]) (fun rs _=>rs=it (JA b)):=by
 refine aa FB rfl ?_
 simp(disch:=omega) [xZ,VY]
 refine cp (vE 0 b (by omega) hb) ?_
 simp(disch:=omega) [JA,VY]
end Go.Eng.F
