import Derived.Laws.StructEq
import Derived.Orders
import Derived.DataReads
import Derived.DataElems
import Derived.ChangeArms
import Derived.WalkKit
import Derived.ProofKit
import Derived.OpenShut
import Derived.ShutString
import Derived.ChangeOld
import Derived.Below
import Derived.Test.YtfackchfbefaiaaGreatGa
set_option linter.unusedVariables false
set_option linter.unusedSimpArgs false
namespace Go.Eng
section
variable {T:Ctx} {μ μ':Mu} {L:Nat→Nat} {f f':Fr} {h h':H} {w w':World} {act:Act}
variable {o:Oper} {K:Act→World→Prop} {Q:Exit→Act→World→Prop} {d:Nat}
theorem A6 {n b:Nat} (hr:eb (n * b+n)=true):n * b≤70368744177664∧n≤70368744177664:=by
 unfold eb at hr
 have:=of_decide_eq_true hr
 omega
theorem D7 {l c:Operand} (h:CH l c=true) (act:Act):act.eval l=act.eval c:=by
 unfold CH at h
 split at h
 ·simp at h;subst h;rfl
 ·simp at h;subst h;rfl
 ·simp at h
theorem NF (hi:cO T μ L f act.tmps h w) {t e:TypeId} {j:TypeInfo} {z:List C} (hz:zeroOf T.P e=some z) (ht:T.P.underlying t=some (.slice e)) (hj:T.P.info? e=some j) (hj0:0 < j.size)
 {x c:Operand} {y:X} (hs:CH x c=true) (hx:cX x=some y) (ho:o.dst=some d) (hop:o.op= .makeSlice t x c) (hd:d < T.I.nt∧T.I.env.lookup d≠some d)
 (hr:ai (.mks d e j.size j.bytes z y) f h=some (f',h')) (hk:bR T μ act f' h' K):o.wp T.P act w K Q:=by
 simp only[ai]at hr
 split at hr
 ·rename_i n he
  split at hr
  ·rename_i hc
   obtain⟨h0,hroom⟩:=hc
   simp only[Option.some.injEq,Prod.mk.injEq]at hr
   obtain⟨rfl,rfl⟩:=hr
   obtain⟨k1,k2⟩:=A6 hroom
   have hv:act.eval x= .int .i64 n:=bb hi.fp hx he
   obtain⟨it,zv,h1,h2,h3,h4⟩:=eL hz μ
   rw[hj]at h1
   cases h1
   have hzs:zv.cells.size=j.size:=by have:=h3.length;simp at this;omega
   have hb:(j.bytes:Int) * n≤281474976710656:=by
    have e1:n=(n.toNat:Int):=by omega
    rw[e1,←Int.natCast_mul,Nat.mul_comm]
    omega
   have hrun:=run_make (P:=T.P) w t e j zv ht hj h2 .i64 .i64 n n h0 (Int.le_refl _) hb (by omega)
   have hm:=Gv h3 n.toNat
   rw[hzs]at hm
   have hm':ah (CR μ) (List.replicate n.toNat z).flatten (madeCells zv.cells (n.toNat * j.size)).toList:=by
    unfold madeCells
    rw[hzs]
    exact hm
   have e1:=oX hm'.length
   exact oZ (c:= .sl h.length 0 n.toNat j.size) hi ho hd (v:= .slice (some ⟨w.heap.size,0,none⟩) n.toNat n.toNat) (arr:=madeCells zv.cells (n.toNat * j.size)) (ty:=e) (rest:= [])
    (by simp only[execOp,hop,←D7 hs,hv,Sem.run_bind,hrun,Result.andThen_ok];rfl) (by rw[e1];exact hm') (by rw[e1,List.append_nil])
    (fun μ' hm=>⟨_,_,n.toNat,hm,rfl,Nat.le_refl _, .inr rfl,by simp[size_madeCells]⟩) hk
  ·simp at hr
 ·simp at hr
theorem gR (hf:FP T μ L f act.tmps w) {lo:Option Operand} {l:Option X} (hl:yT lo=some l) {dflt:Nat} {b:Int} (hb:bound f l dflt=some b):
 (lo=none∧b=dflt)∨∃x k,lo=some x∧act.eval x= .int k b:=by
 cases lo with
 |none=>simp[yT]at hl;subst hl;simp[bound]at hb;exact .inl ⟨rfl,hb.symm⟩
 |some x=>
  simp only[yT]at hl
  split at hl
  ·rename_i y hy
   simp at hl
   subst hl
   simp only[bound]at hb
   split at hb
   ·rename_i k i he
    simp at hb
    subst hb
    exact .inr ⟨x,k,rfl,bb hf hy he⟩
   ·simp at hb
  ·simp at hl
theorem rm {P:Program} (w:World) (sl:Bool) (len cap:Nat) {lo hi:Option Value} {l u:Int} (hl:(lo=none∧l=0)∨∃k,lo=some (.int k l)) (hh:(hi=none∧u=len)∨∃k,hi=some (.int k u)) (h0:0≤l) (h1:l≤u) (h2:u≤len) (h3:len≤cap):
 (Instr.sliceBounds sl len cap lo hi none).run P w= .ok (l.toNat,u.toNat,cap) w:=by
 have hu:0≤u∧u≤(cap:Int):=⟨by omega,by omega⟩
 have hlu:0≤l∧l≤(u.toNat:Int):=⟨h0,by omega⟩
 rcases hl with⟨rfl,rfl⟩|⟨k,rfl⟩ <;>rcases hh with⟨rfl,rfl⟩|⟨k',rfl⟩
 ·simp[Instr.sliceBounds]
 ·simp[Instr.sliceBounds,Instr.sliceBound,asIntOf,hu]
 ·simp[Instr.sliceBounds,Instr.sliceBound,asIntOf]at hlu⊢;intro hh;omega
 ·simp[Instr.sliceBounds,Instr.sliceBound,asIntOf,hu]at hlu⊢;simp[hlu];intro hh;omega
theorem fJ {lo:Option Operand} {b:Int} {dflt:Nat} (hb:(lo=none∧b=dflt)∨∃x k,lo=some x∧act.eval x= .int k b):(lo.map act.eval=none∧b=dflt)∨∃k,lo.map act.eval=some (.int k b):=by
 rcases hb with⟨rfl,e⟩|⟨x,k,rfl,e⟩
 ·exact .inl ⟨rfl,e⟩
 ·exact .inr ⟨k,by simp[e]⟩
theorem nq {P:Program} {t e:TypeId} {j:TypeInfo} (ht:P.underlying t=some (.slice e)) (hj:P.info? e=some j) (w:World) (a:Option Addr) (len cap:Nat) {lo hi:Option Value} {l u:Int}
 (hl:(lo=none∧l=0)∨∃k,lo=some (.int k l)) (hh:(hi=none∧u=len)∨∃k,hi=some (.int k u)) (h0:0≤l) (h1:l≤u) (h2:u≤len) (h3:len≤cap):
 (Instr.sliceAt t (.slice a len cap) lo hi none).run P w= .ok (.slice (if cap=l.toNat then a else a.map (·.add (l.toNat * j.size))) (u.toNat - l.toNat) (cap - l.toNat)) w:=by
 simp[Instr.sliceAt,Instr.slice,run_underlying ht,rm w true len cap hl hh h0 h1 h2 h3,sizeOf,typeInfo,hj]
theorem Nh (hi:cO T μ L f act.tmps h w) {t e:TypeId} {j:TypeInfo} (ht:T.P.underlying t=some (.slice e)) (hj:T.P.info? e=some j) (hj0:0 < j.size)
 {x:Operand} {lo up:Option Operand} {y:X} {l u:Option X} (hx:cX x=some y) (hl:yT lo=some l) (hu:yT up=some u) (ho:o.dst=some d) (hop:o.op= .slice t x lo up none) (hd:d < T.I.nt∧T.I.env.lookup d≠some d)
 (hr:ai (.fb d j.size y l u) f h=some (f',h')) (hk:bR T μ act f' h' K):o.wp T.P act w K Q:=by
 simp only[ai]at hr
 split at hr
 ·rename_i id off len es he
  obtain⟨p,ad,cap,hm,hv,hle,ha,hlim⟩:=bb hi.fp hx he
  split at hr
  ·rename_i a b hla hub
   split at hr
   ·rename_i hc
    obtain⟨he0,h0,h1,h2⟩:=hc
    simp only[Option.some.injEq,Prod.mk.injEq]at hr
    obtain⟨rfl,rfl⟩:=hr
    have:=nq (P:=T.P) ht hj w (some ad) len cap (fJ (gR hi.fp hl hla)) (fJ (gR hi.fp hu hub)) h0 h1 h2 hle
    have hsub:(b - a).toNat=b.toNat - a.toNat:=by omega
    have hes:a.toNat * es=a.toNat * j.size:=by
     rcases he0 with rfl|h9
     ·rfl
     ·have:a.toNat=0:=by omega
      simp[this]
    refine gd (c:= .sl id (off+a.toNat * es) (b - a).toNat es) (v:= .slice (if cap=a.toNat then some ad else(some ad).map (·.add (a.toNat * j.size))) (b.toNat - a.toNat) (cap - a.toNat)) hi ho hd (by simp only[execOp,hop,hv,Sem.run_bind,Option.map_none,this,Result.andThen_ok];rfl) ?_ hk
    have hal:a.toNat≤cap:=by omega
    refine⟨p,if cap=a.toNat then ad else ad.add (a.toNat * j.size),cap - a.toNat,hm,?_,by omega,?_,?_⟩
    ·rw[hsub]
     split <;>simp
    ·by_cases hca:cap=a.toNat
     ·left;omega
     ·right
      rw[if_neg hca,hes]
      rcases ha with ha|ha
      ·omega
      ·rw[ha,fZ,Nat.add_assoc]
    ·have:a.toNat * es+(cap - a.toNat) * es=cap * es:=by rw[←Nat.add_mul];congr 1;omega
     omega
   ·simp at hr
  ·simp at hr
 ·rename_i he
  have hv:act.eval x= .slice none 0 0:=bb hi.fp hx he
  split at hr
  ·rename_i a b ha hb
   split at hr
   ·rename_i hc
    obtain⟨rfl,rfl⟩:=hc
    simp only[Option.some.injEq,Prod.mk.injEq]at hr
    obtain⟨rfl,rfl⟩:=hr
    have:=nq (P:=T.P) ht hj w none 0 0 (fJ (gR hi.fp hl ha)) (fJ (gR hi.fp hu hb)) (Int.le_refl _) (Int.le_refl _) (Int.le_refl _) (Nat.le_refl _)
    exact gd (c:= .nils) (v:= .slice none 0 0) hi ho hd (by simp only[execOp,hop,hv,Sem.run_bind,Option.map_none,this,Result.andThen_ok];rfl) rfl hk
   ·simp at hr
  ·simp at hr
 ·rename_i he
  obtain⟨ad,hv⟩:=bb hi.fp hx he
  split at hr
  ·rename_i a b ha hb
   split at hr
   ·rename_i hc
    obtain⟨rfl,rfl⟩:=hc
    simp only[Option.some.injEq,Prod.mk.injEq]at hr
    obtain⟨rfl,rfl⟩:=hr
    have:=nq (P:=T.P) ht hj w (some ad) 0 0 (fJ (gR hi.fp hl ha)) (fJ (gR hi.fp hu hb)) (Int.le_refl _) (Int.le_refl _) (Int.le_refl _) (Nat.le_refl _)
    exact gd (c:= .emp) (v:= .slice (some ad) 0 0) hi ho hd (by simp only[execOp,hop,hv,Sem.run_bind,Option.map_none,this,Result.andThen_ok];rfl) ⟨ad,rfl⟩ hk
   ·simp at hr
  ·simp at hr
 ·simp at hr
theorem Oe (hi:cO T μ L f act.tmps h w) {t:TypeId} (ht:T.P.underlying t=some .string)
 {x:Operand} {lo up:Option Operand} {y:X} {l u:Option X} (hx:cX x=some y) (hl:yT lo=some l) (hu:yT up=some u) (ho:o.dst=some d) (hop:o.op= .slice t x lo up none) (hd:d < T.I.nt∧T.I.env.lookup d≠some d)
 (hr:ai (.sls d y l u) f h=some (f',h')) (hk:bR T μ act f' h' K):o.wp T.P act w K Q:=by
 simp only[ai]at hr
 split at hr
 ·rename_i s he
  have hv:act.eval x= .string s:=bb hi.fp hx he
  split at hr
  ·rename_i a b hla hub
   split at hr
   ·rename_i hc
    obtain⟨h0,h1,h2⟩:=hc
    simp only[Option.some.injEq,Prod.mk.injEq]at hr
    obtain⟨rfl,rfl⟩:=hr
    have:=rm (P:=T.P) w false s.size s.size (fJ (gR hi.fp hl hla)) (fJ (gR hi.fp hu hub)) h0 h1 h2 (Nat.le_refl _)
    exact gd (c:= .str (s.extract a.toNat b.toNat)) (v:= .string (s.extract a.toNat b.toNat)) hi ho hd (by simp[execOp,hop,hv,Instr.sliceAt,Instr.slice,run_underlying ht,this]) rfl hk
   ·simp at hr
  ·simp at hr
 ·simp at hr
theorem NS (hi:cO T μ L f act.tmps h w) {t e:TypeId} {n:Nat} {j:TypeInfo} (ht:T.P.underlying t=some (.array n e)) (hj:T.P.info? e=some j) (hj0:0 < j.size) (hn:0 < n)
 {x:Operand} {y:X} (hx:cX x=some y) (ho:o.dst=some d) (hop:o.op= .slice t x none none none) (hd:d < T.I.nt∧T.I.env.lookup d≠some d)
 (hr:ai (.sla d y n j.size) f h=some (f',h')) (hk:bR T μ act f' h' K):o.wp T.P act w K Q:=by
 simp only[ai]at hr
 split at hr
 ·rename_i id q he
  split at hr
  ·rename_i ty cs hg
   split at hr
   ·rename_i hl
    simp only[Option.some.injEq,Prod.mk.injEq]at hr
    obtain⟨rfl,rfl⟩:=hr
    obtain⟨p,h1,h2⟩:=bb hi.fp hx he
    obtain⟨a,b,arr,c,dd,rest,q1,q2⟩:=hi.hp.own id p ty cs h1 hg
    have hlen:cs.length≤p.lim:=by have:=q1.length;simp at this;omega
    have:=rm (P:=T.P) w false n n (lo:=none) (hi:=none) (l:=0) (u:=n) (.inl ⟨rfl,rfl⟩) (.inl ⟨rfl,rfl⟩) (by omega) (by omega) (by omega) (Nat.le_refl _)
    have hn0:¬n=0:=by omega
    refine gd (c:= .sl id q n j.size) (v:= .slice (some ⟨p.fO,p.off+q,none⟩) n n) hi ho hd ?_ ⟨p,_,n,h1,rfl,Nat.le_refl _, .inr rfl,by omega⟩ hk
    simp[execOp,hop,h2,Instr.sliceAt,run_underlying ht,Instr.sureAddr,this,hn0,sizeOf,typeInfo,hj,fZ]
   ·simp at hr
  ·simp at hr
 ·simp at hr
theorem eT {b:Builtin} {c:Call} (hop:o.op= .call c) (hc:c.callee= .builtin b) {v:Value} {P:Program} (hr:(builtin b c.argTypes o.type (c.args.map fun| .const _=>true|_=>false) (c.args.map act.eval)).run P w= .ok (.value v) w'):
 (execOp act.eval o).run P w= .ok (.value v) w':=by
 simp only[execOp,hop,resolve,hc,Sem.run_bind,Sem.run_pure,Result.andThen_ok,invoke]
 exact hr
theorem Gk {α:Type} {a:Array α} {x:α} (h:a.toList= [x]):a= #[x]:=Array.toList_inj.1 h
theorem Ek {α:Type} {a:Array α} {x y:α} (h:a.toList= [x,y]):a= #[x,y]:=Array.toList_inj.1 h
theorem Ja (hi:cO T μ L f act.tmps h w) {c:Call} {t e:TypeId} {st:Bool} (ht:(st=false∧T.P.underlying t=some (.slice e))∨(st=true∧T.P.underlying t=some .string)) {x:Operand} {y:X} (hx:cX x=some y) (ho:o.dst=some d) (hop:o.op= .call c) (hc:c.callee= .builtin .len)
 (ha:c.args.toList= [x]) (hta:c.argTypes.toList= [t]) (hd:d < T.I.nt∧T.I.env.lookup d≠some d)
 (hr:ai (.len d st y) f h=some (f',h')) (hk:bR T μ act f' h' K):o.wp T.P act w K Q:=by
 have ha':=Gk ha
 have hta':=Gk hta
 have hsl:∀(ad:Option Addr) (n cap:Nat),st=false→act.eval x= .slice ad n cap→bR T μ act (f.set d (.val false [.int .i64 (n:Int)])) h K→o.wp T.P act w K Q:=by
  intro ad n cap hst hv hk
  refine gd (c:= .int .i64 n) (v:=goInt n) hi ho hd (eT hop hc ?_) rfl hk
  rw[ha',hta']
  rcases ht with⟨_,ht⟩|⟨e1,_⟩
  ·simp[builtin,Builtin.len_,hv,run_underlying ht]
  ·rw[hst]at e1;cases e1
 simp only[ai]at hr
 split at hr
 ·rename_i c he
  split at hr
  ·rename_i n hn
   simp only[Option.some.injEq,Prod.mk.injEq]at hr
   obtain⟨rfl,rfl⟩:=hr
   have hc:=bb hi.fp hx he
   unfold yx at hn
   split at hn
   ·simp at hn
    subst hn
    obtain⟨p,ad,cap,_,hv,_⟩:=hc
    exact hsl _ _ _ rfl hv hk
   ·simp at hn
    subst hn
    exact hsl _ 0 0 rfl hc hk
   ·simp at hn
    subst hn
    obtain⟨ad,hv⟩:=hc
    exact hsl _ 0 0 rfl hv hk
   ·simp at hn
  ·simp at hr
 ·rename_i s he
  simp only[Option.some.injEq,Prod.mk.injEq]at hr
  obtain⟨rfl,rfl⟩:=hr
  have hv:act.eval x= .string s:=bb hi.fp hx he
  refine gd (c:= .int .i64 s.size) (v:=goInt s.size) hi ho hd (eT hop hc ?_) rfl hk
  rw[ha',hta']
  rcases ht with⟨e1,_⟩|⟨_,ht⟩
  ·cases e1
  ·simp[builtin,Builtin.len_,hv,run_underlying ht]
 ·simp at hr
theorem LZ (hi:cO T μ L f act.tmps h w) {c:Call} {t e:TypeId} {n:Nat} (ht:T.P.underlying t=some (.array n e)) {x:Operand} (ho:o.dst=some d) (hop:o.op= .call c) (hc:c.callee= .builtin .len)
 (ha:c.args.toList= [x]) (hta:c.argTypes.toList= [t]) (hd:d < T.I.nt∧T.I.env.lookup d≠some d)
 (hr:ai (.mov d (.c (.val false [.int .i64 n]))) f h=some (f',h')) (hk:bR T μ act f' h' K):o.wp T.P act w K Q:=by
 have ha':=Gk ha
 have hta':=Gk hta
 simp[ai,ev]at hr
 obtain⟨rfl,rfl⟩:=hr
 refine gd (c:= .int .i64 n) (v:=goInt n) hi ho hd (eT hop hc ?_) rfl hk
 rw[ha',hta']
 simp[builtin,Builtin.len_,run_underlying ht]
theorem Mv (hi:cO T μ L f act.tmps h w) {c:Call} {mx:Bool} {x y:Operand} {a b:X} (hx:cX x=some a) (hy:cX y=some b) (ho:o.dst=some d) (hop:o.op= .call c) (hc:c.callee= .builtin (if mx then .max else .min))
 (ha:c.args.toList= [x,y]) (hd:d < T.I.nt∧T.I.env.lookup d≠some d)
 (hr:ai (.mm d mx a b) f h=some (f',h')) (hk:bR T μ act f' h' K):o.wp T.P act w K Q:=by
 have ha':=Ek ha
 simp only[ai]at hr
 split at hr
 ·rename_i p q he1 he2
  simp only[Option.some.injEq,Prod.mk.injEq]at hr
  obtain⟨rfl,rfl⟩:=hr
  have h1:act.eval x= .int .i64 p:=bb hi.fp hx he1
  have h2:act.eval y= .int .i64 q:=bb hi.fp hy he2
  refine gd (c:= .int .i64 (if mx then(if p < q then q else p)else(if q < p then q else p))) hi ho hd (eT hop hc (v:= .int .i64 (if mx then(if p < q then q else p)else(if q < p then q else p))) ?_) rfl hk
  rw[ha']
  cases mx
  ·simp[builtin,Builtin.min_,Builtin.min2,h1,h2]
  ·simp[builtin,Builtin.max_,Builtin.max2,h1,h2]
 ·simp at hr
structure Src (P:Program) (w:World) (esz m:Nat) (v:Value) (us:List Value):Prop where
 len:∀w':World,(Builtin.lenOf v).run P w'= .ok m w'
 cells:∀n,n≤m→∀w':World,w'.heap=w.heap→(Builtin.firstCells esz n v).run P w'= .ok (us.take (n * esz)).toArray w'
 size:us.length=m * esz
theorem EG (μ:Mu) (s:ByteArray):ah (CR μ) (jL s) (s.data.toList.map fun b=>Value.int .u8 (b.toNat:Int)):=by
 unfold jL
 induction s.data.toList with
 |nil=>trivial
 |cons b l ih=>exact⟨rfl,ih⟩
theorem AB {w w':World} (e:w'.heap=w.heap) (a:Addr):w'.cell? a=w.cell? a:=by simp[World.cell?,e]
theorem Ld (hh:HP T μ h w) {esz m:Nat} {c:C} {v:Value} {ys:List C} (hc:CR μ c v) (hs:nY h esz c=some (ys,m)):∃us,Src T.P w esz m v us∧ah (CR μ) ys us:=by
 cases c with
 |str s=>
  simp only[nY]at hs
  split at hs
  ·rename_i he
   subst he
   simp at hs
   obtain⟨rfl,rfl⟩:=hs
   have hv:v= .string s:=hc
   subst hv
   refine⟨_,⟨fun w'=>by simp[Builtin.lenOf],fun n hn w' _=> ?_,by simp⟩,EG μ s⟩
   simp only[Builtin.firstCells,Sem.run_pure,Nat.mul_one]
   congr 1
   apply Array.ext'
   simp[ByteArray.data_extract,List.extract_eq_take_drop,List.map_take]
  ·simp at hs
 |nils=>
  simp[nY]at hs
  obtain⟨rfl,rfl⟩:=hs
  have hv:v= .slice none 0 0:=hc
  subst hv
  exact⟨[],⟨fun w'=>by simp[Builtin.lenOf],fun n hn w' _=>by simp[Builtin.firstCells],by simp⟩,trivial⟩
 |emp=>
  simp[nY]at hs
  obtain⟨rfl,rfl⟩:=hs
  obtain⟨a,rfl⟩:=hc
  refine⟨[],⟨fun w'=>by simp[Builtin.lenOf],fun n hn w' _=> ?_,by simp⟩,trivial⟩
  have:n=0:=by omega
  subst this
  simp[Builtin.firstCells,loadCells,loadCellsFrom]
 |sl id off len e=>
  simp only[nY]at hs
  split at hs
  ·rename_i he
   split at hs
   ·rename_i cs hcs
    simp at hs
    obtain⟨rfl,rfl⟩:=hs
    rcases EK hh hc hcs with⟨h1,_⟩|⟨a,n,cap,us,h1,h2,h3,h4⟩
    ·cases h1
    ·rcases h4 with⟨h4,_⟩|⟨_,_,_,h4,h5⟩
     ·cases h4
     ·cases h4
      subst h1
      have hl:us.length=len * e:=by rw[←h2.length];exact h5
      have hle:len * e=len * esz:=by rcases he with rfl|rfl <;>simp
      refine⟨us,⟨fun w'=>by simp[Builtin.lenOf],fun k hk w' hw=> ?_,by rw[hl,hle]⟩,h2⟩
      have hle2:k * esz≤us.length:=by rw[hl,hle];exact Nat.mul_le_mul_right _ hk
      have:=run_firstCells_some (P:=T.P) w' esz k a len cap (us.take (k * esz)) (by simp;omega) (fun j u hj=>by
       rw[AB hw]
       rw[List.getElem?_take]at hj
       split at hj
       ·exact h3 j u hj
       ·simp at hj)
      exact this
   ·simp at hs
  ·simp at hs
 |_=>simp[nY]at hs
theorem J7 (hi:cO T μ L f act.tmps h w) {x:Operand} {y:X} (hx:cX x=some y) {esz m:Nat} {ys:List C} (hs:gm f h esz y=some (ys,m)):∃us,Src T.P w esz m (act.eval x) us∧ah (CR μ) ys us:=by
 have key:∀c,dt f y=some c→nY h esz c=some (ys,m)→∃us,Src T.P w esz m (act.eval x) us∧ah (CR μ) ys us:=fun c h1 h2=>Ld hi.hp (bb hi.fp hx h1) h2
 cases y with
 |s t=>
  simp only[gm]at hs
  split at hs
  ·rename_i cs n e he
   split at hs
   ·rename_i hc
    obtain⟨rfl,hl⟩:=hc
    simp at hs
    obtain⟨rfl,rfl⟩:=hs
    have hxt:x= .tmp t:=by
     cases x with
     |tmp u=>simp[cX]at hx;rw[hx]
     |const v=>cases hv:Pq v <;>simp[cX,hv]at hx
     |func g=>simp[cX]at hx
     |global g=>simp[cX]at hx
    subst hxt
    have hv:act.eval (.tmp t)= .slice (some ⟨L t,0,none⟩) n n:=by have:=hi.fp.slots t;rw[he]at this;exact this
    obtain⟨_,ty,arr,h1,h2⟩:=hi.fp.loc t cs (by rw[he];rfl)
    rw[hv]
    have hal:arr.toList.length=n * e:=by rw[←h2.length];exact hl
    refine⟨arr.toList,⟨fun w'=>by simp[Builtin.lenOf],fun k hk w' hw=> ?_,hal⟩,h2⟩
    have hle:k * e≤arr.toList.length:=by rw[hal];exact Nat.mul_le_mul_right _ hk
    exact run_firstCells_some (P:=T.P) w' e k ⟨L t,0,none⟩ n n (arr.toList.take (k * e)) (by rw[List.length_take];omega) (fun j u hj=>by
     rw[AB hw,fZ,Nat.zero_add]
     refine sc h1 ?_
     rw[List.getElem?_take]at hj
     split at hj
     ·exact hj
     ·simp at hj)
   ·simp at hs
  ·rename_i c he
   exact key c (by simp[dt,ev,he]) hs
  ·simp at hs
 |c v=>
  cases v with
  |val g cs=>
   cases g with
   |false=>
    match cs,hs with
    | [c],hs=>exact key c (by simp[dt,ev]) (by simpa[gm]using hs)
    | [],hs=>simp[gm]at hs
    |_::_::_,hs=>simp[gm]at hs
   |true=>simp[gm]at hs
  |_=>simp[gm]at hs
theorem BM {P:Program} {t u ty e:TypeId} {i:TypeInfo} (ht:P.underlying t=some (.slice e)) (hu:(∃e',P.underlying u=some (.slice e'))∨P.underlying u=some .string) (hi:P.info? e=some i)
 {w:World} {g sLen sCap m:Nat} {cur:Array Value} (hg:w.heap[g]? =some (.cells cur e (0,0))) {v:Value} {us:List Value} (hs:Src P w i.size m v us) (h1:∀u∈us,u.oneCell'=true)
 (hroom:sLen+m≤sCap) (hfit:sLen * i.size+us.length≤cur.size):
 (Builtin.append_ #[t,u] ty #[.slice (some ⟨g,0,none⟩) sLen sCap,v]).run P w= .ok (.slice (some ⟨g,0,none⟩) (sLen+m) sCap) (w.setRow g (cur.toList.take (sLen * i.size)++us++cur.toList.drop (sLen * i.size+us.length)).toArray):=by
 have hf:=hs.cells m (Nat.le_refl _) w rfl
 rw[List.take_of_length_le (by rw[hs.size];exact Nat.le_refl _)]at hf
 have hst:=run_storeCells_at P g (sLen * i.size) e us 0 cur w hg (by simpa using hfit) h1
 simp only[Nat.add_zero]at hst
 rcases hu with⟨e',hu⟩|hu
 ·simp[Builtin.append_,run_underlying ht,run_underlying hu,sizeOf,typeInfo,hi,hs.len,hroom,hf,Addr.add_lit,hst]
 ·simp[Builtin.append_,run_underlying ht,run_underlying hu,sizeOf,typeInfo,hi,hs.len,hroom,hf,Addr.add_lit,hst]
theorem kS {P:Program} {t u ty e:TypeId} {i:TypeInfo} (ht:P.underlying t=some (.slice e)) (hu:(∃e',P.underlying u=some (.slice e'))∨P.underlying u=some .string) (hi:P.info? e=some i)
 {w:World} {v:Value} {us:List Value} (hs:Src P w i.size 0 v us) (a:Option Addr):
 (Builtin.append_ #[t,u] ty #[.slice a 0 0,v]).run P w= .ok (.slice a 0 0) w:=by
 have hf:=hs.cells 0 (Nat.le_refl _) w rfl
 rw[Nat.zero_mul,List.take_zero]at hf
 rcases hu with⟨e',hu⟩|hu <;>cases a <;>
 simp[Builtin.append_,run_underlying ht,run_underlying hu,sizeOf,typeInfo,hi,hs.len,hf,storeCells]
theorem BS {P:Program} {t u ty e:TypeId} {i:TypeInfo} {z:Value} (ht:P.underlying t=some (.slice e)) (hu:(∃e',P.underlying u=some (.slice e'))∨P.underlying u=some .string) (hi:P.info? e=some i) (hz:i.zero=some z)
 {w:World} {a:Option Addr} {sLen sCap m:Nat} {olds:List Value} (ho:(Builtin.firstCells i.size sLen (.slice a sLen sCap)).run P w.drew= .ok olds.toArray w.drew) {v:Value} {us:List Value} (hs:Src P w i.size m v us)
 (hg:sCap < sLen+m) (h63:sLen+m≤9223372036854775807) (hfit:Builtin.nextslicecap (sLen+m) sCap * i.bytes≤281474976710656):
 (Builtin.append_ #[t,u] ty #[.slice a sLen sCap,v]).run P w= .ok (.slice (some ⟨w.heap.size,0,none⟩) (sLen+m) (grownCap w (sLen+m) sCap e))
   (w.drew.alloc (.cells ((olds++us).toArray++Builtin.zeroCells z.cells (grownCap w (sLen+m) sCap e - (sLen+m))) e)):=by
 have hn:¬(sLen+m≤sCap):=by omega
 have h63':¬(9223372036854775807 < ((sLen:Int)+(m:Int))):=by omega
 have h48':¬(281474976710656 < Builtin.nextslicecap (sLen+m) sCap * i.bytes):=by omega
 have hf:=hs.cells m (Nat.le_refl _) w.drew rfl
 rw[List.take_of_length_le (by rw[hs.size];exact Nat.le_refl _)]at hf
 rcases hu with⟨e',hu⟩|hu
 ·simp[Builtin.append_,run_underlying ht,run_underlying hu,sizeOf,typeInfo,zeroValue,hi,hz,hs.len,hn,h63',h48',Question.forced,hf,ho,newRow,grownCap]
  congr 2
  apply Array.ext'
  simp[List.append_assoc]
 ·simp[Builtin.append_,run_underlying ht,run_underlying hu,sizeOf,typeInfo,zeroValue,hi,hz,hs.len,hn,h63',h48',Question.forced,hf,ho,newRow,grownCap]
  congr 2
  apply Array.ext'
  simp[List.append_assoc]
end
end Go.Eng
namespace Go.Eng
section
variable {T:Ctx} {μ μ':Mu} {L:Nat→Nat} {f f':Fr} {h h':H} {w w':World} {act:Act}
variable {o:Oper} {K:Act→World→Prop} {Q:Exit→Act→World→Prop} {d:Nat}
theorem cO.Kx (hi:cO T μ L f act.tmps h w) {id ty q:Nat} {p:Pl} {cs vs:List C} {us:List Value} {arr:Array Value} (hm:μ id=some p) (hg:h[id]? =some (.own ty cs)) (ha:w.heap[p.fO]? =some (.cells arr ty (0,0)))
 (hq:ah (CR μ) cs (arr.toList.take cs.length)) (hv:ah (CR μ) vs us) (hl:q+vs.length≤cs.length):cO T μ L f act.tmps (h.set id (.own ty (aR cs q vs))) (w.setRow p.fO (aR arr.toList q us).toArray):=by
 have hla:cs.length≤arr.size:=by have:=hq.length;simp at this;omega
 have hul:=hv.length
 have hlen:(aR cs q vs).length=cs.length:=cM _ _ _
 have ht:(aR arr.toList q us).take cs.length=aR (arr.toList.take cs.length) q us:=by
  rw[du _ _ _ (by simp;omega),du _ _ _ (by simp;omega)]
  have e0:(arr.toList.take cs.length).take q=arr.toList.take q:=by rw[List.take_take];congr 1;omega
  rw[e0]
  have e1:(arr.toList.take q++us).length=q+us.length:=by simp;omega
  rw[List.take_append,e1]
  rw[List.take_of_length_le (by rw[e1];omega)]
  congr 1
  rw[List.drop_take]
 refine hi.E8 hm hg ha (by simp[cM]) (rest:=(aR arr.toList q us).drop cs.length) ?_ ?_
 ·rw[hlen]
  simp only[ht]
  exact ah.aR q hq hv
 ·rw[hlen];simp
theorem KV (hi:cO T μ L f act.tmps h w) (ho:o.dst=some d) (hd:d < T.I.nt∧T.I.env.lookup d≠some d) {e need cap esz:Nat} {arr:Array Value} {cs:List C} {rest:List Value} (hrun:(execOp act.eval o).run T.P w= .ok (.value (.slice (some ⟨w.heap.size,0,none⟩) need cap)) (w.drew.alloc (.cells arr e (0,0))))
 (hc:ah (CR μ) cs (arr.toList.take cs.length)) (hr:arr.toList=arr.toList.take cs.length++rest) (hle:need≤cap) (hsz:cap * esz≤arr.size) (dead:Option Nat)
 (hdead:∀id,dead=some id→id < h.length)
 (hk:bR T μ act (f.set d (.val false [.sl h.length 0 need esz])) ((match dead with|some id=>h.set id .dead|none=>h)++ [.own e cs]) K):o.wp T.P act w K Q:=by
 have hi':=hi.jG (jA.drew w (fun _=>False))
 obtain⟨h1,h2⟩:=hi'.Mk (cs:=cs) (arr:=arr) (ty:=e) hc hr
 refine iF hrun ?_
 rw[ho]
 have h3:=h1.Er (d:=d) (u:= .slice (some ⟨w.heap.size,0,none⟩) need cap) (g:=false) (cs:= [.sl h.length 0 need esz]) (by rw[h1.fp.nt];exact hd.1) hd.2
  ⟨_,rfl,⟨w.heap.size,0,arr.size⟩,_,cap,by simp only[World.drew,if_pos],rfl,hle, .inr rfl,by simpa using hsz⟩
 cases dead with
 |none=>exact hk _ L _ _ h3 h2 rfl
 |some id=>
  have h4:=h3.kill id
  rw[List.set_append_left _ _ (hdead id rfl)]at h4
  exact hk _ L _ _ h4 h2 rfl
theorem mI {c:Call} {t u:TypeId} {x y:Operand} (hop:o.op= .call c) (hc:c.callee= .builtin .append) (ha:c.args.toList= [x,y]) (hta:c.argTypes.toList= [t,u]) {P:Program} {v:Value}
 (hr:(Builtin.append_ #[t,u] o.type #[act.eval x,act.eval y]).run P w= .ok v w'):(execOp act.eval o).run P w= .ok (.value v) w':=by
 refine eT hop hc ?_
 rw[Ek ha,Ek hta]
 simp[builtin,hr]
theorem Jc (hi:cO T μ L f act.tmps h w) {c:Call} {t u e:TypeId} {j:TypeInfo} {z:List C} (ht:T.P.underlying t=some (.slice e)) (hu:(∃e',T.P.underlying u=some (.slice e'))∨T.P.underlying u=some .string) (hz:zeroOf T.P e=some z) (hj:T.P.info? e=some j) (hj0:0 < j.size)
 {x y:Operand} {a b:X} (hx:cX x=some a) (hy:cX y=some b) (ho:o.dst=some d) (hop:o.op= .call c) (hc:c.callee= .builtin .append) (ha:c.args.toList= [x,y]) (hta:c.argTypes.toList= [t,u]) (hd:d < T.I.nt∧T.I.env.lookup d≠some d)
 (hr:ai (.app d e j.size j.bytes a b) f h=some (f',h')) (hk:bR T μ act f' h' K):o.wp T.P act w K Q:=by
 obtain⟨it,zv,k1,k2,k3,k4⟩:=eL hz μ
 rw[hj]at k1
 cases k1
 have hzs:zv.cells.size=j.size:=by have:=k3.length;simp at this;omega
 have hgrow:∀(ad:Option Addr) (sLen sCap m:Nat) (olds us:List Value) (cs ys:List C),act.eval x= .slice ad sLen sCap→(Builtin.firstCells j.size sLen (.slice ad sLen sCap)).run T.P w.drew= .ok olds.toArray w.drew→Src T.P w j.size m (act.eval y) us→
  ah (CR μ) cs olds→ah (CR μ) ys us→olds.length=sLen * j.size→sCap < sLen+m→eb ((sLen+m) * j.bytes+(sLen+m))=true→∀(dead:Option Nat),(∀id,dead=some id→id < h.length)→
  bR T μ act (f.set d (.val false [.sl h.length 0 (sLen+m) j.size])) ((match dead with|some id=>h.set id .dead|none=>h)++ [.own e (cs++ys)]) K→o.wp T.P act w K Q:=by
  intro ad sLen sCap m olds us cs ys hv hf hs hcs hys hol hlt hroom dead hdead hk
  obtain⟨r1,r2⟩:=A6 hroom
  have hrun:=BS (P:=T.P) (t:=t) (u:=u) (ty:=o.type) ht hu hj k2 hf hs hlt (by omega) (growslice_fits (by omega) (by omega))
  rw[←hv]at hrun
  have hcap:=grownCap_ge w (sLen+m) sCap e
  have hall:=hcs.append hys
  have hlen:(cs++ys).length=(olds++us).length:=hall.length
  have htk:((olds++us).toArray++Builtin.zeroCells zv.cells (grownCap w (sLen+m) sCap e - (sLen+m))).toList.take (cs++ys).length=olds++us:=by
   rw[hlen]
   simp only[Array.toList_append,List.toList_toArray]
   exact List.take_left
  refine KV hi ho hd (mI hop hc ha hta hrun) (rest:=(Builtin.zeroCells zv.cells (grownCap w (sLen+m) sCap e - (sLen+m))).toList) (by rw[htk];exact hall) (by rw[htk];simp) hcap ?_ dead hdead hk
  simp only[Array.size_append,List.size_toArray,List.length_append,size_zeroCells,hzs,hol,hs.size]
  rw[←Nat.add_mul,←Nat.add_mul]
  exact Nat.mul_le_mul_right _ (by omega)
 simp only[ai]at hr
 split at hr
 ·rename_i ca ys m he hsrc
  obtain⟨us,hs,hys⟩:=J7 hi hy hsrc
  have hca:=bb hi.fp hx he
  split at hr
  ·have hv:act.eval x= .slice none 0 0:=hca
   split at hr
   ·rename_i h0
    subst h0
    simp only[Option.some.injEq,Prod.mk.injEq]at hr
    obtain⟨rfl,rfl⟩:=hr
    have:=kS (P:=T.P) (t:=t) (u:=u) (ty:=o.type) ht hu hj hs none
    rw[←hv]at this
    exact gd (c:= .nils) hi ho hd (mI hop hc ha hta this) hv hk
   ·rename_i h0
    split at hr
    ·rename_i hroom
     simp only[Option.some.injEq,Prod.mk.injEq]at hr
     obtain⟨rfl,rfl⟩:=hr
     refine hgrow none 0 0 m [] us [] ys hv (by simp[Builtin.firstCells]) hs trivial hys (by simp) (by omega) (by simpa using hroom) none (fun _ e=>by cases e) ?_
     simpa using hk
    ·simp at hr
  ·obtain⟨ad,hv⟩:=hca
   split at hr
   ·rename_i h0
    subst h0
    simp only[Option.some.injEq,Prod.mk.injEq]at hr
    obtain⟨rfl,rfl⟩:=hr
    have:=kS (P:=T.P) (t:=t) (u:=u) (ty:=o.type) ht hu hj hs (some ad)
    rw[←hv]at this
    exact gd (c:= .emp) hi ho hd (mI hop hc ha hta this) ⟨ad,hv⟩ hk
   ·rename_i h0
    split at hr
    ·rename_i hroom
     simp only[Option.some.injEq,Prod.mk.injEq]at hr
     obtain⟨rfl,rfl⟩:=hr
     refine hgrow (some ad) 0 0 m [] us [] ys hv (by simp[Builtin.firstCells,loadCells,loadCellsFrom]) hs trivial hys (by simp) (by omega) (by simpa using hroom) none (fun _ e=>by cases e) ?_
     simpa using hk
    ·simp at hr
  ·rename_i id off len es
   split at hr
   ·rename_i ty cs hg
    split at hr
    ·rename_i hcond
     obtain⟨rfl,rfl,rfl,hcl,hroom⟩:=hcond
     simp only[Option.some.injEq,Prod.mk.injEq]at hr
     obtain⟨rfl,rfl⟩:=hr
     obtain⟨p,ad,cap,hm,hv,hle,hadr,hlim⟩:=hca
     obtain⟨a0,b0,arr,c0,d0,rest,q1,q2⟩:=hi.hp.own id p ty cs hm hg
     have hidlt:=hi.hp.dom id p hm
     have hlim':cap * j.size≤p.lim:=by simpa using hlim
     have hcla:cs.length≤arr.size:=by
      have:=q1.length
      simp at this
      omega
     have hadr':cap=0∨ad=⟨p.fO,0,none⟩:=by
      rcases hadr with h0|h0
      ·exact .inl h0
      ·right;rw[h0,a0]
     by_cases hfit:len+m≤cap
     ·have hul:=hs.size
      have hsum:len * j.size+us.length≤arr.size:=by
       rw[hul,←Nat.add_mul,d0]
       exact Nat.le_trans (Nat.mul_le_mul_right _ hfit) hlim'
      have hlen2:(cs++ys).length=len * j.size+us.length:=by rw[List.length_append,hcl,hys.length]
      have hi2:cO T μ L f act.tmps (h.set id (.own ty (cs++ys))) (w.setRow p.fO (arr.toList.take (len * j.size)++us++arr.toList.drop (len * j.size+us.length)).toArray):=by
       have e1:(arr.toList.take (len * j.size)++us).length=(cs++ys).length:=by rw[hlen2];simp;omega
       refine hi.E8 hm hg c0 (rest:=arr.toList.drop (len * j.size+us.length)) ?_ ?_ ?_
       ·simp;omega
       ·have e2:((arr.toList.take (len * j.size)++us++arr.toList.drop (len * j.size+us.length)).toArray.toList.take (cs++ys).length)=arr.toList.take (len * j.size)++us:=by
         rw[List.toList_toArray,←e1]
         exact List.take_left
        rw[e2]
        rw[hcl]at q1
        exact q1.append hys
       ·rw[List.toList_toArray,←e1,List.take_left]
      have hget2:(h.set id (.own ty (cs++ys)))[id]? =some (.own ty (cs++ys)):=gQ hidlt
      obtain⟨h3,h4⟩:=hi2.rename hm hget2
      have hout:∀ad',(cap=0∨ad'=(⟨p.fO,0,none⟩:Addr))→CR (fun k=>if k=(h.set id (.own ty (cs++ys))).length then some p else μ k) (.sl h.length 0 (len+m) j.size) (.slice (some ad') (len+m) cap):=by
       intro ad' h0
       refine⟨p,ad',cap,by simp,rfl,hfit,?_,by simpa using hlim'⟩
       rcases h0 with h0|h0
       ·exact .inl h0
       ·right;rw[h0,a0]
      have hgo:∀v,(execOp act.eval o).run T.P w= .ok (.value v) (w.setRow p.fO (arr.toList.take (len * j.size)++us++arr.toList.drop (len * j.size+us.length)).toArray)→
       CR (fun k=>if k=(h.set id (.own ty (cs++ys))).length then some p else μ k) (.sl h.length 0 (len+m) j.size) v→o.wp T.P act w K Q:=by
       intro v hrun hcr
       refine iF hrun ?_
       rw[ho]
       have h5:=h3.Er (d:=d) (u:=v) (g:=false) (cs:= [.sl h.length 0 (len+m) j.size]) (by rw[h3.fp.nt];exact hd.1) hd.2 ⟨_,rfl,hcr⟩
       rw[List.set_set]at h5
       exact hk _ L _ _ h5 h4 rfl
      rcases hadr' with h0|h0
      ·have hl0:len=0:=by omega
       have hm0:m=0:=by omega
       subst hl0 hm0 h0
       have hus:us= []:=List.eq_nil_of_length_eq_zero (by simpa using hul)
       have hrun:=kS (P:=T.P) (t:=t) (u:=u) (ty:=o.type) ht hu hj hs (some ad)
       rw[←hv]at hrun
       refine hgo (act.eval x) ?_ (by rw[hv];exact hout ad (.inl rfl))
       have e1:=mI hop hc ha hta hrun
       have e2:(arr.toList.take (0 * j.size)++us++arr.toList.drop (0 * j.size+us.length)).toArray=arr:=by subst hus;simp
       rw[e2,setRow_self w p.fO arr ty (0,0) c0]
       exact e1
      ·subst h0
       have hrun:=BM (P:=T.P) (t:=t) (u:=u) (ty:=o.type) ht hu hj c0 hs (CR.uK hys) hfit hsum
       rw[←hv]at hrun
       exact hgo _ (mI hop hc ha hta hrun) (hout _ (.inr rfl))
     ·refine hgrow (some ad) len cap m (arr.toList.take cs.length) us cs ys hv ?_ hs q1 hys (by rw[←hcl];simp;omega) (by omega) hroom (some id) (fun k e=>by cases e;exact hidlt) hk
      refine run_firstCells_some (P:=T.P) w.drew j.size len ad len cap _ (by rw[←hcl];simp;omega) (fun k u hk=> ?_)
      rcases hadr' with h0|h0
      ·have:cs.length=0:=by rw[hcl];have:len=0:=by omega
                            subst this;simp
       rw[this]at hk
       simp at hk
      ·rw[h0,fZ,Nat.zero_add]
       refine sc (w:=w.drew) c0 ?_
       rw[List.getElem?_take]at hk
       split at hk
       ·exact hk
       ·simp at hk
    ·simp at hr
   ·simp at hr
  ·simp at hr
 ·simp at hr
theorem I9 {P:Program} {t u ty e:TypeId} {i:TypeInfo} (ht:P.underlying t=some (.slice e)) (hi:P.info? e=some i) {w w':World} {a:Addr} {dLen dCap m:Nat} {v:Value} {us:List Value} (hs:Src P w i.size m v us)
 (hst:(storeCells a (us.take (min m dLen * i.size))).run P w= .ok () w'):(Builtin.copy_ #[t,u] ty #[.slice (some a) dLen dCap,v]).run P w= .ok (goInt (min m dLen:Nat)) w':=by
 have hf:=hs.cells (Nat.min m dLen) (Nat.min_le_left _ _) w rfl
 have hst':(storeCells a (us.take (Nat.min m dLen * i.size))).run P w= .ok () w':=hst
 simp[Builtin.copy_,run_underlying ht,hs.len,sizeOf,typeInfo,hi,hf,hst']
theorem N9 (hi:cO T μ L f act.tmps h w) {c:Call} {t u e:TypeId} {j:TypeInfo} (ht:T.P.underlying t=some (.slice e)) (hj:T.P.info? e=some j) (hj0:0 < j.size)
 {x y:Operand} {a b:X} (hx:cX x=some a) (hy:cX y=some b) (ho:o.dst=some d) (hop:o.op= .call c) (hc:c.callee= .builtin .copy) (ha:c.args.toList= [x,y]) (hta:c.argTypes.toList= [t,u]) (hd:d < T.I.nt∧T.I.env.lookup d≠some d)
 (hr:ai (.cpy d j.size a b) f h=some (f',h')) (hk:bR T μ act f' h' K):o.wp T.P act w K Q:=by
 simp only[ai]at hr
 split at hr
 ·rename_i id off len es ys m he hsrc
  obtain⟨us,hs,hys⟩:=J7 hi hy hsrc
  split at hr
  ·rename_i ty cs hg
   split at hr
   ·rename_i hcond
    obtain⟨rfl,hl⟩:=hcond
    simp only[Option.some.injEq,Prod.mk.injEq]at hr
    obtain⟨rfl,rfl⟩:=hr
    obtain⟨p,ad,cap,hm,hv,hle,hadr,hlim⟩:=bb hi.fp hx he
    obtain⟨a0,b0,arr,c0,d0,rest,q1,q2⟩:=hi.hp.own id p ty cs hm hg
    have hcla:cs.length≤arr.size:=by have:=q1.length;simp at this;omega
    have hmin:min m len * j.size≤len * j.size:=Nat.mul_le_mul_right _ (Nat.min_le_right _ _)
    have hminm:min m len * j.size≤m * j.size:=Nat.mul_le_mul_right _ (Nat.min_le_left _ _)
    have hul:=hs.size
    have hyl:=hys.length
    have hvt:=hys.take (min m len * j.size)
    have h1:=hi.Kx (q:=off) hm hg c0 q1 hvt (by simp;omega)
    have hst:(storeCells ad (us.take (min m len * j.size))).run T.P w= .ok () (w.setRow p.fO (aR arr.toList off (us.take (min m len * j.size))).toArray):=by
     rcases hadr with h0|h0
     ·have:min m len=0:=by omega
      rw[this]
      simp only[Nat.zero_mul,List.take_zero,aR,storeCells,Array.toArray_toList,setRow_self w p.fO arr ty (0,0) c0]
      rfl
     ·have h2:=run_storeCells_at T.P p.fO off ty (us.take (min m len * j.size)) 0 arr w c0 (by simp;omega) (CR.uK hvt)
      simp only[Nat.add_zero]at h2
      rw[h0,a0,Nat.zero_add,du _ _ _ (by simp;omega)]
      exact h2
    have hrun:=I9 (P:=T.P) (t:=t) (u:=u) (ty:=o.type) (dCap:=cap) ht hj hs hst
    rw[←hv]at hrun
    refine iF (w':=w.setRow p.fO (aR arr.toList off (us.take (min m len * j.size))).toArray) (eT hop hc (v:=goInt (min m len:Nat)) ?_) ?_
    ·rw[Ek ha,Ek hta]
     simp[builtin,hrun]
    ·rw[ho]
     exact hk μ L _ _ (h1.Er (g:=false) (cs:= [.int .i64 ((min m len:Nat):Int)]) (by rw[h1.fp.nt];exact hd.1) hd.2 ⟨_,rfl,rfl⟩) (cf.refl _) rfl
   ·simp at hr
  ·simp at hr
 ·simp at hr
end
end Go.Eng
namespace Go.Eng
def dn:Option Nat→Nat
 |none=>0
 |some d=>d+1
def VR (μ:Mu):V→Value→Prop
 | .val g cs,r=>VG μ g cs r
 | .tup vs,r=>TG μ vs r
 |_,_=>False
theorem HP.ML {T T':Ctx} {μ:Mu} {h:H} {w:World} (hb:T'.base=T.base) (hw:T'.w0=T.w0) (hB:T'.B0=T.B0) (hh:HP T μ h w):HP T' μ h w:=by
 obtain⟨P,I,base,w0,B0⟩:=T
 obtain⟨P',I',base',w0',B0'⟩:=T'
 cases hb;cases hw;cases hB
 exact⟨hh.hos,hh.htape,hh.hout,hh.hsz,hh.hb,hh.fN,hh.dom,hh.own,hh.ro,hh.ex,hh.ownb,hh.rob⟩
def iI (P:Program) (call:dP):Prop:=
 ∀g vs h v h',call g vs h=some (v,h')→(∃fn,P.funcs[g]? =some fn∧(fn.name== "runtime.NumGoroutine")=false∧fn.body.isNone=false)∧
  ∀(T:Ctx) (μ:Mu) (w:World) (args:Array Value),T.P=P→HP T μ h w→ah (fun p u=>VG μ p.1 p.2 u) vs args.toList→
   Calls P g args w fun
    | .returned r,w'=>∃μ',cf μ μ'∧HP T μ' h' w'∧VR μ' v r
    |_,_=>False
section
variable {T:Ctx} {μ μ':Mu} {L:Nat→Nat} {f f':Fr} {h h':H} {w w':World} {act:Act}
variable {o:Oper} {K:Act→World→Prop} {Q:Exit→Act→World→Prop} {d:Nat}
def alive (μ:Mu) (h:H) (k:Nat):Prop:=∃id p ty cs,μ id=some p∧h[id]? =some (.own ty cs)∧p.fO=k
theorem HP.enter (hh:HP T μ h w):HP {T with w0:=w,B0:=alive μ h} μ h w where
 hos:=rfl
 htape:=rfl
 hout:=rfl
 hsz:=Nat.le_refl _
 hb:=Nat.le_trans hh.hb hh.hsz
 fN _ _ _:=rfl
 dom:=hh.dom
 own:=hh.own
 ro:=hh.ro
 ex:=hh.ex
 ownb id p ty cs h1 h2:= .inl ⟨id,p,ty,cs,h1,h2,rfl⟩
 rob k hk:=by
  obtain⟨id,p,ty,cs,h1,h2,rfl⟩:=hk
  exact(hh.own id p ty cs h1 h2).2.1
theorem cO.after (hi:cO T μ L f act.tmps h w) (hm:cf μ μ') (hh:HP {T with w0:=w,B0:=alive μ h} μ' h' w'):cO T μ' L f act.tmps h' w':=by
 have h0:=hi.hp
 have hlt:∀k,alive μ h k→T.B0 k∨T.w0.heap.size≤k:=fun k ⟨id,p,ty,cs,h1,h2,e⟩=>e▸h0.ownb id p ty cs h1 h2
 have hloc:∀s cs,loc (f.get s)=some cs→L s < w.heap.size∧¬alive μ h (L s):=fun s cs hs=>by
  obtain⟨_,ty,arr,h1,_⟩:=hi.fp.loc s cs hs
  exact⟨fA h1,fun⟨id,p,ty,ds,h1,h2,e⟩=>hi.sep s cs id p ty ds hs h1 h2 e⟩
 refine⟨⟨hh.hos.trans h0.hos,hh.htape.trans h0.htape,hh.hout.trans h0.hout,Nat.le_trans h0.hsz hh.hsz,h0.hb,fun k hk hB=> ?_,hh.dom,hh.own,hh.ro,hh.ex,fun id p ty cs h1 h2=> ?_,h0.rob⟩,?_,fun s cs id p ty ds hs h1 h2=> ?_⟩
 ·have:¬alive μ h k:=fun ha=>by
   rcases hlt k ha with h1|h1
   ·exact hB h1
   ·omega
  exact(hh.fN k (Nat.lt_of_lt_of_le hk h0.hsz) this).trans (h0.fN k hk hB)
 ·rcases hh.ownb id p ty cs h1 h2 with h3|h3
  ·exact hlt _ h3
  ·exact .inr (Nat.le_trans h0.hsz h3)
 ·exact hi.fp.world hm fun s cs hs=>hh.fN _ (hloc s cs hs).1 (hloc s cs hs).2
 ·obtain⟨k1,k2⟩:=hloc s cs hs
  rcases hh.ownb id p ty ds h1 h2 with h3|h3
  ·exact fun e=>k2 (e▸h3)
  ·have h3':w.heap.size≤p.fO:=h3
   omega
theorem GC (hf:FP T μ L f act.tmps w):∀ {xs:List Operand} {ys:List X} {vs:List (Bool×List C)},EV xs=some ys→args f ys=some vs→ah (fun p u=>VG μ p.1 p.2 u) vs (xs.map act.eval)
 | [],ys,vs,h1,h2=>by simp[EV]at h1;subst h1;simp[args]at h2;subst h2;trivial
 |x::xs,ys,vs,h1,h2=>by
  simp only[EV]at h1
  split at h1
  ·rename_i y ys' e1 e2
   simp at h1
   subst h1
   simp only[args]at h2
   split at h2
   ·rename_i v vs' e3 e4
    simp at h2
    subst h2
    exact⟨gx hf e1 e3,GC hf e2 e4⟩
   ·simp at h2
  ·simp at h1
theorem Di (hi:cO T μ L f act.tmps h w) {dst:Option Nat} {a:AI} (hd:kX T.I a dst=true) (ha:a.boxes=false) {v:V} {r:Value} (hv:VR μ v r∨v= .any):
 cO T μ L (eB f (dn dst) v) (act.put dst r).tmps h w:=by
 cases dst with
 |none=>exact hi
 |some d=>
  have hd':=au hd ha
  have hdt:d < act.tmps.size:=by rw[hi.fp.nt];exact hd'.1
  rcases hv with hv|rfl
  ·cases v with
   |val g cs=>exact hi.Er hdt hd'.2 hv
   |tup vs=>exact hi.put hdt hd'.2 hv rfl (fun _ _ e=>by cases e)
   |_=>exact hv.elim
  ·exact hi.IM _ hdt hd'.2
theorem put_defers (act:Act) (dst:Option Nat) (v:Value):(act.put dst v).defers=act.defers:=by cases dst <;>rfl
theorem GA (hi:cO T μ L f act.tmps h w) {call:dP} (hcall:iI T.P call) {c:Call} {g:Nat} {q:Bool} {xs:List X} {vs:List (Bool×List C)} {a:AI} {x:Operand} (hop:o.op= .call c) (hc:c.callee= .value x) (hx:act.eval x= .func (.func g) #[] #[]) (hxs:EV c.args.toList=some xs) (hvs:args f xs=some vs)
 (hd:kX T.I a o.dst=true) (ha:a.boxes=false)
 (hr:el call (dn o.dst) g q vs f h=some (f',h')) (hk:bR T μ act f' h' K):o.wp T.P act w K Q:=by
 unfold el at hr
 split at hr
 ·rename_i v h1 hcl
  split at hr
  ·simp only[Option.some.injEq,Prod.mk.injEq]at hr
   obtain⟨rfl,rfl⟩:=hr
   obtain⟨⟨fn,k1,k2,k3⟩,k4⟩:=hcall g vs h v h1 hcl
   have hargs:=GC hi.fp hxs hvs
   have hrun:(execOp act.eval o).run T.P w= .ok (.enter g (c.args.map act.eval)) w:=by
    have k2':¬fn.name= "runtime.NumGoroutine" :=by simpa using k2
    have k3':¬fn.body=none:=by intro e;simp[e]at k3
    simp[execOp,hop,resolve,hc,hx,Deferred.ofValue,invoke,callFunc,k1,k2',k3']
   unfold Oper.wp
   rw[hrun,Oper.upon_enter]
   refine Calls.mono (k4 {T with w0:=w,B0:=alive μ h} μ w _ rfl hi.hp.enter (by simpa using hargs)) fun e w'' he=> ?_
   cases e with
   |returned r=>
    obtain⟨μ',h2,h3,h4⟩:=he
    exact hk μ' L _ w'' (Di (hi.after h2 h3) hd ha (.inl h4)) h2 (put_defers _ _ _)
   |panicked _=>exact he.elim
   |outgrown=>exact he.elim
  ·simp at hr
 ·simp at hr
theorem G8 {x:Operand} (h:EY x=true):x= .const (.slice none 0 0):=by
 unfold EY at h
 split at h
 ·rfl
 ·simp at h
theorem sO {P:Program} {t:TypeId} {k:IntKind} (ht:P.underlying t=some (.int k)) {xs:Array Value} {off:Nat} {v:Value} (hx:xs[off]? =some v) (w:World):(part t xs off).run P w= .ok v w:=by
 simp[part,isAgg,run_underlying ht,hx]
theorem vm {P:Program} {μ:Mu} {m:Nat} {xs ys:Array Value} {w:World}:∀(fs:List Field) (i:Nat) (a b:List C) {r:Bool},Dq P i fs=true→fs.length=a.length→ah (CR μ) a (xs.toList.drop i)→ah (CR μ) b (ys.toList.drop i)→uR a b=some r→(Op.eqFields (m+1) xs ys fs).run P w= .ok r w
 | [],i,[],[],r,_,_,_,_,he=>by simp[uR]at he;subst he;simp[Op.eqFields]
 | [],i,[],_::_,r,_,_,_,_,he=>by simp[uR]at he
 |f::fs,i,[],b,r,_,hl,_,_,_=>by simp at hl
 | [],i,_::_,b,r,_,hl,_,_,_=>by simp at hl
 |f::fs,i,ca::a,[],r,_,_,_,_,he=>by simp[uR]at he
 |f::fs,i,ca::a,cb::b,r,hf,hl,ha,hb,he=>by
  simp only[Dq,Bool.and_eq_true,bne_iff_ne,ne_eq,beq_iff_eq]at hf
  obtain⟨⟨⟨hn,ht⟩,ho⟩,hr⟩:=hf
  simp only[uR]at he
  have hget:∀ {zs:Array Value} {c:C} {cs:List C},ah (CR μ) (c::cs) (zs.toList.drop i)→∃v,zs[i]? =some v∧CR μ c v∧ah (CR μ) cs (zs.toList.drop (i+1)):=by
   intro zs c cs hz
   cases hd:zs.toList.drop i with
   |nil=>rw[hd]at hz;exact hz.elim
   |cons v vs=>
    rw[hd]at hz
    have h1:zs.toList[i]? =some v:=by
     have:=List.getElem?_drop (xs:=zs.toList) (i:=i) (j:=0)
     rw[hd]at this
     simpa using this.symm
    have h2:zs.toList.drop (i+1)=vs:=by
     rw[←List.drop_drop,hd]
     rfl
    exact⟨v,by simpa using h1,hz.1,by rw[h2];exact hz.2⟩
  obtain⟨v1,e1,c1,r1⟩:=hget ha
  obtain⟨v2,e2,c2,r2⟩:=hget hb
  cases hx:OM ca cb with
  |none=>rw[hx]at he;simp at he
  |some p=>
   cases hy:uR a b with
   |none=>rw[hx,hy]at he;simp at he
   |some q=>
    rw[hx,hy]at he
    simp only[Option.some.injEq]at he
    have ih:=vm (P:=P) (m:=m) (w:=w) fs (i+1) a b hr (by simpa using hl) r1 r2 hy
    split at ht
    ·rename_i k hk
     cases ca <;>cases cb <;>simp only[OM]at hx <;>try (cases hx;done)
     split at hx
     ·rename_i hkk
      subst hkk
      simp only[Option.some.injEq]at hx
      simp only[CR]at c1 c2
      subst c1 c2
      simp only[Op.eqFields,ne_eq,hn,not_false_eq_true,if_true,Sem.run_bind,ho,sO hk e1,sO hk e2,Result.andThen_ok,run_equalIn_int _ _ _ _ k _ _ hk,Sem.run_ite]
      rw[hx]
      cases p
      ·simp at he⊢;rw[←he]
      ·simp at he⊢;rw[ih,he]
     ·cases hx
    ·cases ht
theorem Ij (hi:cO T μ L f act.tmps h w) {t u:TypeId} {op:BinOp} {neg:Bool} {fs:Array Field} (hneg:(op= .eql∧neg=false)∨(op= .neq∧neg=true)) (ht:T.P.underlying t=some (.struct fs)) (hf:Dq T.P 0 fs.toList=true) (hs:T.P.stoodInHeld t=false) (hg:T.P.eqGuardType T.P.depth t=false)
 {x y:Operand} {a b:X} (hx:cX x=some a) (hy:cX y=some b) (ho:o.dst=some d) (hop:o.op= .binOp op t x y u)
 (hd:d < T.I.nt∧T.I.env.lookup d≠some d) (hr:ai (.geq d fs.size neg a b) f h=some (f',h')) (hk:bR T μ act f' h' K):o.wp T.P act w K Q:=by
 simp only[ai]at hr
 split at hr
 ·rename_i p q he1 he2
  split at hr
  ·rename_i hl
   split at hr
   ·rename_i r he
    simp only[Option.some.injEq,Prod.mk.injEq]at hr
    obtain⟨rfl,rfl⟩:=hr
    obtain⟨arr1,h1,h2⟩:VG μ true p (act.eval x):=gx hi.fp hx he1
    obtain⟨arr2,h3,h4⟩:VG μ true q (act.eval y):=gx hi.fp hy he2
    have hfs:T.P.fieldsOf t=fs:=by unfold Program.fieldsOf;rw[ht]
    have hrun:∀w,(Op.equalIn 10000 t (.agg arr1) (.agg arr2)).run T.P w= .ok r w:=fun w=>by
     rw[run_equalIn_struct w 9999 t arr1 arr2 (by rw[hfs];exact ht) hs,hfs]
     exact vm fs.toList 0 p q hf (by simpa using hl.symm) (by simpa using h2) (by simpa using h4) he
    rcases hneg with⟨rfl,rfl⟩|⟨rfl,rfl⟩
    ·exact gd hi ho hd (v:= .bool r) (c:= .bool r) (jY hop (by rw[h1,h3,Sem.run_bind,run_eqGuard_agg _ _ _ _ _ _ _ hg,Result.andThen_ok,run_eql_struct,hrun];rfl)) rfl hk
    ·exact gd hi ho hd (v:= .bool (!r)) (c:= .bool (!r)) (jY hop (by rw[h1,h3,Sem.run_bind,run_eqGuard_agg _ _ _ _ _ _ _ hg,Result.andThen_ok,run_neq_struct,hrun];rfl)) rfl hk
   ·simp at hr
  ·simp at hr
 ·simp at hr
theorem Pw (hi:cO T μ L f act.tmps h w) {call:dP} {op:BinOp} {t u:TypeId} {x y:Operand} {a:AI} (hc:BB T.P d op t x y=some a) (ho:o.dst=some d) (hop:o.op= .binOp op t x y u) (hd:kX T.I a o.dst=true)
 (hr:da call a f h=some (f',h')) (hk:bR T μ act f' h' K):o.wp T.P act w K Q:=by
 rw[ho]at hd
 have key:∀ {a1 b1},cX x=some a1→cX y=some b1→AI.bin d (Ab op) a1 b1=a→o.wp T.P act w K Q:=by
  intro a1 b1 e1 e2 e3
  subst e3
  exact Om hi e1 e2 ho hop (au hd rfl) hr hk
 unfold BB at hc
 split at hc
 ·split at hc
  ·rename_i e1 e2;simp at hc;exact key e1 e2 hc
  ·simp at hc
 ·split at hc
  ·rename_i e1 e2;simp at hc;exact key e1 e2 hc
  ·simp at hc
 ·rename_i hu
  split at hc
  ·rename_i e1 e2;simp at hc;subst hc;exact JG hi (.inl ⟨rfl,rfl⟩) hu e1 e2 ho hop (au hd rfl) hr hk
  ·rename_i e1 e2;simp at hc;subst hc;exact JG hi (.inr ⟨rfl,rfl⟩) hu e1 e2 ho hop (au hd rfl) hr hk
  ·simp at hc
 ·rename_i e hu
  split at hc
  ·rename_i hn
   have:=G8 hn
   subst this
   split at hc
   ·rename_i e1;simp at hc;subst hc;exact GH hi (.inl ⟨rfl,rfl⟩) hu e1 ho hop (au hd rfl) hr hk
   ·rename_i e1;simp at hc;subst hc;exact GH hi (.inr ⟨rfl,rfl⟩) hu e1 ho hop (au hd rfl) hr hk
   ·simp at hc
  ·simp at hc
 ·rename_i fs hu
  split at hc
  ·rename_i hcond
   simp only[Bool.and_eq_true,Bool.not_eq_true']at hcond
   obtain⟨⟨q1,q2⟩,q3⟩:=hcond
   split at hc
   ·rename_i e1 e2;simp at hc;subst hc;exact Ij hi (.inl ⟨rfl,rfl⟩) hu q1 q2 q3 e1 e2 ho hop (au hd rfl) hr hk
   ·rename_i e1 e2;simp at hc;subst hc;exact Ij hi (.inr ⟨rfl,rfl⟩) hu q1 q2 q3 e1 e2 ho hop (au hd rfl) hr hk
   ·simp at hc
  ·simp at hc
 ·simp at hc
theorem IA (hi:cO T μ L f act.tmps h w) {call:dP} (hcall:iI T.P call) {q:Bool} {c:Call} {a:AI} (hc:sN T.P q (dn o.dst) c=some a) (hop:o.op= .call c) (hd:kX T.I a o.dst=true)
 (hr:da call a f h=some (f',h')) (hk:bR T μ act f' h' K):o.wp T.P act w K Q:=by
 unfold sN at hc
 split at hc
 ·rename_i g hcal
  split at hc
  ·rename_i xs hxs
   simp at hc
   subst hc
   simp only[da]at hr
   split at hr
   ·rename_i vs hvs
    exact GA hi hcall hop hcal rfl hxs hvs hd rfl hr hk
   ·simp at hr
  ·simp at hc
 ·rename_i x _ hcal
  split at hc
  ·rename_i y xs hy hxs
   simp at hc
   subst hc
   simp only[da]at hr
   split at hr
   ·rename_i g vs hg hvs
    exact GA hi hcall hop hcal (bb hi.fp hy hg) hxs hvs hd rfl hr hk
   ·simp at hr
  ·simp at hc
 ·rename_i b hcal
  cases hdst:o.dst with
  |none=>simp[hdst,dn]at hc
  |some d=>
   rw[hdst]at hd
   simp only[hdst,dn]at hc
   split at hc
   ·rename_i x t hargs htys
    split at hc
    ·rename_i e y hu hy;simp at hc;subst hc;exact Ja hi (.inl ⟨rfl,hu⟩) hy hdst hop hcal hargs htys (au hd rfl) hr hk
    ·rename_i y hu hy;simp at hc;subst hc;exact Ja (e:=0) hi (.inr ⟨rfl,hu⟩) hy hdst hop hcal hargs htys (au hd rfl) hr hk
    ·rename_i n e y hu hy;simp at hc;subst hc;exact LZ hi hu hdst hop hcal hargs htys (au hd rfl) hr hk
    ·simp at hc
   ·rename_i x y t u hargs htys
    split at hc
    ·rename_i e e' a1 b1 hu1 hu2 hx hy
     split at hc
     ·rename_i i z hinf hz
      split at hc
      ·rename_i h0;simp at hc;subst hc;exact Jc hi hu1 (.inl ⟨_,hu2⟩) hz hinf h0 hx hy hdst hop hcal hargs htys (au hd rfl) hr hk
      ·simp at hc
     ·simp at hc
    ·rename_i e a1 b1 hu1 hu2 hx hy
     split at hc
     ·rename_i i z hinf hz
      split at hc
      ·rename_i h0;simp at hc;subst hc;exact Jc hi hu1 (.inr hu2) hz hinf h0 hx hy hdst hop hcal hargs htys (au hd rfl) hr hk
      ·simp at hc
     ·simp at hc
    ·simp at hc
   ·rename_i x y t u hargs htys
    split at hc
    ·rename_i e a1 b1 hu1 hx hy
     split at hc
     ·rename_i i hinf
      split at hc
      ·rename_i h0;simp at hc;subst hc;exact N9 hi hu1 hinf h0 hx hy hdst hop hcal hargs htys (au hd rfl) hr hk
      ·simp at hc
     ·simp at hc
    ·simp at hc
   ·rename_i x y hargs
    split at hc
    ·rename_i a1 b1 hx hy;simp at hc;subst hc;exact Mv (mx:=false) hi hx hy hdst hop hcal hargs (au hd rfl) hr hk
    ·simp at hc
   ·rename_i x y hargs
    split at hc
    ·rename_i a1 b1 hx hy;simp at hc;subst hc;exact Mv (mx:=true) hi hx hy hdst hop hcal hargs (au hd rfl) hr hk
    ·simp at hc
   ·simp at hc
 ·simp at hc
theorem AH {x:Option Operand} (h:yT x=some none):x=none:=by
 cases x with
 |none=>rfl
 |some x=>simp only[yT]at h;split at h <;>simp at h
theorem MQ (hi:cO T μ L f act.tmps h w) {call:dP} (hcall:iI T.P call) {q:Bool} {a:AI} (hc:Fi T.P T.I q o=some a) (hd:kX T.I a o.dst=true)
 (hr:da call a f h=some (f',h')) (hk:bR T μ act f' h' K):o.wp T.P act w K Q:=by
 unfold Fi at hc
 split at hc
 ·rename_i d x ho hop
  rw[ho]at hd
  split at hc
  ·rename_i y hx
   split at hc
   ·rename_i hh;simp at hc;subst hc;exact Iw hi hx hh ho (.inl hop) (au hd rfl) hr hk
   ·simp at hc
  ·simp at hc
 ·rename_i d x ho hop
  rw[ho]at hd
  split at hc
  ·rename_i y hx
   split at hc
   ·rename_i hh;simp at hc;subst hc;exact Iw hi hx hh ho (.inr hop) (au hd rfl) hr hk
   ·simp at hc
  ·simp at hc
 ·rename_i d c x y ho hop
  rw[ho]at hd
  split at hc
  ·rename_i e1 e2 e3;simp at hc;subst hc;exact Lz hi e1 e2 e3 ho hop (au hd rfl) hr hk
  ·simp at hc
 ·rename_i d t ho hop
  rw[ho]at hd
  split at hc
  ·rename_i cs hz
   have ha:da call a f h=ai a f h:=by
    split at hc
    ·simp at hc;subst hc;rfl
    ·split at hc
     ·simp at hc;subst hc;rfl
     ·simp at hc
   rw[ha]at hr
   exact Ic hi hz ho hop hc hd hr hk
  ·simp at hc
 ·rename_i d t x ho hop
  rw[ho]at hd
  split at hc
  ·rename_i y hx
   have ha:da call a f h=ai a f h:=by
    split at hc
    ·simp at hc;subst hc;rfl
    ·split at hc
     ·simp at hc;subst hc;rfl
     ·simp at hc
   rw[ha]at hr
   exact N6 hi hx ho hop hc hd hr hk
  ·simp at hc
 ·rename_i d t ps ho hop
  rw[ho]at hd
  split at hc
  ·rename_i z fs hz hu
   split at hc
   ·rename_i qs hq
    split at hc
    ·rename_i hall;simp at hc;subst hc;exact Ku hi hz hu hq hall ho hop (au hd rfl) hr hk
    ·simp at hc
   ·simp at hc
  ·rename_i z n e hz hu
   split at hc
   ·rename_i j hj
    split at hc
    ·rename_i qs hq;simp at hc;subst hc;exact Le hi hz hu hj hq ho hop (au hd rfl) hr hk
    ·simp at hc
   ·simp at hc
  ·simp at hc
 ·rename_i d t len ps ho hop
  rw[ho]at hd
  split at hc
  ·rename_i e hu
   split at hc
   ·rename_i j z hj hz
    split at hc
    ·rename_i qs hq
     split at hc
     ·rename_i hcond
      split at hc
      ·rename_i h0
       subst h0
       split at hc
       ·rename_i hp;simp at hc;subst hc;exact NM hi hu hj hp ho hop (au hd rfl) hr hk
       ·simp at hc
      ·rename_i h0
       split at hc
       ·simp at hc;subst hc;exact Nf hi hz hu hj hq hcond.1 hcond.2 h0 ho hop (au hd rfl) hr hk
       ·simp at hc;subst hc;exact NU hi hz hu hj hq hcond.1 hcond.2 h0 ho hop (au hd rfl) hr hk
     ·simp at hc
    ·simp at hc
   ·simp at hc
  ·simp at hc
 ·rename_i d t x k ho hop
  rw[ho]at hd
  split at hc
  ·rename_i fs y hu hx
   split at hc
   ·rename_i fl hfl
    split at hc
    ·rename_i j hj
     split at hc
     ·simp at hc
     ·rename_i h0
      split at hc
      ·rename_i hh;simp at hc;subst hc;exact NR hi hu hfl hj h0 hx hh ho hop (au hd rfl) hr hk
      ·simp at hc
    ·simp at hc
   ·simp at hc
  ·simp at hc
 ·rename_i d t x i ho hop
  rw[ho]at hd
  split at hc
  ·rename_i e y j hu hx hj
   split at hc
   ·rename_i k hk2;simp at hc;subst hc;exact On hi hu hk2 hx hj ho hop (au hd rfl) hr hk
   ·simp at hc
  ·rename_i n e y j hu hx hj
   split at hc
   ·rename_i k hk2
    split at hc
    ·rename_i hcond;simp at hc;subst hc;exact MW hi hu hk2 hcond.1 hx hj hcond.2 ho hop (au hd rfl) hr hk
    ·simp at hc
   ·simp at hc
  ·simp at hc
 ·rename_i d t x ho hop
  rw[ho]at hd
  split at hc
  ·rename_i n g y hs hx
   split at hc
   ·simp at hc;subst hc;exact NG hi hs hx ho hop (au hd rfl) hr hk
   ·simp at hc;subst hc;exact NJ hi hs hx ho hop (au hd rfl) hr hk
  ·simp at hc
 ·rename_i t x v ho hop
  split at hc
  ·rename_i n g y u hs hx hv
   split at hc
   ·simp at hc;subst hc;exact M0 hi hs hx hv ho hop hr hk
   ·simp at hc;subst hc;exact N4 hi hs hx hv ho hop hr hk
  ·simp at hc
 ·rename_i d op t x y u ho hop
  exact Pw hi hc ho hop hd hr hk
 ·rename_i d op t x ho hop
  rw[ho]at hd
  split at hc
  ·rename_i y hx;simp at hc;subst hc;exact NK hi hx ho hop (au hd rfl) hr hk
  ·rename_i y hx;simp at hc;subst hc;exact M9 hi hx ho hop (au hd rfl) hr hk
  ·simp at hc
 ·rename_i d s t x ho hop
  rw[ho]at hd
  split at hc
  ·rename_i k0 k y hs ht hx;simp at hc;subst hc;exact NY hi hs ht hx ho hop (au hd rfl) hr hk
  ·rename_i e y hs ht hx
   split at hc
   ·rename_i he;simp at hc;subst hc;exact Ok hi hs he ht hx ho hop (au hd rfl) hr hk
   ·simp at hc
  ·simp at hc
 ·rename_i d t l c ho hop
  rw[ho]at hd
  split at hc
  ·rename_i hs
   split at hc
   ·rename_i e y hu hy
    split at hc
    ·rename_i j z hj hz
     split at hc
     ·rename_i h0;simp at hc;subst hc;exact NF hi hz hu hj h0 hs hy ho hop (au hd rfl) hr hk
     ·simp at hc
    ·simp at hc
   ·simp at hc
  ·simp at hc
 ·rename_i d t x lo up ho hop
  rw[ho]at hd
  split at hc
  ·rename_i e y l u hu hx hl hh
   split at hc
   ·rename_i j hj
    split at hc
    ·rename_i h0;simp at hc;subst hc;exact Nh hi hu hj h0 hx hl hh ho hop (au hd rfl) hr hk
    ·simp at hc
   ·simp at hc
  ·rename_i y l u hu hx hl hh;simp at hc;subst hc;exact Oe hi hu hx hl hh ho hop (au hd rfl) hr hk
  ·rename_i n e y hu hx hl hh
   split at hc
   ·rename_i j hj
    split at hc
    ·rename_i hcond
     simp at hc
     subst hc
     rw[AH hl,AH hh]at hop
     exact NS hi hu hj hcond.1 hcond.2 hx ho hop (au hd rfl) hr hk
    ·simp at hc
   ·simp at hc
  ·simp at hc
 ·rename_i d t x k ho hop
  rw[ho]at hd
  split at hc
  ·rename_i fs y hu hx
   split at hc
   ·rename_i fl hfl
    split at hc
    ·rename_i n g hs;simp at hc;subst hc;exact Nc hi hu hfl hs hx ho hop (au hd rfl) hr hk
    ·simp at hc
   ·simp at hc
  ·simp at hc
 ·rename_i d t x i ho hop
  rw[ho]at hd
  split at hc
  ·rename_i n e y j hu hx hj
   split at hc
   ·rename_i m g hs;simp at hc;subst hc;exact Nn hi hu hs hx hj ho hop (au hd rfl) hr hk
   ·simp at hc
  ·rename_i y j hu hx hj;simp at hc;subst hc;exact Nd hi hu hx hj ho hop (au hd rfl) hr hk
  ·simp at hc
 ·rename_i d x i ho hop
  rw[ho]at hd
  split at hc
  ·rename_i y hx;simp at hc;subst hc;exact N8 hi hx ho hop (au hd rfl) hr hk
  ·simp at hc
 ·rename_i d x ho hop
  rw[ho]at hd
  split at hc
  ·rename_i y hx
   split at hc
   ·rename_i hh;simp at hc;subst hc;exact Ny hi hx hh ho hop (au hd rfl) hr hk
   ·simp at hc
  ·simp at hc
 ·rename_i d c ho hop
  exact IA hi hcall (by rw[ho];exact hc) hop hd hr hk
 ·rename_i c ho hop
  exact IA hi hcall (by rw[ho];exact hc) hop hd hr hk
 ·simp at hc
end
end Go.Eng
namespace Go.Eng
theorem PT.set_comm:∀(k k':K) (f:PT) (v u:V),k≠k'→(f.set k v).set k' u=(f.set k' u).set k v
 | .z, .z,_,_,_,h=>absurd rfl h
 | .z, .o k', .leaf,v,u,_=>by simp[PT.set]
 | .z, .i k', .leaf,v,u,_=>by simp[PT.set]
 | .z, .o k', .node _ _ _,v,u,_=>by simp[PT.set]
 | .z, .i k', .node _ _ _,v,u,_=>by simp[PT.set]
 | .o k, .z, .leaf,v,u,_=>by simp[PT.set]
 | .i k, .z, .leaf,v,u,_=>by simp[PT.set]
 | .o k, .z, .node _ _ _,v,u,_=>by simp[PT.set]
 | .i k, .z, .node _ _ _,v,u,_=>by simp[PT.set]
 | .o k, .i k', .leaf,v,u,_=>by simp[PT.set]
 | .i k, .o k', .leaf,v,u,_=>by simp[PT.set]
 | .o k, .i k', .node _ _ _,v,u,_=>by simp[PT.set]
 | .i k, .o k', .node _ _ _,v,u,_=>by simp[PT.set]
 | .o k, .o k', .leaf,v,u,h=>by simp[PT.set,PT.set_comm k k' .leaf v u (fun e=>h (by rw[e]))]
 | .i k, .i k', .leaf,v,u,h=>by simp[PT.set,PT.set_comm k k' .leaf v u (fun e=>h (by rw[e]))]
 | .o k, .o k', .node l _ _,v,u,h=>by simp[PT.set,PT.set_comm k k' l v u (fun e=>h (by rw[e]))]
 | .i k, .i k', .node _ _ r,v,u,h=>by simp[PT.set,PT.set_comm k k' r v u (fun e=>h (by rw[e]))]
theorem Fr.set_comm (f:Fr) {s t:Nat} (v u:V) (h:s≠t):Fr.set (Fr.set f s v) t u=Fr.set (Fr.set f t u) s v:=PT.set_comm _ _ _ _ _ (fun e=>h (K.IW e))
abbrev Up:=Option (Nat×V)
def app (u:Up) (f:Fr):Fr:=
 match u with
 |none=>f
 |some (d,v)=>f.set d v
def bM (m:Nat) (g f:Fr):Prop:=∀s,m.testBit s=true→g.get s=f.get s
def HT (m:Nat) (u:Up):Prop:=∀d v,u=some (d,v)→m.testBit d=true
theorem bM.or {m n:Nat} {g f:Fr} (h:bM (m|||n) g f):bM m g f∧bM n g f:=
 ⟨fun s hs=>h s (by simp[Nat.testBit_or,hs]),fun s hs=>h s (by simp[Nat.testBit_or,hs])⟩
theorem bM.bit {t:Nat} {g f:Fr} (h:bM (2 ^ t) g f):g.get t=f.get t:=h t (by simp[Nat.testBit_two_pow])
theorem yl {g f:Fr} {x:X} (h:bM (cS x) g f):ev g x=ev f x:=by
 cases x with
 |s t=>simp only[ev,h.bit]
 |c v=>rfl
theorem jX {g f:Fr} {x:X} (h:bM (cS x) g f):pR g x=pR f x:=by simp only[pR,yl h]
theorem yc {g f:Fr} {s:Nat} {w:Bool} (h:bM (cS (.s s)) g f):gv g s w=gv f s w:=by
 have e:g.get s=f.get s:=h.bit
 simp only[gv,dt,pR,ev,e]
theorem jN {g f:Fr} {x:X} (h:bM (cS x) g f):dt g x=dt f x:=by simp only[dt,yl h]
theorem vB {g f:Fr}:∀ {ps:List (Nat×Nat×X)} {cs:List C},bM (CC ps) g f→eW g cs ps=eW f cs ps
 | [],_,_=>rfl
 |(o,z,x)::r,cs,h=>by
  have h1:=bM.or h
  simp only[eW,jX h1.1]
  split
  ·split
   ·exact vB h1.2
   ·rfl
  ·rfl
theorem kO {g f:Fr}:∀ {xs:List X},bM (rn xs) g f→args g xs=args f xs
 | [],_=>rfl
 |x::r,h=>by
  have h1:=bM.or h
  simp only[args,jX h1.1,kO h1.2]
theorem Dn {g f:Fr} {x:Option X} (h:bM (CO x) g f) (n:Nat):bound g x n=bound f x n:=by
 cases x with
 |none=>rfl
 |some x=>simp only[bound,jN (show bM (cS x) g f from h)]
theorem EI {g f:Fr} {x:X} (h:bM (cS x) g f) (k:H) (e:Nat):gm g k e x=gm f k e x:=by
 cases x with
 |s t=>simp only[gm,h.bit]
 |c v=>cases v with
  |val b cs=>cases b <;>rcases cs with _|⟨c,_|⟨_,_⟩⟩ <;>rfl
  |_=>rfl
def Sub (m n:Nat):Prop:=∀s,m.testBit s=true→n.testBit s=true
theorem Sub.refl (m:Nat):Sub m m:=fun _ h=>h
theorem Sub.l {m n k:Nat} (h:Sub m n):Sub m (n|||k):=fun s hs=>by simp[Nat.testBit_or,h s hs]
theorem Sub.r {m n k:Nat} (h:Sub m k):Sub m (n|||k):=fun s hs=>by simp[Nat.testBit_or,h s hs]
theorem bM.sub {m n:Nat} {g f:Fr} (h:bM n g f) (hs:Sub m n):bM m g f:=fun s e=>h s (hs s e)
def Local (rd wr:Nat) (r:Fr→Option (Fr×H)):Prop:=
 ∀f f' h',r f=some (f',h')→∃u:Up,HT wr u∧f'=app u f∧∀g,bM rd g f→r g=some (app u g,h')
theorem Bd (d:Nat) (v:V):HT (2 ^ d) (some (d,v)):=fun d' v' e=>by cases e;simp[Nat.testBit_two_pow]
theorem Is (m:Nat):HT m none:=fun _ _ e=>by cases e
theorem Jn (a:AI) (h:H):Local a.rd a.wr (fun f=>ai a f h):=by
 intro f f' h' hr
 cases a <;>simp only[ai]at hr <;>simp only[AI.rd,AI.wr]
 case call|clv|cle=>simp at hr
 case lal d cs=>
  split at hr
  ·simp at hr
  ·rename_i hn
   simp only[Option.some.injEq,Prod.mk.injEq]at hr
   obtain⟨rfl,rfl⟩:=hr
   refine⟨some (d,_),Bd _ _,rfl,fun g hg=> ?_⟩
   simp only[ai,hg.bit,app]
 case lbox d x=>
  split at hr
  ·simp at hr
  ·rename_i hn
   split at hr
   ·rename_i g0 cs he
    simp only[Option.some.injEq,Prod.mk.injEq]at hr
    obtain⟨rfl,rfl⟩:=hr
    refine⟨some (d,_),Bd _ _,rfl,fun g hg=> ?_⟩
    obtain⟨h1,h2⟩:=bM.or hg
    simp only[ai,h1.bit,jX h2,he,app]
   ·simp at hr
 case sth x v n=>
  repeat' split at hr
  all_goals try (simp at hr;done)
  simp only[Option.some.injEq,Prod.mk.injEq]at hr
  obtain⟨rfl,rfl⟩:=hr
  refine⟨none,Is _,rfl,fun g hg=> ?_⟩
  have h1:=bM.or hg
  simp only[ai,jN h1.1,jX h1.2,app, *]
  simp[*]
 all_goals
  (repeat' split at hr) <;>first
    |(simp at hr;done)
    |(simp only[Option.some.injEq,Prod.mk.injEq]at hr
      obtain⟨rfl,rfl⟩:=hr
      refine⟨some (_,_),Bd _ _,rfl,fun g hg=> ?_⟩
      have a1:∀x,Sub (cS x) _→ev g x=ev f x:=fun x hx=>yl (hg.sub hx)
      have a2:∀x,Sub (cS x) _→pR g x=pR f x:=fun x hx=>jX (hg.sub hx)
      have a3:∀x,Sub (cS x) _→dt g x=dt f x:=fun x hx=>jN (hg.sub hx)
      have a4:∀(x:X) (k:H) (e:Nat),Sub (cS x) _→gm g k e x=gm f k e x:=fun x k e hx=>EI (hg.sub hx) k e
      have a5:∀(x:Option X) (n:Nat),Sub (CO x) _→bound g x n=bound f x n:=fun x n hx=>Dn (hg.sub hx) n
      have a6:∀(ps:List (Nat×Nat×X)) (cs:List C),Sub (CC ps) _→eW g cs ps=eW f cs ps:=fun ps cs hx=>vB (hg.sub hx)
      have a7:∀t:Nat,Sub (2 ^ t) _→g.get t=f.get t:=fun t hx=>(hg.sub hx).bit
      simp(maxDischargeDepth:=6) only[ai,app,a1,a2,a3,a4,a5,a6,a7,Sub.refl,Sub.l,Sub.r, *]
      try simp[*]
      done)
    |skip
def Pn (d:Nat) (v:V):Up:=
 match d with
 |0=>none
 |d+1=>some (d,v)
theorem ke (f:Fr) (d:Nat) (v:V):eB f d v=app (Pn d v) f:=by cases d <;>rfl
theorem CD (d:Nat) (v:V):HT (Ap d) (Pn d v):=by
 intro d' v' e
 cases d with
 |zero=>cases e
 |succ d=>cases e;simp[Ap,Nat.testBit_two_pow]
theorem HT.sub {m n:Nat} {u:Up} (h:HT m u) (hs:Sub m n):HT n u:=fun d v e=>hs d (h d v e)
section
variable {call:dP}
theorem tI {d g:Nat} {q:Bool} {vs:List (Bool×List C)} {f f':Fr} {h h':H} (hr:el call d g q vs f h=some (f',h')):
 ∃u:Up,HT (Ap d) u∧f'=app u f∧∀k,el call d g q vs k h=some (app u k,h'):=by
 unfold el at hr
 split at hr
 ·rename_i v h1 hc
  split at hr
  ·rename_i hq
   simp only[Option.some.injEq,Prod.mk.injEq]at hr
   obtain⟨rfl,rfl⟩:=hr
   refine⟨Pn d v,CD _ _,ke _ _ _,fun k=> ?_⟩
   simp only[el,hc]
   rw[if_pos hq,ke]
  ·simp at hr
 ·simp at hr
theorem zo {d g e:Nat} {vs:List (Bool×List C)} {f f':Fr} {h h':H} (hr:fo call d g e vs f h=some (f',h')):
 ∃u:Up,HT (Ap d) u∧f'=app u f∧∀k,fo call d g e vs k h=some (app u k,h'):=by
 unfold fo at hr
 split at hr
 ·rename_i v h1 hc
  split at hr
  ·rename_i hq
   simp only[Option.some.injEq,Prod.mk.injEq]at hr
   obtain⟨rfl,rfl⟩:=hr
   refine⟨Pn d v,CD _ _,ke _ _ _,fun k=> ?_⟩
   simp only[fo,hc]
   rw[if_pos hq,ke]
  ·simp at hr
 ·simp at hr
theorem GZ (a:AI) (ha:∀d g q xs,a≠ .call d g q xs) (hb:∀d q x xs,a≠ .clv d q x xs) (hc:∀d g e xs,a≠ .cle d g e xs) (f:Fr) (h:H):da call a f h=ai a f h:=by
 cases a <;>first|rfl|exact absurd rfl (ha _ _ _ _)|exact absurd rfl (hb _ _ _ _)|exact absurd rfl (hc _ _ _ _)
theorem xE (a:AI) (h:H):Local a.rd a.wr (fun f=>da call a f h):=by
 by_cases h1:∃d g q xs,a= .call d g q xs
 ·obtain⟨d,g,q,xs,rfl⟩:=h1
  intro f f' h' hr
  simp only[da]at hr
  split at hr
  ·rename_i vs hvs
   obtain⟨u,k1,k2,k3⟩:=tI hr
   refine⟨u,k1,k2,fun g hg=> ?_⟩
   simp only[da,kO (show bM (rn xs) g f from hg),hvs,k3]
  ·simp at hr
 ·by_cases h2:∃d q x xs,a= .clv d q x xs
  ·obtain⟨d,q,x,xs,rfl⟩:=h2
   intro f f' h' hr
   simp only[da]at hr
   split at hr
   ·rename_i g vs he hvs
    obtain⟨u,k1,k2,k3⟩:=tI hr
    refine⟨u,k1,k2,fun g hg=> ?_⟩
    have hh:=bM.or (show bM (cS x|||rn xs) g f from hg)
    simp only[da,kO hh.2,jN hh.1,he,hvs,k3]
   ·simp at hr
  ·by_cases h3:∃d g e xs,a= .cle d g e xs
   ·obtain⟨d,g,e,xs,rfl⟩:=h3
    intro f f' h' hr
    simp only[da]at hr
    split at hr
    ·rename_i vs hvs
     obtain⟨u,k1,k2,k3⟩:=zo hr
     refine⟨u,k1,k2,fun g hg=> ?_⟩
     simp only[da,kO (show bM (rn xs) g f from hg),hvs,k3]
    ·simp at hr
   ·have:∀f,da call a f h=ai a f h:=fun f=>GZ a (fun d g q xs e=>h1 ⟨d,g,q,xs,e⟩) (fun d q x xs e=>h2 ⟨d,q,x,xs,e⟩) (fun d g k xs e=>h3 ⟨d,g,k,xs,e⟩) f h
    simp only[this]
    exact Jn a h
theorem ry (it:IT) (h:H):Local it.rd it.wr (fun f=>cC call it f h):=by
 cases it with
 |i a=>exact xE a h
 |g s b d a=>
  intro f f' h' hr
  simp only[cC]at hr
  split at hr
  ·rename_i b' he
   split at hr
   ·rename_i hb
    obtain⟨u,k1,k2,k3⟩:=xE (call:=call) a h f f' h' hr
    refine⟨u,k1.sub (Sub.r (Sub.refl _)),k2,fun g hg=> ?_⟩
    have hh:=bM.or (show bM (2 ^ s|||a.rd) g f from hg)
    simp only[cC,yc (show bM (cS (.s s)) g f from hh.1),he,if_pos hb]
    exact k3 g hh.2
   ·rename_i hb
    simp only[Option.some.injEq,Prod.mk.injEq]at hr
    obtain⟨rfl,rfl⟩:=hr
    refine⟨Pn d (.tup []),(CD _ _).sub (Sub.l (Sub.refl _)),ke _ _ _,fun g hg=> ?_⟩
    have hh:=bM.or (show bM (2 ^ s|||a.rd) g f from hg)
    simp only[cC,yc (show bM (cS (.s s)) g f from hh.1),he,if_neg hb,ke]
  ·simp at hr
def AI.ref (f:Fr):AI→Option Nat
 | .ldh _ x _ _| .lde _ x _ _ _| .sla _ x _ _=>match dt f x with
   |some (.ptr id _)=>some id
   |_=>none
 | .cbs _ x=>match dt f x with
   |some (.sl id _ _ _)=>some id
   |_=>none
 |_=>none
def IT.ref (f:Fr):IT→Option Nat
 | .i a=>a.ref f
 | .g s w _ a=>match gv f s w with
   |some (.bool b)=>if b=w then a.ref f else none
   |_=>none
theorem cg {h k:H} {id:Nat} (e:k[id]? =h[id]?):k.cells id=h.cells id:=by unfold H.cells;rw[e]
theorem Fs {h k:H} {id o l e:Nat} (he:k[id]? =h[id]?):k.slice (.sl id o l e)=h.slice (.sl id o l e):=by simp only[H.slice,cg he]
theorem Fw {h k:H} {c:C} (hc:∀id o l e,c= .sl id o l e→k[id]? =h[id]?):k.bytes c=h.bytes c:=by
 cases c with
 |sl id o l e=>simp only[H.bytes,Fs (hc id o l e rfl)]
 |_=>rfl
theorem JS (a:AI) (hs:a.sq=false) {f f':Fr} {h h':H} (hr:ai a f h=some (f',h')):
 h'=h∧(∀k:H,(∀id,a.ref f=some id→k[id]? =h[id]?)→ai a f k=some (f',k))∧∀id,a.ref f=some id→id < h.length:=by
 cases a <;>simp[AI.sq]at hs <;>simp only[ai]at hr
 case ldh d x n g=>
  split at hr
  ·rename_i id o he
   split at hr
   ·rename_i cs hc
    split at hr
    ·rename_i hl
     simp only[Option.some.injEq,Prod.mk.injEq]at hr
     obtain⟨rfl,rfl⟩:=hr
     refine⟨rfl,fun k hk=> ?_,fun id' e=> ?_⟩
     ·have:=hk id (by simp[AI.ref,he])
      simp only[ai,he,cg this,hc,if_pos hl]
     ·simp[AI.ref,he]at e
      subst e
      unfold H.cells at hc
      by_cases hlt:id < h.length
      ·exact hlt
      ·rw[List.getElem?_eq_none (by omega)]at hc;simp at hc
    ·simp at hr
   ·simp at hr
  ·simp at hr
 case lde d x n g e=>
  split at hr
  ·rename_i id o he
   split at hr
   ·rename_i ty cs hc
    split at hr
    ·rename_i hl
     simp only[Option.some.injEq,Prod.mk.injEq]at hr
     obtain⟨rfl,rfl⟩:=hr
     refine⟨rfl,fun k hk=> ?_,fun id' e'=> ?_⟩
     ·have:=hk id (by simp[AI.ref,he])
      simp only[ai,he,this,hc,if_pos hl]
     ·simp[AI.ref,he]at e'
      subst e'
      exact(List.getElem?_eq_some_iff.1 hc).1
    ·simp at hr
   ·simp at hr
  ·simp at hr
 case sla d x n g=>
  split at hr
  ·rename_i id o he
   split at hr
   ·rename_i ty cs hc
    split at hr
    ·rename_i hl
     simp only[Option.some.injEq,Prod.mk.injEq]at hr
     obtain⟨rfl,rfl⟩:=hr
     refine⟨rfl,fun k hk=> ?_,fun id' e=> ?_⟩
     ·have:=hk id (by simp[AI.ref,he])
      simp only[ai,he,this,hc,if_pos hl]
     ·simp[AI.ref,he]at e
      subst e
      exact(List.getElem?_eq_some_iff.1 hc).1
    ·simp at hr
   ·simp at hr
  ·simp at hr
 case cbs d x=>
  split at hr
  ·rename_i c he
   split at hr
   ·rename_i cs hc
    split at hr
    ·rename_i b hb
     simp only[Option.some.injEq,Prod.mk.injEq]at hr
     obtain⟨rfl,rfl⟩:=hr
     refine⟨rfl,fun k hk=> ?_,fun id' e=> ?_⟩
     ·have:k.bytes c=h.bytes c:=Fw fun id o l e' e2=>hk id (by subst e2;simp[AI.ref,he])
      simp only[ai,he,this,hc,hb]
     ·cases c with
      |sl id o l e'=>
       simp[AI.ref,he]at e
       subst e
       simp only[H.bytes]at hc
       split at hc
       ·simp only[H.slice]at hc
        split at hc
        ·rename_i cs' hc'
         unfold H.cells at hc'
         by_cases hlt:id < h.length
         ·exact hlt
         ·rw[List.getElem?_eq_none (by omega)]at hc';simp at hc'
        ·simp at hc
       ·simp at hc
      |_=>simp[AI.ref,he]at e
    ·simp at hr
   ·simp at hr
  ·simp at hr
 all_goals
  (repeat' split at hr) <;>first
    |(simp at hr;done)
    |(simp only[Option.some.injEq,Prod.mk.injEq]at hr
      obtain⟨rfl,rfl⟩:=hr
      refine⟨rfl,fun k _=> ?_,fun id e=>by simp[AI.ref]at e⟩
      simp only[ai, *]
      try simp[*]
      done)
    |skip
theorem yp (a:AI) (hs:a.sq=false) {f f':Fr} {h h':H} (hr:da call a f h=some (f',h')):
 h'=h∧(∀k:H,(∀id,a.ref f=some id→k[id]? =h[id]?)→da call a f k=some (f',k))∧∀id,a.ref f=some id→id < h.length:=by
 have:∀k,da call a f k=ai a f k:=fun k=>GZ a (fun d g q xs e=>by subst e;simp[AI.sq]at hs) (fun d q x xs e=>by subst e;simp[AI.sq]at hs) (fun d g k xs e=>by subst e;simp[AI.sq]at hs) f k
 simp only[this]at hr⊢
 exact JS a hs hr
theorem kH (it:IT) (hs:it.ai.sq=false) {f f':Fr} {h h':H} (hr:cC call it f h=some (f',h')):
 h'=h∧(∀k:H,(∀id,it.ref f=some id→k[id]? =h[id]?)→cC call it f k=some (f',k))∧∀id,it.ref f=some id→id < h.length:=by
 cases it with
 |i a=>exact yp a hs hr
 |g s b d a=>
  simp only[cC]at hr
  split at hr
  ·rename_i b' he
   split at hr
   ·rename_i hb
    obtain⟨k1,k2,k3⟩:=yp a hs hr
    refine⟨k1,fun k hk=> ?_,fun id e=> ?_⟩
    ·simp only[cC,he,if_pos hb]
     exact k2 k fun id e=>hk id (by simp only[IT.ref,he,if_pos hb,e])
    ·simp only[IT.ref,he,if_pos hb]at e
     exact k3 id e
   ·rename_i hb
    simp only[Option.some.injEq,Prod.mk.injEq]at hr
    obtain⟨rfl,rfl⟩:=hr
    exact⟨rfl,fun k _=>by simp only[cC,he,if_neg hb],fun id e=>by simp only[IT.ref,he,if_neg hb]at e;cases e⟩
  ·simp at hr
theorem Jr (a:AI) (h:a.hr=false) (f:Fr):a.ref f=none:=by
 cases a <;>first|rfl|simp[AI.hr]at h
theorem Cg (it:IT) (h:it.ai.hr=false) (f:Fr):it.ref f=none:=by
 cases it with
 |i a=>exact Jr a h f
 |g s b d a=>
  simp only[IT.ref]
  split
  ·split
   ·exact Jr a h f
   ·rfl
  ·rfl
theorem Ay {a:AI} {g f:Fr} (h:bM a.rd g f):a.ref g=a.ref f:=by
 cases a <;>first|rfl|(simp only[AI.ref,jN (show bM (cS _) g f from h)])
theorem Ff {it:IT} {g f:Fr} (h:bM it.rd g f):it.ref g=it.ref f:=by
 cases it with
 |i a=>exact Ay h
 |g s b d a=>
  have hh:=bM.or (show bM (2 ^ s|||a.rd) g f from h)
  simp only[IT.ref,yc (show bM (cS (.s s)) g f from hh.1),Ay hh.2]
theorem xJ (a:AI) (hs:a.sq=true) (hw:a.hw=false) {f f':Fr} {h h':H} (hr:da call a f h=some (f',h')):∃t,h'=h++t:=by
 have hcall:∀ {d g:Nat} {vs:List (Bool×List C)},el call d g true vs f h=some (f',h')→∃t,h'=h++t:=by
  intro d g vs hr
  unfold el at hr
  split at hr
  ·split at hr
   ·rename_i hq
    simp only[Option.some.injEq,Prod.mk.injEq]at hr
    obtain⟨rfl,rfl⟩:=hr
    exact hq rfl
   ·simp at hr
  ·simp at hr
 cases a <;>simp[AI.sq]at hs <;>simp[AI.hw]at hw
 case call d g q xs=>
  subst hw
  simp only[da]at hr
  split at hr
  ·exact hcall hr
  ·simp at hr
 case clv d q x xs=>
  subst hw
  simp only[da]at hr
  split at hr
  ·exact hcall hr
  ·simp at hr
 all_goals
  simp only[da,ai]at hr
  (repeat' split at hr) <;>first
    |(simp at hr;done)
    |(simp only[Option.some.injEq,Prod.mk.injEq]at hr
      obtain⟨rfl,rfl⟩:=hr
      exact⟨_,rfl⟩)
theorem rK (it:IT) (hs:it.ai.sq=true) (hw:it.ai.hw=false) {f f':Fr} {h h':H} (hr:cC call it f h=some (f',h')):∃t,h'=h++t:=by
 cases it with
 |i a=>exact xJ a hs hw hr
 |g s b d a=>
  simp only[cC]at hr
  split at hr
  ·split at hr
   ·exact xJ a hs hw hr
   ·simp only[Option.some.injEq,Prod.mk.injEq]at hr
    obtain⟨rfl,rfl⟩:=hr
    exact⟨[],by simp⟩
  ·simp at hr
theorem nH {m n:Nat} (h:m &&& n=0) (s:Nat) (h1:m.testBit s=true) (h2:n.testBit s=true):False:=by
 have:(m &&& n).testBit s=true:=by rw[Nat.testBit_and,h1,h2];rfl
 rw[h,Nat.zero_testBit]at this
 cases this
theorem xV {a b:IT} (h:meets a b=false):(∀s,a.wr.testBit s=true→b.rd.testBit s=true→False)∧(∀s,a.wr.testBit s=true→b.wr.testBit s=true→False)∧(∀s,b.wr.testBit s=true→a.rd.testBit s=true→False)∧
 (a.ai.sq=true→b.ai.sq=false)∧(a.ai.hw=true→b.ai.hr=false)∧(b.ai.hw=true→a.ai.hr=false∨b.ai.B8 a.ai=true):=by
 simp only[meets,Bool.or_eq_false_iff,bne_eq_false_iff_eq,Bool.and_eq_false_iff,Bool.not_eq_false']at h
 obtain⟨⟨⟨⟨h1,h2⟩,h3⟩,h4⟩,h5⟩:=h
 refine⟨fun s e1 e2=>nH h1 s e1 (by rw[Nat.testBit_or,e2];rfl),fun s e1 e2=>nH h1 s e1 (by rw[Nat.testBit_or,e2,Bool.or_true]),fun s e1 e2=>nH h2 s e1 e2,fun e=> ?_,fun e=> ?_,fun e=> ?_⟩
 ·rcases h3 with h|h
  ·rw[e]at h;cases h
  ·exact h
 ·rcases h4 with h|h
  ·rw[e]at h;cases h
  ·exact h
 ·rcases h5 with(h|h)|h
  ·rw[e]at h;cases h
  ·exact .inl h
  ·exact .inr h
theorem uA {m w:Nat} {u:Up} (hu:HT w u) (hd:∀s,w.testBit s=true→m.testBit s=true→False) (f:Fr):bM m (app u f) f:=by
 intro s hs
 match u,hu with
 |none,_=>rfl
 |some (d,v),hu=>
  refine Fr.eH f v ?_
  intro e
  subst e
  exact hd s (hu s v rfl) hs
theorem bM.symm {m:Nat} {f g:Fr} (h:bM m g f):bM m f g:=fun s hs=>(h s hs).symm
theorem J2 {m n:Nat} {u v:Up} (hu:HT m u) (hv:HT n v) (hd:∀s,m.testBit s=true→n.testBit s=true→False) (f:Fr):app u (app v f)=app v (app u f):=by
 match u,v,hu,hv with
 |none,_,_,_=>rfl
 |some _,none,_,_=>rfl
 |some (d,x),some (e,y),hu,hv=>
  have:e≠d:=fun k=>hd d (hu d x rfl) (by subst k;exact hv e y rfl)
  exact Fr.set_comm f y x this
theorem H3 {d n e:Nat} {x:X} {g:Bool} {f:Fr} {h:H} {r:Fr×H} (hr:ai (.lde d x n g e) f h=some r):∀id,AI.ref f (.lde d x n g e)=some id→∃cs,h[id]? =some (.own e cs):=by
 intro id hid
 simp only[ai]at hr
 simp only[AI.ref]at hid
 split at hr
 ·rename_i id' o he
  rw[he]at hid
  simp at hid
  subst hid
  split at hr
  ·rename_i ty cs hc
   split at hr
   ·rename_i hl
    obtain⟨rfl,_⟩:=hl
    exact⟨cs,hc⟩
   ·simp at hr
  ·simp at hr
 ·simp at hr
theorem Je {it:IT} {d n e:Nat} {x:X} {g:Bool} {f:Fr} {h:H} {r:Fr×H} (hi:it.ai= .lde d x n g e) (hr:cC call it f h=some r):∀id,it.ref f=some id→∃cs,h[id]? =some (.own e cs):=by
 cases it with
 |i a=>simp only[IT.ai]at hi;subst hi;exact H3 hr
 |g s w dd a=>
  simp only[IT.ai]at hi
  subst hi
  intro id hid
  simp only[IT.ref]at hid
  simp only[cC]at hr
  split at hr
  ·rename_i b he
   rw[he]at hid
   simp only at hid
   split at hr
   ·rename_i hb
    rw[if_pos hb]at hid
    exact H3 hr id hid
   ·rename_i hb
    rw[if_neg hb]at hid
    cases hid
  ·simp at hr
theorem DP {d g e:Nat} {xs:List X} {f f':Fr} {h h':H} (hr:da call (.cle d g e xs) f h=some (f',h')):yh e h h':=by
 simp only[da]at hr
 split at hr
 ·unfold fo at hr
  split at hr
  ·split at hr
   ·rename_i hk
    simp only[Option.some.injEq,Prod.mk.injEq]at hr
    obtain⟨rfl,rfl⟩:=hr
    exact hk
   ·simp at hr
  ·simp at hr
 ·simp at hr
theorem IZ {it:IT} {d g e:Nat} {xs:List X} {f f':Fr} {h h':H} (hi:it.ai= .cle d g e xs) (hr:cC call it f h=some (f',h')):yh e h h':=by
 cases it with
 |i a=>simp only[IT.ai]at hi;subst hi;exact DP hr
 |g s w dd a=>
  simp only[IT.ai]at hi
  subst hi
  simp only[cC]at hr
  split at hr
  ·split at hr
   ·exact DP hr
   ·simp only[Option.some.injEq,Prod.mk.injEq]at hr
    obtain⟨rfl,rfl⟩:=hr
    exact fun _ _ hx=>hx
  ·simp at hr
theorem Nb {a b:IT} (hs:b.ai.B8 a.ai=true) {f g:Fr} {h h2:H} {r:Fr×H} {f2:Fr} (ha:cC call a f h=some r) (hb:cC call b g h=some (f2,h2)) {id:Nat} (hid:a.ref f=some id):h2[id]? =h[id]? :=by
 unfold AI.B8 at hs
 split at hs
 ·rename_i e xs d x n gg e' hb1 ha1
  have he:e=e':=by simpa using hs
  subst he
  obtain⟨cs,hc⟩:=Je ha1 ha id hid
  rw[hc,IZ hb1 hb id cs hc]
 ·cases hs
theorem swap {a b:IT} (hm:meets a b=false) {f f1 f2:Fr} {h h1 h2:H} (ha:cC call a f h=some (f1,h1)) (hb:cC call b f1 h1=some (f2,h2)) (hV:∀id,b.ref f=some id→id < h.length):
 ∃f1' h1',cC call b f h=some (f1',h1')∧cC call a f1' h1'=some (f2,h2):=by
 obtain⟨m1,m2,m3,m4,m5,m6⟩:=xV hm
 obtain⟨ua,a1,rfl,a3⟩:=ry a h f f1 h1 ha
 obtain⟨ub,b1,rfl,b3⟩:=ry b h1 _ f2 h2 hb
 have hb':cC call b f h1=some (app ub f,h2):=b3 f (uA a1 m1 f).symm
 have hcomm:=J2 a1 b1 m2 f
 have ha':cC call a (app ub f) h=some (app ua (app ub f),h1):=a3 _ (uA b1 m3 f)
 cases hsa:a.ai.sq with
 |false=>
  obtain⟨rfl,s2,s3⟩:=kH a hsa ha'
  refine⟨app ub f,h2,hb',?_⟩
  rw[←hcomm]
  refine s2 h2 fun id hid=> ?_
  cases hsb:b.ai.sq with
  |false=>rw[(kH b hsb hb').1]
  |true=>
   have hra:a.ai.hr=true:=by
    cases e:a.ai.hr with
    |true=>rfl
    |false=>rw[Cg a e]at hid;cases hid
   cases hwb:b.ai.hw with
   |false=>
    obtain⟨t,rfl⟩:=rK b hsb hwb hb'
    rw[List.getElem?_append_left (s3 id hid)]
   |true=>
    rcases m6 hwb with h|h
    ·rw[h]at hra;cases hra
    ·exact Nb h ha' hb' hid
 |true=>
  have hsb:=m4 hsa
  obtain⟨rfl,s2,s3⟩:=kH b hsb hb'
  have hb2:cC call b f h=some (app ub f,h):=s2 h fun id hid=>by
   have hrb:b.ai.hr=true:=by
    cases e:b.ai.hr with
    |true=>rfl
    |false=>rw[Cg b e]at hid;cases hid
   have hwa:a.ai.hw=false:=by
    cases e:a.ai.hw with
    |false=>rfl
    |true=>rw[m5 e]at hrb;cases hrb
   obtain⟨t,rfl⟩:=rK a hsa hwa ha
   rw[List.getElem?_append_left (hV id hid)]
  exact⟨app ub f,h,hb2,by rw[←hcomm];exact ha'⟩
theorem Mm {b:IT} {l2:List IT} {r:Fr×H}:∀ {l1:List IT} {f:Fr} {h:H},(∀a∈l1,meets a b=false)→dS call (l1++b::l2) f h=some r→(∀id,b.ref f=some id→id < h.length)→
 ∃f1 h1,cC call b f h=some (f1,h1)∧dS call (l1++l2) f1 h1=some r
 | [],f,h,_,hr,_=>by
   simp only[List.nil_append,dS]at hr
   split at hr
   ·rename_i f1 h1 e;exact⟨f1,h1,e,hr⟩
   ·simp at hr
 |a::l1,f,h,hm,hr,hV=>by
  simp only[List.cons_append,dS]at hr
  split at hr
  ·rename_i fa ha e
   have hma:=hm a (by simp)
   obtain⟨m1,m2,m3,m4,m5,m6⟩:=xV hma
   obtain⟨ua,a1,rfl,a3⟩:=ry a h f fa ha e
   have hV':∀id,b.ref (app ua f)=some id→id < ha.length:=fun id hid=>by
    rw[Ff (uA a1 m1 f)]at hid
    have h0:=hV id hid
    have hrb:b.ai.hr=true:=by
     cases e:b.ai.hr with
     |true=>rfl
     |false=>rw[Cg b e]at hid;cases hid
    cases hsa:a.ai.sq with
    |false=>rw[(kH a hsa e).1];exact h0
    |true=>
     have hwa:a.ai.hw=false:=by
      cases e:a.ai.hw with
      |false=>rfl
      |true=>rw[m5 e]at hrb;cases hrb
     obtain⟨t,rfl⟩:=rK a hsa hwa e
     rw[List.length_append]
     omega
   obtain⟨f1,h1,k1,k2⟩:=Mm (fun x hx=>hm x (by simp[hx])) hr hV'
   obtain⟨f2,h2,k3,k4⟩:=swap hma e k1 hV
   refine⟨f2,h2,k3,?_⟩
   simp only[List.cons_append,dS,k4]
   exact k2
  ·simp at hr
end
end Go.Eng
namespace Go.Eng
section
variable {T:Ctx} {μ μ':Mu} {L:Nat→Nat} {f f':Fr} {h h':H} {w w':World} {act:Act}
variable {K:Act→World→Prop} {Q:Exit→Act→World→Prop} {call:dP} {ops:Array Oper}
theorem Bx (hi:cO T μ L f act.tmps h w) (hcall:iI T.P call) {q:Bool} {i:Nat} {o:Oper} (ho:ops[i]? =some o) {it:IT} (hc:rA T.P T.I q ops o=some it) (hr:cC call it f h=some (f',h')) (hk:bR T μ act f' h' K):wpOp T.P ops Q i K act w:=by
 unfold wpOp
 simp only[ho]
 unfold rA at hc
 split at hc
 ·simp at hc
 ·rename_i a ha
  split at hc
  ·rename_i hdr
   have hd:kX T.I a o.dst=true:=by simp only[Bool.and_eq_true]at hdr;exact hdr.1
   split at hc
   ·rename_i hg
    simp at hc
    subst hc
    have:Region.wanted o (yielded ops act.tmps)=true:=by simp[Region.wanted,hg]
    rw[if_pos this]
    exact .inl (MQ hi hcall ha hd hr hk)
   ·rename_i j b hg
    split at hc
    ·simp at hc
    ·rename_i hbx
     have hbx':a.boxes=false:=by simpa using hbx
     split at hc
     ·rename_i s hs
      simp only[Option.some.injEq]at hc
      subst hc
      simp only[cC]at hr
      split at hr
      ·rename_i b' he
       have hw:Region.wanted o (yielded ops act.tmps)=(b'==b):=by
        unfold gv at he
        split at he
        ·rename_i hu
         simp only[Option.some.injEq,C.bool.injEq]at he
         have h1:=hi.fp.slots s
         rw[hu]at h1
         obtain⟨arr,h2,h3⟩:=h1
         have hy:yielded ops act.tmps j=none:=by
          unfold yielded
          simp only[hs]
          by_cases hlt:s < act.tmps.size
          ·simp[Array.getD,hlt]at h2
           simp[Array.getElem?_eq_getElem hlt,h2]
          ·simp[Array.getElem?_eq_none (Nat.not_lt.1 hlt)]
         simp only[Region.wanted,hg,hy,←he]
         cases b <;>rfl
        ·have hv:act.eval (.tmp s)= .bool b':=bb hi.fp (x:= .tmp s) rfl he
         have hy:yielded ops act.tmps j=some b':=by
          have:act.tmps[s]? =some (.bool b'):=by
           have h1:act.tmps.getD s undef= .bool b':=hv
           by_cases hlt:s < act.tmps.size
           ·simp[Array.getD,hlt]at h1
            rw[Array.getElem?_eq_getElem hlt,h1]
           ·simp[Array.getD,hlt]at h1
            cases h1
          unfold yielded
          simp[hs,this]
         simp only[Region.wanted,hg,hy]
         cases b <;>cases b' <;>rfl
       by_cases hb:b'=b
       ·subst hb
        rw[if_pos rfl]at hr
        rw[if_pos (by rw[hw];simp)]
        exact .inl (MQ hi hcall ha hd hr hk)
       ·rw[if_neg hb]at hr
        rw[if_neg (by rw[hw];simpa using hb)]
        simp only[Option.some.injEq,Prod.mk.injEq]at hr
        obtain⟨rfl,rfl⟩:=hr
        refine hk μ L _ w ?_ (cf.refl _) (put_defers _ _ _)
        have h5:=Di (v:= .tup []) (r:=undef) hi hd hbx' (.inl ⟨#[],rfl,trivial⟩)
        cases hdst:o.dst <;>simp only[hdst,dn]at h5⊢ <;>exact h5
      ·simp at hr
     ·simp at hc
  ·simp at hc
theorem j3 {P:Program} {I:wJ} {q:Bool}:∀ {l:List Oper} {its:List IT},qQ P I q ops l=some its→its.length=l.length∧∀(i:Nat) (o:Oper),l[i]? =some o→∃it,its[i]? =some it∧rA P I q ops o=some it
 | [],its,h=>by simp[qQ]at h;subst h;exact⟨rfl,fun i o h=>by simp at h⟩
 |o::l,its,h=>by
  simp only[qQ]at h
  split at h
  ·rename_i it its' h1 h2
   simp at h
   subst h
   obtain⟨h3,h4⟩:=j3 h2
   refine⟨by simp[h3],fun i o' hi=> ?_⟩
   cases i with
   |zero=>simp at hi;subst hi;exact⟨it,rfl,h1⟩
   |succ i=>exact h4 i o' (by simpa using hi)
  ·simp at h
theorem bR.trans {f2:Fr} {h2:H} {μ1:Mu} {act1:Act} (hm:cf μ μ1) (hd:act1.defers=act.defers) (hk:bR T μ act f2 h2 K):bR T μ1 act1 f2 h2 K:=
 fun μ' L' act' w' hi hm' hd'=>hk μ' L' act' w' hi (hm.trans hm') (hd'.trans hd)
theorem Js (hcall:iI T.P call) {q:Bool} {its:List IT} (hc:qQ T.P T.I q ops ops.toList=some its) {fE:Fr} {hE:H}:∀(n k:Nat),k+n=ops.size→∀ {μ L f h act w},cO T μ L f act.tmps h w→dS call (its.drop k) f h=some (fE,hE)→
 bR T μ act fE hE (Q .normal)→wpOps T.P ops Q (List.range' k n) act w
 |0,k,hkn,μ,L,f,h,act,w,hi,hr,hk=>by
  obtain⟨hl,_⟩:=j3 hc
  rw[List.drop_eq_nil_of_le (by simp at hl;omega)]at hr
  simp only[dS,Option.some.injEq,Prod.mk.injEq]at hr
  obtain⟨rfl,rfl⟩:=hr
  simp only[List.range'_zero,wpOps]
  exact hk μ L act w hi (cf.refl _) rfl
 |n+1,k,hkn,μ,L,f,h,act,w,hi,hr,hk=>by
  obtain⟨hl,hg⟩:=j3 hc
  have hlt:k < ops.size:=by omega
  have ho:ops[k]? =some ops[k]:=Array.getElem?_eq_getElem hlt
  obtain⟨it,h1,h2⟩:=hg k ops[k] (by simp)
  have hdrop:its.drop k=it::its.drop (k+1):=by
   obtain⟨hlt',e⟩:=List.getElem?_eq_some_iff.1 h1
   rw[←e]
   exact List.drop_eq_getElem_cons hlt'
  rw[hdrop]at hr
  simp only[dS]at hr
  split at hr
  ·rename_i f1 k1 e1
   rw[List.range'_succ,wpOps_cons]
   refine Bx hi hcall ho h2 e1 fun μ' L' act' w' hi' hm' hd'=> ?_
   exact Js hcall hc n (k+1) (by omega) hi' hr (hk.trans hm' hd')
  ·simp at hr
def rem (listed:Nat→Bool):Nat→List IT→List IT
 |_,[]=> []
 |j,it::r=>if listed j then rem listed (j+1) r else it::rem listed (j+1) r
theorem Dc {l l':Nat→Bool}:∀(its:List IT) (j:Nat),(∀k,j≤k→l k=l' k)→rem l j its=rem l' j its
 | [],_,_=>rfl
 |it::r,j,h=>by
  simp only[rem,h j (Nat.le_refl _),Dc r (j+1) (fun k hk=>h k (by omega))]
theorem A9 {l l':Nat→Bool} {i:Nat} {it:IT} (hi:l i=false) (hi':l' i=true) (hs:∀k,k≠i→l' k=l k):∀(its:List IT) (j:Nat),j≤i→its[i - j]? =some it→
 ∃l1 l2,rem l j its=l1++it::l2∧rem l' j its=l1++l2∧∀b∈l1,∃k,j≤k∧k < i∧its[k - j]? =some b∧l k=false
 | [],j,hji,h=>by simp at h
 |a::r,j,hji,h=>by
  by_cases e:j=i
  ·subst e
   simp at h
   subst h
   refine⟨[],rem l (j+1) r,by simp[rem,hi],?_,fun b hb=>by simp at hb⟩
   simp only[rem,hi',if_true,List.nil_append]
   exact Dc r (j+1) (fun k hk=>hs k (by omega))
  ·have hsub:i - j=(i - (j+1))+1:=by omega
   rw[hsub]at h
   obtain⟨l1,l2,h1,h2,h3⟩:=A9 hi hi' hs r (j+1) (by omega) (by simpa using h)
   have hsh:∀k,j+1≤k→(a::r)[k - j]? =r[k - (j+1)]? :=fun k hk=>by
    have:k - j=(k - (j+1))+1:=by omega
    rw[this,List.getElem?_cons_succ]
   cases hl:l j with
   |true=>
    refine⟨l1,l2,by simp[rem,hl,h1],by simp[rem,hs j e,hl,h2],fun b hb=> ?_⟩
    obtain⟨k,k1,k2,k3,k4⟩:=h3 b hb
    exact⟨k,by omega,k2,by rw[hsh k k1];exact k3,k4⟩
   |false=>
    refine⟨a::l1,l2,by simp[rem,hl,h1],by simp[rem,hs j e,hl,h2],fun b hb=> ?_⟩
    rcases List.mem_cons.1 hb with rfl|hb
    ·exact⟨j,Nat.le_refl _,by omega,by simp,hl⟩
    ·obtain⟨k,k1,k2,k3,k4⟩:=h3 b hb
     exact⟨k,by omega,k2,by rw[hsh k k1];exact k3,k4⟩
theorem D5 {l:Nat→Bool}:∀(its:List IT) (j:Nat),(∀k,j≤k→k < j+its.length→l k=true)→rem l j its= []
 | [],_,_=>rfl
 |it::r,j,h=>by
  simp only[rem,h j (Nat.le_refl _) (by simp)]
  exact D5 r (j+1) (fun k h1 h2=>h k (by omega) (by simp;omega))
theorem F1 {l:Nat→Bool}:∀(its:List IT) (j:Nat),(∀k,j≤k→l k=false)→rem l j its=its
 | [],_,_=>rfl
 |it::r,j,h=>by
  simp[rem,h j (Nat.le_refl _),F1 r (j+1) (fun k h1=>h k (by omega))]
theorem apart_spec {its:List IT} {it:IT} {b:Nat}:∀ {n i:Nat},mX its it b n=true→i < n→∀o,its[i]? =some o→meets o it=false∨b.testBit i=true
 |0,i,_,h,_,_=>by omega
 |n+1,i,h,hlt,o,ho=>by
  simp only[mX,Bool.and_eq_true]at h
  by_cases e:i=n
  ·subst e
   have h1:=h.1
   rw[ho]at h1
   simpa using h1
  ·exact apart_spec h.2 (by omega) o ho
theorem vy {its:List IT} {bs:List Nat}:∀ {n j:Nat},nM its bs n=true→j < n→∃it b,its[j]? =some it∧bs[j]? =some b∧mX its it b j=true
 |0,j,_,h=>by omega
 |n+1,j,h,hlt=>by
  simp only[nM,Bool.and_eq_true]at h
  by_cases e:j=n
  ·subst e
   have h1:=h.1
   split at h1
   ·rename_i it b e1 e2;exact⟨it,b,e1,e2,h1⟩
   ·simp at h1
  ·exact vy h.2 (by omega)
theorem tK {bs:List Nat}:∀(es:List Edge) (s k:Nat),(es.foldl (fun s e=>if Region.binds .any e then(match bs[e.on]? with|some b=>s|||2 ^ e.on|||b|none=>s)else s) s).testBit k=true→
 s.testBit k=true∨∃e∈es,Region.binds .any e=true∧∃b,bs[e.on]? =some b∧(e.on=k∨b.testBit k=true)
 | [],s,k,h=> .inl h
 |e::es,s,k,h=>by
  simp only[List.foldl_cons]at h
  rcases tK es _ k h with h1|⟨e',h1,h2,h3⟩
  ·split at h1
   ·rename_i hb
    split at h1
    ·rename_i b hbs
     simp only[Nat.testBit_or,Bool.or_eq_true,Nat.testBit_two_pow,decide_eq_true_eq]at h1
     rcases h1 with(h1|h1)|h1
     ·exact .inl h1
     ·exact .inr ⟨e,by simp,hb,b,hbs, .inl h1⟩
     ·exact .inr ⟨e,by simp,hb,b,hbs, .inr h1⟩
    ·exact .inl h1
   ·exact .inl h1
  ·exact .inr ⟨e',by simp[h1],h2,h3⟩
theorem sf:∀(l:List Oper) (bs:List Nat),(∃t,dE bs l=bs++t∧t.length=l.length)∧∀(i:Nat) (o:Oper),l[i]? =some o→∃b,(dE bs l)[bs.length+i]? =some b∧
 ∀k,b.testBit k=true→∃e∈o.after.toList,Region.binds .any e=true∧∃b',(dE bs l)[e.on]? =some b'∧(e.on=k∨b'.testBit k=true)
 | [],bs=>⟨⟨[],by simp[dE]⟩,fun i o h=>by simp at h⟩
 |o::l,bs=>by
  obtain⟨⟨t,h1,h1l⟩,h2⟩:=sf l (bs++ [se bs o])
  refine⟨⟨se bs o::t,by simp[dE,h1],by simp[h1l]⟩,fun i o' hi=> ?_⟩
  cases i with
  |zero=>
   simp at hi
   subst hi
   refine⟨se bs o,by simp[dE,h1],fun k hk=> ?_⟩
   unfold se at hk
   rcases tK _ _ k hk with h3|⟨e,h3,h4,b,h5,h6⟩
   ·simp at h3
   ·refine⟨e,h3,h4,b,?_,h6⟩
    have hlt:e.on < bs.length:=(List.getElem?_eq_some_iff.1 h5).1
    simp only[dE,h1,List.append_assoc]
    rw[List.getElem?_append_left hlt,h5]
  |succ i=>
   obtain⟨b,h3,h4⟩:=h2 i o' (by simpa using hi)
   refine⟨b,?_,h4⟩
   simp only[List.length_append,List.length_singleton]at h3
   simp only[dE]
   rw[←h3]
   congr 1
   omega
theorem rY:∀ {l:List Oper} {j i:Nat} {o:Oper},pk j l=true→l[i]? =some o→∀e∈o.after.toList,Region.binds .any e=true→e.on < j+i
 | [],_,i,_,_,h=>by simp at h
 |a::l,j,i,o,he,h=>by
  simp only[pk,Bool.and_eq_true,List.all_eq_true,Bool.or_eq_true,Bool.not_eq_true',decide_eq_true_eq]at he
  cases i with
  |zero=>
   simp at h
   subst h
   intro e hm hb
   rcases he.1 e hm with h1|h1
   ·rw[hb]at h1;cases h1
   ·exact h1
  |succ i=>
   intro e hm hb
   have:=rY he.2 (by simpa using h) e hm hb
   omega
theorem MP (hi:cO T μ L f act.tmps h w) {q:Bool} {o:Oper} {it:IT} (hc:rA T.P T.I q ops o=some it):∀id,it.ref f=some id→id < h.length:=by
 have hx:∀(x:X) (c:C),x.slot=true→dt f x=some c→∃v,CR μ c v:=fun x c e h1=>by
  cases x with
  |s t=>exact⟨_,bb hi.fp (x:= .tmp t) rfl h1⟩
  |c v=>cases e
 have ha:∀a:AI,a.My=true→∀id,a.ref f=some id→id < h.length:=by
  intro a hok id hid
  cases a <;>simp only[AI.ref,reduceCtorEq]at hid
  case ldh d x n g=>
   split at hid
   ·rename_i id' o e
    simp at hid
    subst hid
    obtain⟨v,p,h1,_⟩:=hx x _ hok e
    exact hi.hp.dom _ _ h1
   ·simp at hid
  case lde d x n g e=>
   split at hid
   ·rename_i id' o e
    simp at hid
    subst hid
    obtain⟨v,p,h1,_⟩:=hx x _ hok e
    exact hi.hp.dom _ _ h1
   ·simp at hid
  case sla d x n g=>
   split at hid
   ·rename_i id' o e
    simp at hid
    subst hid
    obtain⟨v,p,h1,_⟩:=hx x _ hok e
    exact hi.hp.dom _ _ h1
   ·simp at hid
  case cbs d x=>
   split at hid
   ·rename_i id' o l z e
    simp at hid
    subst hid
    obtain⟨v,p,a,cap,h1,_⟩:=hx x _ hok e
    exact hi.hp.dom _ _ h1
   ·simp at hid
 unfold rA at hc
 split at hc
 ·simp at hc
 ·rename_i a _
  split at hc
  ·rename_i hdr
   simp only[Bool.and_eq_true]at hdr
   split at hc
   ·simp at hc;subst hc;exact ha a hdr.2
   ·split at hc
    ·simp at hc
    ·split at hc
     ·simp only[Option.some.injEq]at hc
      subst hc
      intro id hid
      simp only[IT.ref]at hid
      split at hid
      ·split at hid
       ·exact ha a hdr.2 id hid
       ·simp at hid
      ·simp at hid
     ·simp at hc
  ·simp at hc
theorem A5 {a:AI} {e:Nat} {f:Fr} {h:H} {r:Fr×H} (hr:da call (a.fN e) f h=some r):da call a f h=some r:=by
 cases a
 case ldh d x n g=>
  simp only[AI.fN,da,ai]at hr⊢
  split at hr
  ·split at hr
   ·rename_i hc
    split at hr
    ·rename_i hl
     simp only[H.cells,hc]
     rw[if_pos hl.2]
     exact hr
    ·simp at hr
   ·simp at hr
  ·simp at hr
 case call d g q xs=>
  cases q with
  |true=>exact hr
  |false=>
   simp only[AI.fN,da]at hr⊢
   split at hr
   ·unfold fo at hr
    unfold el
    split at hr
    ·split at hr
     ·rw[if_pos (fun x=>by cases x)]
      exact hr
     ·simp at hr
    ·simp at hr
   ·simp at hr
 all_goals exact hr
theorem Jy {it:IT} {e:Nat} {f:Fr} {h:H} {r:Fr×H} (hr:cC call (it.fN e) f h=some r):cC call it f h=some r:=by
 cases it with
 |i a=>exact A5 hr
 |g s w d a=>
  simp only[IT.fN,cC]at hr⊢
  split at hr
  ·split at hr
   ·rename_i hb
    simp only[hb,if_true]
    exact A5 hr
   ·rename_i hb
    simp only[if_neg hb]
    exact hr
  ·simp at hr
theorem Ac (a:AI) (e:Nat) (f:Fr):(a.fN e).ref f=a.ref f:=by
 cases a
 case call d g q xs=>cases q <;>rfl
 all_goals rfl
theorem J5 (it:IT) (e:Nat) (f:Fr):(it.fN e).ref f=it.ref f:=by
 cases it with
 |i a=>exact Ac a e f
 |g s w d a=>simp only[IT.fN,IT.ref,Ac]
def Made (P:Program) (I:wJ) (ops:Array Oper) (it:IT) (o:Oper):Prop:=∃q it0,rA P I q ops o=some it0∧(it=it0∨∃e,it=it0.fN e)
theorem Jo (hi:cO T μ L f act.tmps h w) (hcall:iI T.P call) {i:Nat} {o:Oper} (ho:ops[i]? =some o) {it:IT} (hc:Made T.P T.I ops it o) (hr:cC call it f h=some (f',h')) (hk:bR T μ act f' h' K):wpOp T.P ops Q i K act w:=by
 obtain⟨q,it0,h1,rfl|⟨e,rfl⟩⟩:=hc
 ·exact Bx hi hcall ho h1 hr hk
 ·exact Bx hi hcall ho h1 (Jy hr) hk
theorem MV (hi:cO T μ L f act.tmps h w) {o:Oper} {it:IT} (hc:Made T.P T.I ops it o):∀id,it.ref f=some id→id < h.length:=by
 obtain⟨q,it0,h1,rfl|⟨e,rfl⟩⟩:=hc
 ·exact MP hi h1
 ·intro id hid
  rw[J5]at hid
  exact MP hi h1 id hid
def Ga (P:Program) (I:wJ) (ops:Array Oper) (its:List IT):Prop:=its.length=ops.toList.length∧∀(i:Nat) (o:Oper),ops.toList[i]? =some o→∃it,its[i]? =some it∧Made P I ops it o
theorem Gf {P:Program} {I:wJ} {q:Bool} {its:List IT} (hc:qQ P I q ops ops.toList=some its):Ga P I ops its:=by
 obtain⟨h1,h2⟩:=j3 hc
 refine⟨h1,fun i o ho=> ?_⟩
 obtain⟨it,k1,k2⟩:=h2 i o ho
 exact⟨it,k1,q,it,k2, .inl rfl⟩
theorem Hr {P:Program} {I:wJ} {q:Bool} {e:Nat} {its:List IT} (hc:qQ P I q ops ops.toList=some its):Ga P I ops (its.map (IT.fN e)):=by
 obtain⟨h1,h2⟩:=j3 hc
 refine⟨by rw[List.length_map,h1],fun i o ho=> ?_⟩
 obtain⟨it,k1,k2⟩:=h2 i o ho
 exact⟨it.fN e,by rw[List.getElem?_map,k1];rfl,q,it,k2, .inr ⟨e,rfl⟩⟩
def left (listed:Nat→Bool):Nat→Nat
 |0=>0
 |n+1=>left listed n+if listed n then 0 else 1
theorem AK {l:Nat→Bool}:∀ {n:Nat},left l n=0→∀k,k < n→l k=true
 |0,_,k,h=>by omega
 |n+1,h,k,hk=>by
  simp only[left]at h
  by_cases e:k=n
  ·subst e
   cases hl:l k with
   |true=>rfl
   |false=>rw[hl]at h;simp at h
  ·exact AK (n:=n) (by omega) k (by omega)
theorem DQ {l l':Nat→Bool} {i:Nat} (hi:l i=false) (hi':l' i=true) (hs:∀k,k≠i→l' k=l k):∀(n:Nat),left l n=left l' n+if i < n then 1 else 0
 |0=>by simp[left]
 |n+1=>by
  simp only[left,DQ hi hi' hs n]
  by_cases e:n=i
  ·subst e
   simp[hi,hi']
  ·rw[hs n e]
   by_cases h1:i < n
   ·have:i < n+1:=by omega
    simp[h1,this];omega
   ·have:¬i < n+1:=by omega
    simp[h1,this]
theorem Am {l:Nat→Bool}:∀(n:Nat),(∀k,k < n→l k=false)→left l n=n
 |0,_=>rfl
 |n+1,h=>by simp[left,Am n (fun k hk=>h k (by omega)),h n (by omega)]
theorem Ns (hcall:iI T.P call) {its:List IT} (hc:Ga T.P T.I ops its) (hearly:pk 0 ops.toList=true) (hdraw:nM its (dE [] ops.toList) its.length=true) {fE:Fr} {hE:H}:
 ∀(fuel:Nat) {listed:Array Bool} {μ L f h act w},listed.size=ops.size→left (fun k=>listed.getD k false) ops.size=fuel→
  (∀i,listed.getD i false=true→∀b,(dE [] ops.toList)[i]? =some b→∀k,b.testBit k=true→listed.getD k false=true)→
  cO T μ L f act.tmps h w→dS call (rem (fun k=>listed.getD k false) 0 its) f h=some (fE,hE)→bR T μ act fE hE (Q .normal)→wpAny T.P .any ops Q fuel listed act w:=by
 obtain⟨hl,hg⟩:=hc
 have hl':its.length=ops.size:=by simpa using hl
 obtain⟨⟨bt,hbt,hbtl⟩,hbs⟩:=sf ops.toList []
 have hdone:∀ {listed:Array Bool} {μ L f h act w},(∀k,k < ops.size→listed.getD k false=true)→cO T μ L f act.tmps h w→dS call (rem (fun k=>listed.getD k false) 0 its) f h=some (fE,hE)→bR T μ act fE hE (Q .normal)→Q .normal act w:=by
  intro listed μ L f h act w hall hi hr hk
  rw[D5 its 0 (fun k _ h2=>hall k (by omega))]at hr
  simp only[dS,Option.some.injEq,Prod.mk.injEq]at hr
  obtain⟨rfl,rfl⟩:=hr
  exact hk μ L act w hi (cf.refl _) rfl
 intro fuel
 induction fuel with
 |zero=>
  intro listed μ L f h act w hsz hfuel hclosed hi hr hk
  have hall:=AK hfuel
  refine⟨?_,hdone hall hi hr hk⟩
  cases hrd:Region.ready .any ops listed with
  |nil=>rfl
  |cons i r=>
   exfalso
   obtain⟨h0,o,ho,_⟩:=mem_ready.1 (show i∈Region.ready .any ops listed by rw[hrd];simp)
   have hlt:=(Array.getElem?_eq_some_iff.1 ho).1
   have:=hall i hlt
   have hlt2:i < listed.size:=by omega
   simp[Array.getD,hlt2]at h0 this
   rw[h0]at this
   cases this
 |succ fuel ih=>
  intro listed μ L f h act w hsz hfuel hclosed hi hr hk
  refine⟨fun hnil=> ?_,fun i hiready=> ?_⟩
  ·
   exfalso
   have hex:∃k,k < ops.size∧listed.getD k false=false∧∀j,j < k→listed.getD j false=true:=by
    have:∀n,n≤ops.size→(∀k,k < n→listed.getD k false=true)∨∃k,k < ops.size∧listed.getD k false=false∧∀j,j < k→listed.getD j false=true:=by
     intro n
     induction n with
     |zero=>exact fun _=> .inl fun k hk=>by omega
     |succ n ihn=>
      intro hn
      rcases ihn (by omega)with h1|h1
      ·cases hq:listed.getD n false with
       |false=>exact .inr ⟨n,by omega,hq,h1⟩
       |true=>
        refine .inl fun k hk=> ?_
        by_cases e:k=n
        ·subst e;exact hq
        ·exact h1 k (by omega)
      ·exact .inr h1
    rcases this ops.size (Nat.le_refl _)with h1|h1
    ·exfalso
     have h2:left (fun k=>listed.getD k false) ops.size=0:=by
      have:∀n,n≤ops.size→left (fun k=>listed.getD k false) n=0:=by
       intro n
       induction n with
       |zero=>exact fun _=>rfl
       |succ n ihn=>intro hn;simp only[left];rw[ihn (by omega),if_pos (h1 n (by omega))]
      exact this _ (Nat.le_refl _)
     omega
    ·exact h1
   obtain⟨k,k1,k2,k3⟩:=hex
   have ho:ops[k]? =some ops[k]:=Array.getElem?_eq_getElem k1
   have hmem:k∈Region.ready .any ops listed:=by
    rw[mem_ready]
    have hlt2:k < listed.size:=by omega
    refine⟨by simp[Array.getD,hlt2]at k2⊢;exact k2,ops[k],ho,fun e he hb=> ?_⟩
    have:=rY hearly (i:=k) (o:=ops[k]) (by simp) e (by simpa using he) hb
    exact k3 e.on (by omega)
   rw[hnil]at hmem
   cases hmem
  ·obtain⟨hi0,o,ho,hafter⟩:=mem_ready.1 hiready
   have hlt:=(Array.getElem?_eq_some_iff.1 ho).1
   have hlt2:i < listed.size:=by omega
   have hif:listed.getD i false=false:=by simp[Array.getD,hlt2]at hi0⊢;exact hi0
   have hit:(listed.setIfInBounds i true).getD i false=true:=by simp[Array.getD,hlt2]
   have hsame:∀k,k≠i→(listed.setIfInBounds i true).getD k false=listed.getD k false:=fun k hk=>getD_set_ne false (Ne.symm hk)
   obtain⟨it,h1,h2⟩:=hg i o (by simpa using ho)
   obtain⟨l1,l2,r1,r2,r3⟩:=A9 (l:=fun k=>listed.getD k false) (l':=fun k=>(listed.setIfInBounds i true).getD k false) (i:=i) (it:=it) hif hit hsame its 0 (Nat.zero_le _) (by simpa using h1)
   obtain⟨b,hb,hbk⟩:=hbs i o (by simpa using ho)
   have hb':(dE [] ops.toList)[i]? =some b:=by simpa using hb
   have hbl:∀k,b.testBit k=true→listed.getD k false=true:=by
    intro k hk
    obtain⟨e,e1,e2,b',e3,e4⟩:=hbk k hk
    have he:=hafter e (by simpa using e1) e2
    rcases e4 with e4|e4
    ·rw[←e4];exact he
    ·exact hclosed e.on he b' e3 k e4
   rw[r1]at hr
   have hmeet:∀a∈l1,meets a it=false:=by
    intro a ha
    obtain⟨k,_,k2,k3,k4⟩:=r3 a ha
    obtain⟨it',b',d1,d2,d3⟩:=vy hdraw (show i < its.length by omega)
    rw[h1]at d1
    cases d1
    rw[hb']at d2
    cases d2
    rcases apart_spec d3 k2 a (by simpa using k3)with h5|h5
    ·exact h5
    ·have:=hbl k h5
     rw[k4]at this
     cases this
   obtain⟨f1,k1,q1,q2⟩:=Mm hmeet hr (MV hi h2)
   refine Jo hi hcall ho h2 q1 fun μ' L' act' w' hi' hm' hd'=> ?_
   refine ih (by simpa using hsz) ?_ ?_ hi' (by rw[r2];exact q2) (hk.trans hm' hd')
   ·have:=DQ (l:=fun k=>listed.getD k false) (l':=fun k=>(listed.setIfInBounds i true).getD k false) (i:=i) hif hit hsame ops.size
    rw[if_pos hlt]at this
    omega
   ·intro j hj c hc k hk
    by_cases e:j=i
    ·subst e
     rw[hb']at hc
     cases hc
     exact getD_set_true (hbl k hk)
    ·rw[hsame j e]at hj
     exact getD_set_true (hclosed j hj c hc k hk)
theorem HL (hi:cO T μ L f act.tmps h w) (hcall:iI T.P call) {id:Nat} {draw:Bool} {its:List IT} (hc:Ey T.P T.I ops draw=some (.ops its)) {fE:Fr} {hE:H} (hr:dS call its f h=some (fE,hE)) (hk:bR T μ act fE hE (Q .normal)):
 (Code.region id ops draw).wp T.P Q act w:=by
 have hany:T.P.follows .mixedOrders=true→pk 0 ops.toList=true→Ga T.P T.I ops its→nM its (dE [] ops.toList) its.length=true→(Code.region id ops true).wp T.P Q act w:=by
  intro hm he hl hd
  refine wp_region_any hm ?_
  have hi':=hi.jG (jA.drew w (fun _=>False))
  have hf:∀k,(Array.replicate ops.size false).getD k false=false:=fun k=>by
   by_cases hk:k < ops.size <;>simp[Array.getD,hk]
  refine Ns hcall hl he hd ops.size (by simp) (Am _ fun k _=>hf k) (fun i hi=>by rw[hf]at hi;cases hi) hi' ?_ hk
  rw[F1 its 0 (fun k _=>hf k)]
  exact hr
 unfold Ey at hc
 cases draw with
 |true=>
  simp only[if_true]at hc
  split at hc
  ·rename_i hcond
   simp only[Bool.and_eq_true]at hcond
   split at hc
   ·simp at hc
   ·rename_i l h1
    split at hc
    ·rename_i hd;simp at hc;subst hc;exact hany hcond.1 hcond.2 (Gf h1) hd
    ·split at hc
     ·rename_i e he
      split at hc
      ·rename_i hd;simp only[Option.some.injEq,AC.ops.injEq]at hc;subst hc;exact hany hcond.1 hcond.2 (Hr h1) hd
      ·simp at hc
     split at hc
     ·simp at hc
     ·rename_i l h2
      split at hc
      ·rename_i hd;simp at hc;subst hc;exact hany hcond.1 hcond.2 (Gf h2) hd
      ·simp at hc
  ·simp at hc
 |false=>
  simp only[Bool.false_eq_true,if_false]at hc
  split at hc
  ·rename_i l h1
   simp at hc
   subst hc
   refine wp_region ?_
   rw[List.range_eq_range']
   exact Js hcall h1 ops.size 0 (by omega) hi (by simpa using hr) hk
  ·simp at hc
end
end Go.Eng
namespace Go.Eng
section
variable {T:Ctx} {μ μ':Mu} {L:Nat→Nat} {f f':Fr} {h h':H} {w w':World} {act:Act}
variable {K:Act→World→Prop} {Q:Exit→Act→World→Prop} {call:dP} {ops:Array Oper}
theorem He {P:Program} {c:Code} (I:Nat→Act→World→Prop) (round:∀n a w,I n a w→c.wp P (Exit.then (fun a' w'=>∃m,m < n∧I m a' w') Q) a w) {n:Nat} {a:Act} (h0:I n a w):(Code.loop c).wp P Q a w:=by
 intro b k cs
 have key:∀n a w,I n a w→∃e a' w',Q e a' w'∧Arrives P (lone (b.at a (.code c:: .inLoop c::k)) cs w) b k cs e a' w':=by
  intro n
  induction n using Nat.strongRecOn with
  |_ n ih=>
   intro a w hI
   obtain⟨e,a₁,w₁,hq,harr⟩:=round n a w hI b (.inLoop c::k) cs
   cases e with
   |normal=>
    obtain⟨m,hlt,hI₁⟩:=hq
    obtain⟨e₂,a₂,w₂,hq₂,harr₂⟩:=ih m hlt a₁ w₁ hI₁
    exact⟨e₂,a₂,w₂,hq₂, .of_steps (Steps.trans harr (.one step_inLoop)) harr₂⟩
   |exit id=>exact⟨_,a₁,w₁,hq, .pass (x:= .inLoop c) rfl (fun _ _=> .inl (by simp)) harr⟩
   |goto l=>exact⟨_,a₁,w₁,hq, .pass (x:= .inLoop c) rfl (fun _ _=> .inl (by simp)) harr⟩
   |ret=>exact⟨_,a₁,w₁,hq, .pass (x:= .inLoop c) rfl (fun _ _=> .inl (by simp)) harr⟩
   |panic ch=>exact⟨_,a₁,w₁,hq, .pass (x:= .inLoop c) rfl (fun _ _=> .inl (by simp)) harr⟩
   |outgrown=>exact⟨_,a₁,w₁,hq, .pass (x:= .inLoop c) rfl (fun _ _=> .inl (by simp)) harr⟩
 obtain⟨e,a',w',hq,harr⟩:=key n a w h0
 exact⟨e,a',w',hq, .of_steps (.one step_loop) harr⟩
theorem gG:∀(ds:List Nat) (f:Fr) (s:Nat),(forget f ds).get s=if s∈ds then .any else f.get s
 | [],f,s=>by simp[forget]
 |d::ds,f,s=>by
  rw[forget,gG ds,Fr.bp]
  by_cases h1:s∈ds
  ·simp[h1]
  ·by_cases h2:s=d <;>simp[h1,h2]
theorem cO.forget (hi:cO T μ L f act.tmps h w) {ds:List Nat} (hd:∀s r o,f.get s= .lref r o→r∈ds→s∈ds):cO T μ L (forget f ds) act.tmps h w:=by
 have hloc:∀s cs,loc ((Eng.forget f ds).get s)=some cs→loc (f.get s)=some cs∧s∉ds:=fun s cs e=>by
  rw[gG]at e
  split at e
  ·cases e
  ·rename_i h1;exact⟨e,h1⟩
 have hbox:∀s cs,(Eng.forget f ds).get s= .box cs→f.get s= .box cs:=fun s cs e=>by
  rw[gG]at e
  split at e
  ·cases e
  ·exact e
 refine⟨hi.hp,⟨hi.fp.nt,fun s=> ?_,fun s cs hs=>hi.fp.loc s cs (hloc s cs hs).1,fun s t cs es hst hs ht=>hi.fp.bsep s t cs es hst (hbox s cs hs) (hloc t es ht).1,fun s cs hs=>hi.fp.bty s cs (hbox s cs hs),fun s r o hs=> ?_⟩,
  fun s cs id p ty es hs=>hi.sep s cs id p ty es (hloc s cs hs).1⟩
 ·rw[gG]
  split
  ·trivial
  ·exact hi.fp.slots s
 ·rw[gG]at hs
  split at hs
  ·cases hs
  ·rename_i h1
   obtain⟨k1,cs,k2⟩:=hi.fp.rty s r o hs
   refine⟨k1,cs,?_⟩
   rw[gG,if_neg (fun e=>h1 (hd s r o hs e))]
   exact k2
theorem rP {m:Nat}:∀ {n d:Nat},d∈bitsOf m n→m.testBit d=true
 |0,d,h=>by simp[bitsOf]at h
 |n+1,d,h=>by
  simp only[bitsOf]at h
  split at h
  ·rename_i e
   rcases List.mem_cons.1 h with rfl|h
   ·exact e
   ·exact rP h
  ·exact rP h
theorem yZ {s r:Nat}:∀ {env:List (Nat×Nat)},env.lookup s=some r→(s,r)∈env
 | [],h=>by simp at h
 |(a,b)::env,h=>by
  simp only[List.lookup]at h
  split at h
  ·rename_i e
   simp at h e
   subst h e
   simp
  ·exact List.mem_cons_of_mem _ (yZ h)
theorem Hs {P:Program} {I:wJ} {draw:Bool} {ac:AC} (hc:Ey P I ops draw=some ac):∃its,ac= .ops its:=by
 unfold Ey at hc
 repeat' split at hc
 all_goals first|(simp at hc;done)|(simp at hc;exact⟨_,hc.symm⟩)
def Jt:Ex→Exit
 | .norm=> .normal
 | .exit id=> .exit id
 | .ret=> .ret
theorem LO (hcall:iI T.P call) {lf:Nat}:∀(c:Code) {out:Nat} {ac:AC} (hc:gU T.P T.I T.I.nt out c=some ac) {ex:Ex} {f':Fr} {h':H} {μ:Mu} {L:Nat→Nat} {f:Fr} {h:H} {act:Act} {w:World} {Q:Exit→Act→World→Prop},
 cO T μ L f act.tmps h w→run call lf ac f h=some (ex,f',h')→bR T μ act f' h' (Q (Jt ex))→c.wp T.P Q act w:=by
 intro c
 induction c with
 |skip=>
  intro out ac hc ex f' h' μ L f h act w Q hi hr hk
  simp[gU]at hc
  subst hc
  simp only[run,Option.some.injEq,Prod.mk.injEq]at hr
  obtain⟨rfl,rfl,rfl⟩:=hr
  exact wp_skip (hk μ L act w hi (cf.refl _) rfl)
 |region id ops draw=>
  intro out ac hc ex f' h' μ L f h act w Q hi hr hk
  simp only[gU]at hc
  obtain⟨its,rfl⟩:=Hs hc
  simp only[run]at hr
  split at hr
  ·rename_i f1 h1 e
   simp only[Option.some.injEq,Prod.mk.injEq]at hr
   obtain⟨rfl,rfl,rfl⟩:=hr
   exact HL hi hcall hc e hk
  ·simp at hr
 |seq a b iha ihb=>
  intro out ac hc ex f' h' μ L f h act w Q hi hr hk
  simp only[gU]at hc
  split at hc
  ·rename_i x y h1 h2
   simp at hc
   subst hc
   simp only[run]at hr
   refine wp_seq ?_
   split at hr
   ·rename_i f1 k1 e
    exact iha h1 hi e fun μ1 L1 act1 w1 hi1 hm1 hd1=>ihb h2 hi1 hr (hk.trans hm1 hd1)
   ·rename_i hne
    cases hra:run call lf x f h with
    |none=>rw[hra]at hr;simp at hr
    |some r=>
     obtain⟨ex1,f1,k1⟩:=r
     rw[hra]at hr
     simp only[Option.some.injEq,Prod.mk.injEq]at hr
     obtain⟨rfl,rfl,rfl⟩:=hr
     refine iha h1 hi hra ?_
     cases ex1 with
     |norm=>exact absurd hra (hne _ _)
     |exit id=>exact hk
     |ret=>exact hk
  ·simp at hc
 |cond x a b iha ihb=>
  intro out ac hc ex f' h' μ L f h act w Q hi hr hk
  simp only[gU]at hc
  split at hc
  ·rename_i z y1 y2 hz h1 h2
   simp at hc
   subst hc
   simp only[run]at hr
   split at hr
   ·rename_i e
    exact wp_cond_true (bb hi.fp hz e) (iha h1 hi hr hk)
   ·rename_i e
    exact wp_cond_false (bb hi.fp hz e) (ihb h2 hi hr hk)
   ·simp at hr
  ·simp at hc
 |block id b ihb=>
  intro out ac hc ex f' h' μ L f h act w Q hi hr hk
  simp only[gU]at hc
  split at hc
  ·rename_i x h1
   simp at hc
   subst hc
   simp only[run]at hr
   refine wp_block ?_
   cases hrb:run call lf x f h with
   |none=>rw[hrb]at hr;simp at hr
   |some r=>
    obtain⟨ex1,f1,k1⟩:=r
    rw[hrb]at hr
    cases ex1 with
    |norm=>
     simp only[Option.some.injEq,Prod.mk.injEq]at hr
     obtain⟨rfl,rfl,rfl⟩:=hr
     exact ihb h1 hi hrb hk
    |ret=>
     simp only[Option.some.injEq,Prod.mk.injEq]at hr
     obtain⟨rfl,rfl,rfl⟩:=hr
     exact ihb h1 hi hrb hk
    |exit id'=>
     simp only at hr
     refine ihb h1 hi hrb ?_
     intro μ1 L1 act1 w1 hi1 hm1 hd1
     simp only[Jt,Exit.inBlock]
     split at hr
     ·rename_i e
      simp only[Option.some.injEq,Prod.mk.injEq]at hr
      obtain⟨rfl,rfl,rfl⟩:=hr
      rw[if_pos e]
      exact hk μ1 L1 act1 w1 hi1 hm1 hd1
     ·rename_i e
      simp only[Option.some.injEq,Prod.mk.injEq]at hr
      obtain⟨rfl,rfl,rfl⟩:=hr
      rw[if_neg e]
      exact hk μ1 L1 act1 w1 hi1 hm1 hd1
  ·simp at hc
 |loop b ihb=>
  intro out ac hc ex f' h' μ L f h act w Q hi hr hk
  simp only[gU]at hc
  split at hc
  ·rename_i x h1
   split at hc
   ·rename_i henv
    simp only[Option.some.injEq]at hc
    subst hc
    simp only[run]at hr
    refine He (fun n act1 w1=>∃μ1 L1 f1 k1,cO T μ1 L1 f1 act1.tmps k1 w1∧cf μ μ1∧act1.defers=act.defers∧rounds (run call lf x) _ n f1 k1=some (ex,f',h')) ?_ ⟨μ,L,f,h,hi,cf.refl _,rfl,hr⟩
    intro n act1 w1 ⟨μ1,L1,f1,k1,hi1,hm1,hd1,hr1⟩
    cases n with
    |zero=>simp[rounds]at hr1
    |succ n=>
     simp only[rounds]at hr1
     have hi2:=hi1.forget (ds:=bitsOf (jw (opsOf b) ^^^ jw (opsOf b) &&& out) T.I.nt) (fun s r o hs hrd=>by
      obtain⟨q1,_⟩:=hi1.fp.rty s r o hs
      have q2:=yZ q1
      have q3:=List.all_eq_true.1 henv (s,r) q2
      simp only[Bool.or_eq_true,Bool.not_eq_true',List.contains_iff_mem]at q3
      rcases q3 with q3|q3
      ·rw[rP hrd]at q3;cases q3
      ·exact q3)
     cases hrb:run call lf x (Eng.forget f1 (bitsOf (jw (opsOf b) ^^^ jw (opsOf b) &&& out) T.I.nt)) k1 with
     |none=>rw[hrb]at hr1;simp at hr1
     |some r=>
      obtain⟨ex2,f2,k2⟩:=r
      rw[hrb]at hr1
      cases ex2 with
      |norm=>
       exact ihb h1 hi2 hrb fun μ3 L3 act3 w3 hi3 hm3 hd3=>⟨n,by omega,μ3,L3,f2,k2,hi3,hm1.trans hm3,hd3.trans hd1,hr1⟩
      |exit id=>
       simp only[Option.some.injEq,Prod.mk.injEq]at hr1
       obtain⟨rfl,rfl,rfl⟩:=hr1
       exact ihb h1 hi2 hrb (bR.trans (K:=Q _) hm1 hd1 hk)
      |ret=>
       simp only[Option.some.injEq,Prod.mk.injEq]at hr1
       obtain⟨rfl,rfl,rfl⟩:=hr1
       exact ihb h1 hi2 hrb (bR.trans (K:=Q _) hm1 hd1 hk)
   ·simp at hc
  ·simp at hc
 |exit id=>
  intro out ac hc ex f' h' μ L f h act w Q hi hr hk
  simp[gU]at hc
  subst hc
  simp only[run,Option.some.injEq,Prod.mk.injEq]at hr
  obtain⟨rfl,rfl,rfl⟩:=hr
  exact wp_exit (hk μ L act w hi (cf.refl _) rfl)
 |ret=>
  intro out ac hc ex f' h' μ L f h act w Q hi hr hk
  simp[gU]at hc
  subst hc
  simp only[run,Option.some.injEq,Prod.mk.injEq]at hr
  obtain⟨rfl,rfl,rfl⟩:=hr
  exact wp_ret (hk μ L act w hi (cf.refl _) rfl)
 |_=>
  intro out ac hc
  simp[gU]at hc
theorem xP:∀(vs:List (Bool×List C)) (f:Fr) (n s:Nat),(cZ f n vs).get s=if n≤s then(match vs[s - n]? with|some (g,cs)=> .val g cs|none=>f.get s)else f.get s
 | [],f,n,s=>by simp[cZ]
 |(g,cs)::r,f,n,s=>by
  rw[cZ,xP r,Fr.bp]
  by_cases h1:n+1≤s
  ·have e1:s - n=(s - (n+1))+1:=by omega
   have e2:n≤s:=by omega
   have e3:s≠n:=by omega
   rw[if_pos h1,if_pos e2,if_neg e3,e1,List.getElem?_cons_succ]
  ·rw[if_neg h1]
   by_cases h2:s=n
   ·subst h2
    simp
   ·have:¬n≤s:=by omega
    rw[if_neg h2,if_neg this]
def Kw (tm:Array Value) (r:ResultVar):Sem Value:=
 match r with
 | .tmp t=>pure (tm.getD t undef)
 | .cell a t=>do loadVar t (←asAddr (tm.getD a undef))
theorem HX (hi:cO T μ L f act.tmps h w):∀ {rs:List ResultVar} {res:List RV} {vs:List (Bool×List C)},A8 T.P rs=some res→rX f res=some vs→
 ∃us:List Value,(rs.mapM (Kw act.tmps)).run T.P w= .ok us w∧ah (fun p u=>VG μ p.1 p.2 u) vs us
 | [],res,vs,h1,h2=>by
   simp[A8]at h1
   subst h1
   simp[rX]at h2
   subst h2
   exact⟨[],by simp,trivial⟩
 |r::rs,res,vs,h1,h2=>by
  simp only[A8]at h1
  split at h1
  ·rename_i v vs' e1 e2
   simp at h1
   subst h1
   simp only[rX]at h2
   split at h2
   ·rename_i u us' e3 e4
    simp at h2
    subst h2
    obtain⟨us,k1,k2⟩:=HX hi e2 e4
    cases r with
    |tmp t=>
     simp[NB]at e1
     subst e1
     simp only[zp]at e3
     refine⟨act.tmps.getD t undef::us,?_,gx hi.fp (x:= .tmp t) rfl e3,k2⟩
     rw[List.mapM_cons]
     simp only[Kw,Sem.run_bind,Sem.run_pure,Result.andThen_ok,k1]
    |cell a t=>
     simp only[NB]at e1
     split at e1
     ·rename_i n g hs
      simp at e1
      subst e1
      simp only[zp]at e3
      split at e3
      ·rename_i cs hb
       split at e3
       ·rename_i hn
        simp at e3
        subst e3
        have hv:act.tmps.getD a undef= .pointer (some ⟨L a,0,none⟩):=by have:=hi.fp.slots a;rw[hb]at this;exact this
        obtain⟨ty,arr,q1,q2⟩:=ES hi.fp hb
        obtain⟨v,q3,q4⟩:=od hs w ⟨L a,0,none⟩ hn.symm q2 (fun j v hj=>by rw[fZ,Nat.zero_add];exact sc q1 hj)
        refine⟨v::us,?_,q4,k2⟩
        rw[List.mapM_cons]
        simp only[Kw,Sem.run_bind,Sem.run_pure,Result.andThen_ok,k1,hv,asAddr,q3]
       ·simp at e3
      ·simp at e3
     ·simp at e1
   ·simp at h2
  ·simp at h1
theorem EC (hi:cO T μ L f act.tmps h w) {fn:Func} {res:List RV} (h1:A8 T.P fn.results.toList=some res) {v:V} (h2:kl f res=some v):∃r,(results fn act.tmps).run T.P w= .ok r w∧VR μ v r:=by
 unfold kl at h2
 have main:∀vs,rX f res=some vs→∃us:List Value,us.length=vs.length∧ah (fun p u=>VG μ p.1 p.2 u) vs us∧(results fn act.tmps).run T.P w= .ok (if h:us.toArray.size=1 then us.toArray[0]else .tuple us.toArray) w:=by
  intro vs hvs
  obtain⟨us,k1,k2⟩:=HX hi h1 hvs
  refine⟨us,k2.length.symm,k2,?_⟩
  have e0:results fn act.tmps=(do let vs ←fn.results.mapM (Kw act.tmps);pure (if h:vs.size=1 then vs[0]else .tuple vs)):=rfl
  rw[e0,Array.mapM_eq_mapM_toList]
  simp only[Sem.run_bind,Sem.run_map,k1]
  rfl
 split at h2
 ·rename_i g cs hvs
  simp at h2
  subst h2
  obtain⟨us,k1,k2,k3⟩:=main _ hvs
  match us,k1,k2 with
  | [u],_,k2=>exact⟨u,k3,k2.1⟩
 ·rename_i vs hne hvs
  simp at h2
  subst h2
  obtain⟨us,k1,k2,k3⟩:=main _ hvs
  refine⟨.tuple us.toArray,?_,us.toArray,rfl,by simpa using k2⟩
  have:¬us.toArray.size=1:=by
   intro e
   have e1:vs.length=1:=by rw[←k1];simpa using e
   match vs,e1 with
   | [(g,cs)],_=>exact hne g cs rfl
  rw[dif_neg this]at k3
  exact k3
 ·simp at h2
end
theorem N2 {P:Program} {call:dP} (hcall:iI P call) {lf g:Nat} {fn:Func} {af:AF} (hf:P.funcs[g]? =some fn) (hc:H8 P fn=some af) {vs:List (Bool×List C)} {h:H} {v:V} {h':H} (hr:Dx call lf af vs h=some (v,h')):
 ((fn.name== "runtime.NumGoroutine")=false∧fn.body.isNone=false)∧
 ∀(T:Ctx) (μ:Mu) (w:World) (args:Array Value),T.P=P→HP T μ h w→ah (fun p u=>VG μ p.1 p.2 u) vs args.toList→
  Calls P g args w fun
   | .returned r,w'=>∃μ',cf μ μ'∧HP T μ' h' w'∧VR μ' v r
   |_,_=>False:=by
 unfold H8 at hc
 split at hc
 ·simp at hc
 ·rename_i hname
  split at hc
  ·rename_i b res hb hres
   simp only at hc
   split at hc
   ·rename_i c hcc
    split at hc
    ·rename_i hle
     simp only[Option.some.injEq]at hc
     subst hc
     refine⟨⟨by simpa using hname,by rw[hb];rfl⟩,fun T μ w args hP hh hargs=> ?_⟩
     obtain⟨TP,TI,Tb,Tw,TB⟩:=T
     simp only at hP
     subst hP
     unfold Dx at hr
     split at hr
     ·rename_i hlen
      simp only at hlen
      have hasz:args.size=vs.length:=by have:=hargs.length;simp at this;omega
      let T':Ctx:=⟨TP,⟨IQ TP fn (opsOf b),pn TP (IQ TP fn (opsOf b)) [] (opsOf b),Co (opsOf b),fn.ntmps⟩,Tb,Tw,TB⟩
      have hh':HP T' μ h w:=HP.ML (T:=⟨TP,TI,Tb,Tw,TB⟩) (T':=T') rfl rfl rfl hh
      have hget:∀s,(cZ (PT.full (depth fn.ntmps)) 0 vs:Fr).get s=match vs[s]? with|some (g,cs)=> .val g cs|none=> .any:=fun s=>by
       rw[xP,if_pos (Nat.zero_le _),Nat.sub_zero,Fr.fg]
      have hnl:∀s cs,loc ((cZ (PT.full (depth fn.ntmps)) 0 vs:Fr).get s)≠some cs:=fun s cs e=>by
       rw[hget]at e
       split at e <;>cases e
      have hi:cO T' μ (fun _=>0) (cZ (PT.full (depth fn.ntmps)) 0 vs) (args++Array.replicate (fn.ntmps - args.size) undef) h w:=by
       refine⟨hh',⟨?_,fun s=> ?_,fun s cs hs=>absurd hs (hnl s cs),fun s t cs ds _ _ ht=>absurd ht (hnl t ds),fun s cs hs=>absurd (show loc _=some cs by rw[hs];rfl) (hnl s cs),fun s r o hs=> ?_⟩,fun s cs id p ty ds hs=>absurd hs (hnl s cs)⟩
       ·simp only[Array.size_append,Array.size_replicate]
        show args.size+(fn.ntmps - args.size)=fn.ntmps
        omega
       ·rw[hget]
        cases e:vs[s]? with
        |none=>trivial
        |some p=>
         obtain⟨u,h1,h2⟩:=hargs.get e
         have h1':args[s]? =some u:=by simpa using h1
         obtain⟨hlt,h3⟩:=Array.getElem?_eq_some_iff.1 h1'
         have:(args++Array.replicate (fn.ntmps - args.size) undef).getD s undef=u:=by
          rw[Array.getD_eq_getD_getElem?,Array.getElem?_append_left hlt,h1']
          rfl
         rw[this]
         exact h2
       ·rw[hget]at hs
        split at hs <;>cases hs
      have hend:∀ex fE hE,run call lf c (cZ (PT.full (depth fn.ntmps)) 0 vs) h=some (ex,fE,hE)→(ex= .norm∨ex= .ret)→∀u,kl fE res=some u→Calls TP g args w fun
       | .returned r,w'=>∃μ',cf μ μ'∧HP ⟨TP,TI,Tb,Tw,TB⟩ μ' hE w'∧VR μ' u r
       |_,_=>False:=by
       intro ex fE hE hrun hex u hu
       refine calls_of_wp hf hb (LO (T:=T') (act:= {tmps:=args++Array.replicate (fn.ntmps - args.size) undef,defers:= []}) hcall b hcc hi hrun ?_)
       intro μ' L' act' w' hi' hm' hd'
       obtain⟨r,h1,h2⟩:=EC hi' hres hu
       have:act'.defers= []∧∃v,(results fn act'.tmps).run TP w'= .ok v w'∧∃μ',cf μ μ'∧HP ⟨TP,TI,Tb,Tw,TB⟩ μ' hE w'∧VR μ' u v:=⟨hd',r,h1,μ',hm',HP.ML (T:=T') (T':=⟨TP,TI,Tb,Tw,TB⟩) rfl rfl rfl hi'.hp,h2⟩
       rcases hex with rfl|rfl
       ·exact this
       ·exact this
      split at hr
      ·rename_i fE hE hrun
       split at hr
       ·rename_i u hu
        simp only[Option.some.injEq,Prod.mk.injEq]at hr
        obtain⟨rfl,rfl⟩:=hr
        exact hend _ _ _ hrun (.inl rfl) _ hu
       ·simp at hr
      ·rename_i fE hE hrun
       split at hr
       ·rename_i u hu
        simp only[Option.some.injEq,Prod.mk.injEq]at hr
        obtain⟨rfl,rfl⟩:=hr
        exact hend _ _ _ hrun (.inr rfl) _ hu
       ·simp at hr
      ·simp at hr
     ·simp at hr
    ·simp at hc
   ·simp at hc
  ·simp at hc
theorem Dp (P:Program):∀n,iI P (ep (code P) n)
 |0=>fun g vs h v h' hr=>by simp[ep]at hr
 |n+1=>fun g vs h v h' hr=>by
  simp only[ep]at hr
  split at hr
  ·rename_i a ha
   unfold code at ha
   split at ha
   ·rename_i fn hfn
    obtain⟨h1,h2⟩:=N2 (Dp P n) hfn ha hr
    exact⟨⟨fn,hfn,h1.1,h1.2⟩,h2⟩
   ·simp at ha
  ·simp at hr
end Go.Eng
namespace Go.Eng
inductive Ty where
 |int (k:IntKind)
 |bool
 |str
 |sl (t:Ty)
 |st (ts:List Ty)
inductive Tv where
 |i (n:Int)
 |b (x:Bool)
 |s (x:ByteArray)
 |l (xs:List Tv)
 |r (xs:List Tv)
mutual
def Ty.size:Ty→Nat
 | .st ts=>Ty.aU ts
 |_=>1
def Ty.aU:List Ty→Nat
 | []=>0
 |t::ts=>t.size+Ty.aU ts
end
def Ty.agg:Ty→Bool
 | .st _=>true
 |_=>false
def bq (R:List C→Tv→List Nat→Prop):List Tv→List C→List Nat→Prop
 | [],cs,S=>cs= []∧S= []
 |x::xs,cs,S=>∃c1 c2 S1 S2,cs=c1++c2∧S=S1++S2∧R c1 x S1∧bq R xs c2 S2
mutual
def Rp (h:H):Ty→List C→Tv→List Nat→Prop
 | .int k,cs,v,S=>∃n,cs= [.int k n]∧v= .i n∧S= []∧k.min≤n∧n≤k.max
 | .bool,cs,v,S=>∃b,cs= [.bool b]∧v= .b b∧S= []
 | .str,cs,v,S=>∃s,cs= [.str s]∧v= .s s∧S= []∧s.size≤maxLen
 | .sl t,cs,v,S=>∃xs,v= .l xs∧xs.length≤maxLen∧((xs= []∧S= []∧(cs= [.nils]∨cs= [.emp]))∨
    ∃id off bs S' e,cs= [.sl id off xs.length e]∧h.cells id=some bs∧off+xs.length * t.size≤bs.length∧S=id::S'∧bq (Rp h t) xs ((bs.drop off).take (xs.length * t.size)) S'∧(e=t.size∨xs= []))
 | .st ts,cs,v,S=>∃vs,v= .r vs∧Rs h ts cs vs S
def Rs (h:H):List Ty→List C→List Tv→List Nat→Prop
 | [],cs,vs,S=>cs= []∧vs= []∧S= []
 |t::ts,cs,vs,S=>∃c1 c2 v vr S1 S2,cs=c1++c2∧vs=v::vr∧S=S1++S2∧Rp h t c1 v S1∧Rs h ts c2 vr S2
end
theorem bq.imp {R R':List C→Tv→List Nat→Prop}:∀ {xs:List Tv} {cs:List C} {S:List Nat},(∀c x S',(∀i∈S',i∈S)→R c x S'→R' c x S')→bq R xs cs S→bq R' xs cs S
 | [],_,_,_,h=>h
 |x::xs,cs,S,hr,⟨c1,c2,S1,S2,h1,h2,h3,h4⟩=>⟨c1,c2,S1,S2,h1,h2,hr _ _ _ (fun i hi=>by rw[h2];simp[hi]) h3,bq.imp (fun c x S' hs=>hr c x S' (fun i hi=>by rw[h2];simp[hs i hi])) h4⟩
theorem bq.all {P:Nat→Prop}:∀ {xs:List Tv} {cs:List C} {S:List Nat},bq (fun _ _ S'=>∀i∈S',P i) xs cs S→∀i∈S,P i
 | [],_,_,⟨_,e⟩,i,hi=>by rw[e]at hi;cases hi
 |x::xs,cs,S,⟨c1,c2,S1,S2,e1,e2,e3,e4⟩,i,hi=>by
  rw[e2]at hi
  rcases List.mem_append.1 hi with hi|hi
  ·exact e3 i hi
  ·exact bq.all e4 i hi
mutual
theorem Rp.frame {h h':H}:∀ {t:Ty} {cs:List C} {v:Tv} {S:List Nat},Rp h t cs v S→(∀i∈S,h'.cells i=h.cells i)→Rp h' t cs v S
 | .int k,cs,v,S,hr,_=>hr
 | .bool,cs,v,S,hr,_=>hr
 | .str,cs,v,S,hr,_=>hr
 | .sl t,cs,v,S,⟨xs,h1,hm,h2⟩,hs=>by
   refine⟨xs,h1,hm,?_⟩
   rcases h2 with h2|⟨id,off,bs,S',e0,h3,h4,h5,h6,h7,h8⟩
   ·exact .inl h2
   ·refine .inr ⟨id,off,bs,S',e0,h3,(hs id (by rw[h6];simp)).trans h4,h5,h6,?_,h8⟩
    exact h7.imp fun c x S'' hsub hx=>Rp.frame hx fun i hi=>hs i (by rw[h6];simp[hsub i hi])
 | .st ts,cs,v,S,⟨vs,h1,h2⟩,hs=>⟨vs,h1,Rs.frame h2 hs⟩
theorem Rs.frame {h h':H}:∀ {ts:List Ty} {cs:List C} {vs:List Tv} {S:List Nat},Rs h ts cs vs S→(∀i∈S,h'.cells i=h.cells i)→Rs h' ts cs vs S
 | [],cs,vs,S,hr,_=>hr
 |t::ts,cs,vs,S,⟨c1,c2,v,vr,S1,S2,h1,h2,h3,h4,h5⟩,hs=>⟨c1,c2,v,vr,S1,S2,h1,h2,h3,Rp.frame h4 fun i hi=>hs i (by rw[h3];simp[hi]),Rs.frame h5 fun i hi=>hs i (by rw[h3];simp[hi])⟩
end
theorem uZ {h t:H} {i:Nat} (hi:i < h.length):(h++t:H).cells i=h.cells i:=cg (List.getElem?_append_left hi)
mutual
theorem Rp.lt {h:H}:∀ {t:Ty} {cs:List C} {v:Tv} {S:List Nat},Rp h t cs v S→∀i∈S,i < h.length
 | .int k,cs,v,S,⟨_,_,_,e,_⟩,i,hi=>by rw[e]at hi;cases hi
 | .bool,cs,v,S,⟨_,_,_,e⟩,i,hi=>by rw[e]at hi;cases hi
 | .str,cs,v,S,⟨_,_,_,e,_⟩,i,hi=>by rw[e]at hi;cases hi
 | .sl t,cs,v,S,⟨xs,h1,hm,h2⟩,i,hi=>by
   rcases h2 with⟨_,e,_⟩|⟨id,off,bs,S',_,h3,h4,h5,h6,h7,_⟩
   ·rw[e]at hi;cases hi
   ·rw[h6]at hi
    rcases List.mem_cons.1 hi with rfl|hi
    ·unfold H.cells at h4
     rcases Nat.lt_or_ge i h.length with hl|hl
     ·exact hl
     ·rw[List.getElem?_eq_none hl]at h4;simp at h4
    ·exact bq.all (h7.imp fun c x S'' _ hx=>Rp.lt hx) i hi
 | .st ts,cs,v,S,⟨vs,h1,h2⟩,i,hi=>Rs.lt h2 i hi
theorem Rs.lt {h:H}:∀ {ts:List Ty} {cs:List C} {vs:List Tv} {S:List Nat},Rs h ts cs vs S→∀i∈S,i < h.length
 | [],cs,vs,S,⟨_,_,e⟩,i,hi=>by rw[e]at hi;cases hi
 |t::ts,cs,vs,S,⟨c1,c2,v,vr,S1,S2,h1,h2,h3,h4,h5⟩,i,hi=>by
  rw[h3]at hi
  rcases List.mem_append.1 hi with hi|hi
  ·exact Rp.lt h4 i hi
  ·exact Rs.lt h5 i hi
end
mutual
theorem Rp.size {h:H}:∀ {t:Ty} {cs:List C} {v:Tv} {S:List Nat},Rp h t cs v S→cs.length=t.size
 | .int k,cs,v,S,⟨_,e,_⟩=>by rw[e];rfl
 | .bool,cs,v,S,⟨_,e,_⟩=>by rw[e];rfl
 | .str,cs,v,S,⟨_,e,_⟩=>by rw[e];rfl
 | .sl t,cs,v,S,⟨xs,h1,hm,h2⟩=>by
   rcases h2 with⟨_,_,e|e⟩|⟨id,off,bs,S',_,e,_⟩ <;>rw[e] <;>rfl
 | .st ts,cs,v,S,⟨vs,h1,h2⟩=>Rs.size h2
theorem Rs.size {h:H}:∀ {ts:List Ty} {cs:List C} {vs:List Tv} {S:List Nat},Rs h ts cs vs S→cs.length=Ty.aU ts
 | [],cs,vs,S,⟨e,_⟩=>by rw[e];rfl
 |t::ts,cs,vs,S,⟨c1,c2,v,vr,S1,S2,h1,h2,h3,h4,h5⟩=>by
  rw[h1,List.length_append,Rp.size h4,Rs.size h5];rfl
end
mutual
def CP (P:Program):Nat→TypeId→Option Ty
 |0,_=>none
 |n+1,t=>
  match P.underlying t with
  |some (.int k)=>some (.int k)
  |some .bool=>some .bool
  |some .string=>some .str
  |some (.slice e)=>match CP P n e with
   |some te=>if te.size=P.cellsOf e∧0 < te.size then some (.sl te)else none
   |none=>none
  |some (.struct fs)=>match AA P n 0 fs.toList with
   |some ts=>if Ty.aU ts=P.cellsOf t then some (.st ts)else none
   |none=>none
  |_=>none
def AA (P:Program):Nat→Nat→List Field→Option (List Ty)
 |0,_,_=>none
 |_+1,_,[]=>some []
 |n+1,off,f::fs=>match CP P n f.type,AA P n (off+P.cellsOf f.type) fs with
  |some t,some ts=>if f.offset=off∧t.size=P.cellsOf f.type then some (t::ts)else none
  |_,_=>none
end
section
variable {X:Type} {enc:TypeId×Value→X} {P:Program} {w:World} {held:Bool}
structure RO (w:World) (μ:Mu) (h:H):Prop where
 dom:∀id p,μ id=some p→id < h.length
 ro:∀(id:Nat) (b:tO),h[id]? =some b→∃cs,b=tO.ro cs
 at_:∀(id:Nat) (p:Pl) (cs:List C),μ id=some p→h[id]? =some (tO.ro cs)→p.fO < w.heap.size∧∀(i:Nat) (c:C),cs[i]? =some c→∃u,w.cell? ⟨p.fO,p.off+i,none⟩=some u∧CR μ c u
def MG (w:World) (μ:Mu) (h:H) (T:Ty) (cs:List Value):Prop:=
 ∃t μ' xs v S,RO w μ' (h++t)∧cf μ μ'∧ah (CR μ') xs cs∧Rp (h++t) T xs v S
theorem RO.new {μ:Mu} {h:H} (hr:RO w μ h) {p:Pl} {cs:List C} (hp:p.fO < w.heap.size) (hc:∀i c,cs[i]? =some c→∃u,w.cell? ⟨p.fO,p.off+i,none⟩=some u∧CR μ c u):
 RO w (fun id=>if id=h.length then some p else μ id) (h++ [.ro cs])∧cf μ (fun id=>if id=h.length then some p else μ id):=by
 have hm:cf μ (fun id=>if id=h.length then some p else μ id):=fun id q e=>by
  have:=hr.dom id q e
  simp only[if_neg (show id≠h.length by omega)]
  exact e
 have hg:∀id b,(h++ [tO.ro cs])[id]? =some b→(id=h.length∧b= .ro cs)∨(id≠h.length∧h[id]? =some b):=fun id b e=>by
  by_cases hl:id < h.length
  ·rw[List.getElem?_append_left hl]at e;exact .inr ⟨by omega,e⟩
  ·rw[List.getElem?_append_right (by omega)]at e
   have hlt:=(List.getElem?_eq_some_iff.1 e).1
   simp at hlt
   have:id=h.length:=by omega
   subst this
   simp at e
   exact .inl ⟨rfl,e.symm⟩
 refine⟨⟨fun id q e=> ?_,fun id b e=> ?_,fun id q cs' e1 e2=> ?_⟩,hm⟩
 ·by_cases h1:id=h.length
  ·simp[h1]
  ·simp only[if_neg h1]at e;have:=hr.dom id q e;simp;omega
 ·rcases hg id b e with⟨_,e⟩|⟨_,e⟩
  ·exact⟨cs,e⟩
  ·exact hr.ro id b e
 ·rcases hg id _ e2 with⟨h1,e3⟩|⟨h1,e3⟩
  ·simp only[if_pos h1]at e1
   cases e1;cases e3
   exact⟨hp,fun i c hi=>let ⟨u,h2,h3⟩:=hc i c hi;⟨u,h2,h3.mono hm⟩⟩
  ·simp only[if_neg h1]at e1
   obtain⟨k1,k2⟩:=hr.at_ id q cs' e1 e3
   exact⟨k1,fun i c hi=>let ⟨u,h2,h3⟩:=k2 i c hi;⟨u,h2,h3.mono hm⟩⟩
theorem Rp.app {h t:H} {T:Ty} {cs:List C} {v:Tv} {S:List Nat} (hr:Rp h T cs v S):Rp (h++t) T cs v S:=hr.frame fun i hi=>uZ (hr.lt i hi)
theorem vj {T:Ty} {s:Nat} {a:Addr}:∀(m i:Nat),(∀k,k < m→∃cs,w.cells? 0 (a.add ((i+k) * s)) s=some cs∧∀μ h,RO w μ h→MG w μ h T cs)→∀μ h,RO w μ h→
 ∃us:List Value,us.length=m * s∧(∀j u,us[j]? =some u→w.cell? (a.add (i * s+j))=some u)∧∃t μ' xs vs S,RO w μ' (h++t)∧cf μ μ'∧ah (CR μ') xs us∧vs.length=m∧bq (Rp (h++t) T) vs xs S
 |0,i,_,μ,h,hr=>⟨[],by simp,fun j u e=>by simp at e,[],μ,[],[],[],by simpa using hr,cf.refl _,trivial,rfl,rfl,rfl⟩
 |m+1,i,hk,μ,h,hr=>by
  obtain⟨cs,h1,h2⟩:=hk 0 (by omega)
  obtain⟨t1,μ1,xs1,v1,S1,k1,k2,k3,k4⟩:=h2 μ h hr
  obtain⟨us,q1,q2,t2,μ2,xs2,vs2,S2,q3,q4,q5,q6,q7⟩:=vj m (i+1) (fun k hlt=>by
   have:=hk (k+1) (by omega)
   have e:i+(k+1)=i+1+k:=by omega
   rwa [e]at this) μ1 (h++t1) k1
  obtain⟨_,hlen,hcell⟩:=World.cells?_some h1
  refine⟨cs++us,by rw[List.length_append,hlen,q1,Nat.add_mul,Nat.one_mul,Nat.add_comm],fun j u hj=> ?_,t1++t2,μ2,xs1++xs2,v1::vs2,S1++S2,by rw[←List.append_assoc];exact q3,k2.trans q4,(k3.imp fun _ _=>CR.mono q4).append q5,by simp[q6],?_⟩
  ·by_cases hjs:j < s
   ·rw[List.getElem?_append_left (by omega)]at hj
    have:=hcell j hjs
    rw[hj,Nat.add_zero,Addr.add_add]at this
    exact this
   ·rw[List.getElem?_append_right (by omega)]at hj
    have:=q2 _ u hj
    rw[hlen]at this
    have e:(i+1) * s+(j - s)=i * s+j:=by rw[Nat.add_mul,Nat.one_mul];omega
    rwa [e]at this
  ·rw[←List.append_assoc]
   exact⟨xs1,xs2,S1,S2,rfl,rfl,k4.app,q7⟩
mutual
theorem BV:∀ {n:Nat} {t:TypeId} {T:Ty},CP P n t=some T→∀ {fuel:Nat} {cs:List Value} {x:DataW X×List MemPlace},DataW.trod enc P w 0 (fun _=>true) held fuel t cs=some x→∀μ h,RO w μ h→MG w μ h T cs
 |0,_,_,ht,_,_,_,_,_,_,_=>by simp[CP]at ht
 |n+1,t,T,ht,fuel,cs,x,hx,μ,h,hr=>by
  simp only[CP]at ht
  split at ht
  ·rename_i k hu
   simp at ht
   subst ht
   cases fuel with
   |zero=>simp[DataW.trod]at hx
   |succ fuel=>
    unfold DataW.trod at hx
    rw[hu]at hx
    split at hx <;>simp_all
    obtain⟨⟨rfl,hw⟩,_⟩:=hx
    simp only[Lit.wf,Bool.and_eq_true,decide_eq_true_eq]at hw
    exact⟨[],μ,[.int _ _], .i _,[],by simpa using hr,cf.refl _,⟨rfl,trivial⟩,_,rfl,rfl,rfl,hw.1,hw.2⟩
  ·rename_i hu
   simp at ht
   subst ht
   cases fuel with
   |zero=>simp[DataW.trod]at hx
   |succ fuel=>
    unfold DataW.trod at hx
    rw[hu]at hx
    split at hx <;>simp_all
    exact⟨[],μ,[.bool _], .b _,[],by simpa using hr,cf.refl _,⟨rfl,trivial⟩,_,rfl,rfl,rfl⟩
  ·rename_i hu
   simp at ht
   subst ht
   cases fuel with
   |zero=>simp[DataW.trod]at hx
   |succ fuel=>
    unfold DataW.trod at hx
    rw[hu]at hx
    split at hx <;>simp_all
    obtain⟨hw,_⟩:=hx
    exact⟨[],μ,[.str _], .s _,[],by simpa using hr,cf.refl _,⟨rfl,trivial⟩,_,rfl,rfl,rfl,hw⟩
  ·rename_i e hu
   split at ht
   ·rename_i te hte
    split at ht
    ·rename_i hcond
     obtain⟨hts,hpos⟩:=hcond
     simp at ht
     subst ht
     rcases DataW.trod_slice hu hx with⟨rfl,_⟩|⟨a,len,cap,elems,rest,m,_,rfl,_,_,hle,hmax,hlen,hel,hsp,_⟩
     ·exact⟨[],μ,[.nils], .l [],[],by simpa using hr,cf.refl _,⟨rfl,trivial⟩,[],rfl,by simp, .inl ⟨rfl,rfl, .inl rfl⟩⟩
     ·by_cases hc0:cap=0
      ·subst hc0
       have hl0:len=0:=by omega
       subst hl0
       exact⟨[],μ,[.emp], .l [],[],by simpa using hr,cf.refl _,⟨⟨a,rfl⟩,trivial⟩,[],rfl,by simp, .inl ⟨rfl,rfl, .inr rfl⟩⟩
      ·have hone:∀k,k < cap→∃cs,w.cells? 0 (a.add (k * P.cellsOf e)) (P.cellsOf e)=some cs∧∃y,DataW.trod enc P w 0 (fun _=>true) held m e cs=some y:=by
        intro k hk
        have hb:∃y,(w.cells? 0 (a.add (k * P.cellsOf e)) (P.cellsOf e)).bind (DataW.trod enc P w 0 (fun _=>true) held m e)=some y:=by
         by_cases hkl:k < len
         ·rw[hel k hkl]
          exact⟨elems[k]'(by omega),List.getElem?_eq_getElem (by omega)⟩
         ·obtain⟨h1,h2⟩:=hsp rfl
          have:=h2 (k - len) (by omega)
          rw[show len+(k - len)=k by omega]at this
          rw[this]
          exact⟨rest[k - len]'(by omega),List.getElem?_eq_getElem (by omega)⟩
        obtain⟨y,hy⟩:=hb
        obtain⟨cs,h1,h2⟩:=Option.bind_eq_some_iff.1 hy
        exact⟨cs,h1,y,h2⟩
       have hcell0:∃u,w.cell? a=some u:=by
        obtain⟨cs,h1,_⟩:=hone 0 (by omega)
        obtain⟨_,hl,hc⟩:=World.cells?_some h1
        have:=hc 0 (by omega)
        rw[Addr.add_add]at this
        have ea:a.add (0 * P.cellsOf e+0)=a:=by simp[Addr.add]
        rw[ea]at this
        rw[this]
        exact⟨cs[0]'(by omega),List.getElem?_eq_getElem (by omega)⟩
       obtain⟨u0,hu0⟩:=hcell0
       have hspot:=World.cell?_spot hu0
       have hblk:=World.block_lt_of_cell? w a hu0
       obtain⟨b,off,spot⟩:=a
       simp only at hspot
       subst hspot
       obtain⟨us,h1,h2,t,μ',xs,vs,S,h3,h4,h5,h6,h7⟩:=vj (w:=w) (T:=te) (s:=P.cellsOf e) (a:=⟨b,off,none⟩) len 0 (fun k hk=>by
        obtain⟨cs,q1,y,q2⟩:=hone k (by omega)
        rw[Nat.zero_add]
        exact⟨cs,q1,fun μ h hr=>BV hte q2 μ h hr⟩) μ h hr
       have hxl:xs.length=len * te.size:=by rw[h5.length,h1,hts]
       obtain⟨r1,r2⟩:=h3.new (p:=⟨b,off,cap * te.size⟩) (cs:=xs) hblk (fun i c hi=>by
        obtain⟨u,q1,q2⟩:=h5.get hi
        refine⟨u,?_,q2⟩
        have:=h2 i u q1
        rwa [Nat.zero_mul,Nat.zero_add,fZ]at this)
       refine⟨t++ [.ro xs],_,[.sl (h++t).length 0 len te.size], .l vs,(h++t).length::S,by rw[←List.append_assoc];exact r1,h4.trans r2,⟨⟨⟨b,off,cap * te.size⟩,⟨b,off,none⟩,cap,by simp,rfl,hle, .inr rfl,by simp⟩,trivial⟩,vs,rfl,by omega, .inr ⟨(h++t).length,0,xs,S,te.size,by rw[h6],?_,by rw[h6,hxl];omega,rfl,?_, .inl rfl⟩⟩
       ·rw[←List.append_assoc]
        simp[H.cells]
       ·have:(xs.drop 0).take (vs.length * te.size)=xs:=by rw[List.drop_zero,h6,←hxl,List.take_length]
        rw[this,←List.append_assoc]
        exact h7.imp fun c x S' _ hx=>hx.app
    ·simp at ht
   ·simp at ht
  ·rename_i fs hu
   split at ht
   ·rename_i ts hts
    split at ht
    ·rename_i hsz
     simp at ht
     subst ht
     obtain⟨xs,m,_,_,hcl,hxl,hf⟩:=DataW.trod_struct hu hx
     obtain⟨t,μ',ys,vs,S,h1,h2,h3,h4⟩:=vC hts (cs:=cs) (fun i f hi=>by
      have hlt:=(List.getElem?_eq_some_iff.1 hi).1
      have:=hf i f (by simpa using hi)
      rw[List.getElem?_eq_getElem (by simp at hlt;omega)]at this
      exact⟨_,_,this⟩) (by rw[hsz,hcl];omega) μ h hr
     refine⟨t,μ',ys, .r vs,S,h1,h2,?_,vs,rfl,h4⟩
     rw[List.drop_zero]at h3
     rw[hsz,←hcl,List.take_length]at h3
     exact h3
    ·simp at ht
   ·simp at ht
  ·simp at ht
theorem vC:∀ {n off:Nat} {fs:List Field} {ts:List Ty},AA P n off fs=some ts→∀ {cs:List Value},(∀(i:Nat) (f:Field),fs[i]? =some f→∃(m:Nat) (y:DataW X×List MemPlace),DataW.trod enc P w 0 (fun _=>true) held m f.type ((cs.drop f.offset).take (P.cellsOf f.type))=some y)→
 off+Ty.aU ts≤cs.length→∀μ h,RO w μ h→∃t μ' ys vs S,RO w μ' (h++t)∧cf μ μ'∧ah (CR μ') ys ((cs.drop off).take (Ty.aU ts))∧Rs (h++t) ts ys vs S
 |0,_,_,_,ht,_,_,_,_,_,_=>by simp[AA]at ht
 |n+1,off,[],ts,ht,cs,hf,hl,μ,h,hr=>by
  simp[AA]at ht
  subst ht
  exact⟨[],μ,[],[],[],by simpa using hr,cf.refl _,by simp[Ty.aU,ah],rfl,rfl,rfl⟩
 |n+1,off,f::fs,ts,ht,cs,hf,hl,μ,h,hr=>by
  simp only[AA]at ht
  split at ht
  ·rename_i t1 ts1 e1 e2
   split at ht
   ·rename_i hcond
    obtain⟨ho,hs⟩:=hcond
    simp at ht
    subst ht
    obtain⟨m,y,hy⟩:=hf 0 f rfl
    obtain⟨t,μ1,xs,v,S,h1,h2,h3,h4⟩:=BV e1 hy μ h hr
    have hsz:Ty.aU (t1::ts1)=t1.size+Ty.aU ts1:=rfl
    obtain⟨t',μ2,ys,vs,S',q1,q2,q3,q4⟩:=vC e2 (cs:=cs) (fun i f' hi=>hf (i+1) f' (by simpa using hi)) (by rw[hsz]at hl;omega) μ1 (h++t) h1
    refine⟨t++t',μ2,xs++ys,v::vs,S++S',by rw[←List.append_assoc];exact q1,h2.trans q2,?_,xs,ys,v,vs,S,S',rfl,rfl,rfl,by rw[←List.append_assoc];exact h4.app,by rw[←List.append_assoc];exact q4⟩
    rw[hsz,List.take_add,List.drop_drop]
    rw[ho,←hs]at h3
    rw[←hs]at q3
    exact(h3.imp fun _ _=>CR.mono q2).append q3
   ·simp at ht
  ·simp at ht
end
end
end Go.Eng
namespace Go.Eng
open Go.ChangeShapes Go.WideShapes Go.ChangeAt Go.RowKit
def BL (h:H):List Ty→List (Bool×List C)→Prop
 | [],vs=>vs= []
 |T::Ts,vs=>∃cs v S r,vs=(T.agg,cs)::r∧Rp h T cs v S∧BL h Ts r
def HH (P:Program):List TypeId→Option (List Ty)
 | []=>some []
 |t::ts=>match CP P 60 t,HH P ts with
  |some T,some Ts=>some (T::Ts)
  |_,_=>none
section
variable {X:Type} {enc:TypeId×Value→X} {P:Program} {w:World}
theorem BL.app {h t:H}:∀ {Ts:List Ty} {vs:List (Bool×List C)},BL h Ts vs→BL (h++t) Ts vs
 | [],_,h=>h
 |_::_,_,⟨cs,v,S,r,h1,h2,h3⟩=>⟨cs,v,S,r,h1,h2.app,BL.app h3⟩
theorem Ps {μ:Mu} {n:Nat} {t:TypeId} {T:Ty} (ht:CP P n t=some T) {v:Value} {b:Nat} (hv:Value.okWide P w .any b t v) {xs:List C} (hx:ah (CR μ) xs v.cells.toList):VG μ T.agg xs v:=by
 cases n with
 |zero=>simp[CP]at ht
 |succ n=>
  have one:∀c:C,(∀cs,v≠ .agg cs)→xs.length=1→VG μ false xs v:=by
   intro c hna hl
   have hc:v.cells= #[v]:=by cases v <;>first|rfl|exact absurd rfl (hna _)
   rw[hc]at hx
   match xs,hx with
   | [c],hx=>exact⟨c,rfl,hx.1⟩
  have hlen:=hx.length
  simp only[CP]at ht
  split at ht
  ·rename_i k hu
   simp at ht;subst ht
   simp only[Value.okWide,hu,Cell.okWide,Cell.ok]at hv
   cases v <;>simp at hv
   exact one .nilp (fun _ e=>by cases e) (by simpa[Value.cells]using hlen)
  ·rename_i hu
   simp at ht;subst ht
   simp only[Value.okWide,hu,Cell.okWide,Cell.ok]at hv
   cases v <;>simp at hv
   exact one .nilp (fun _ e=>by cases e) (by simpa[Value.cells]using hlen)
  ·rename_i hu
   simp at ht;subst ht
   simp only[Value.okWide,hu,Cell.okWide,Cell.ok]at hv
   cases v <;>simp at hv
   exact one .nilp (fun _ e=>by cases e) (by simpa[Value.cells]using hlen)
  ·rename_i e hu
   split at ht
   ·split at ht
    ·simp at ht;subst ht
     simp only[Value.okWide,hu,Cell.okWide,Cell.ok]at hv
     cases v <;>simp at hv
     exact one .nilp (fun _ e=>by cases e) (by simpa[Value.cells]using hlen)
    ·simp at ht
   ·simp at ht
  ·rename_i fs hu
   split at ht
   ·split at ht
    ·simp at ht;subst ht
     simp only[Value.okWide,hu]at hv
     obtain⟨cs,rfl,_⟩:=hv
     exact⟨cs,rfl,hx⟩
    ·simp at ht
   ·simp at ht
  ·simp at ht
theorem Eu:∀ {ts:List TypeId} {Ts:List Ty},HH P ts=some Ts→∀ {vs:List Value} {ds:List (DataW X)} {ps:List MemPlace},DataW.TrodAll enc P w 0 (fun _=>true) true ts vs ds ps→
 (∀(j:Nat) t v,ts[j]? =some t→vs[j]? =some v→∃b,Value.okWide P w .any b t v)→∀μ h,RO w μ h→
 ∃t μ' us,RO w μ' (h++t)∧cf μ μ'∧ah (fun p u=>VG μ' p.1 p.2 u) us vs∧BL (h++t) Ts us
 | [],Ts,hT,vs,ds,ps,hd,hv,μ,h,hr=>by
   simp[HH]at hT
   subst hT
   cases vs with
   |nil=>exact⟨[],μ,[],by simpa using hr,cf.refl _,trivial,rfl⟩
   |cons v vs=>cases ds <;>exact hd.elim
 |t::ts,Ts,hT,vs,ds,ps,hd,hv,μ,h,hr=>by
  simp only[HH]at hT
  split at hT
  ·rename_i T Ts' h1 h2
   simp at hT
   subst hT
   cases vs with
   |nil=>cases ds <;>exact hd.elim
   |cons v vs=>
    cases ds with
    |nil=>exact hd.elim
    |cons d ds=>
     obtain⟨p,q,⟨fuel,hx⟩,hq,_⟩:=hd
     obtain⟨t1,μ1,xs,v1,S1,k1,k2,k3,k4⟩:=BV h1 hx μ h hr
     obtain⟨t2,μ2,us,q1,q2,q3,q4⟩:=Eu h2 hq (fun j t' v' e1 e2=>hv (j+1) t' v' (by simpa using e1) (by simpa using e2)) μ1 (h++t1) k1
     obtain⟨b,hok⟩:=hv 0 t v rfl rfl
     refine⟨t1++t2,μ2,(T.agg,xs)::us,by rw[←List.append_assoc];exact q1,k2.trans q2,⟨Ps h1 hok (k3.imp fun _ _=>CR.mono q2),q3⟩,xs,v1,S1,us,rfl,by rw[←List.append_assoc];exact k4.app,by rw[←List.append_assoc];exact q4⟩
  ·simp at hT
theorem L4 {f:FuncId} {ts:List TypeId} {Ts:List Ty} (hT:HH P ts=some Ts) (hrun:∀h vs,BL h Ts vs→WC (code P) f vs h (fun v _=>v= .val false [.bool true]))
 {args:Array Value} {ds:List (DataW X)} {ps:List MemPlace} (hd:DataW.TrodAll enc P w 0 (fun _=>true) true ts args.toList ds ps) (hv:∀(j:Nat) t v,ts[j]? =some t→args.toList[j]? =some v→∃b,Value.okWide P w .any b t v):
 Calls P f args w fun e w'=>e= .returned (.bool true)∧Below w.heap.size w w':=by
 have hr0:RO w (fun _=>none) []:=⟨fun id p e=>(by cases e),fun id b e=>(by simp at e),fun id p cs e=>(by cases e)⟩
 obtain⟨t,μ,us,h1,_,h3,h4⟩:=Eu hT hd hv _ [] hr0
 obtain⟨n,v,h',h5,h6⟩:=hrun _ us h4
 have hown:∀(id:Nat) (ty:Nat) (cs:List C),([]++t:H)[id]? ≠some (.own ty cs):=fun id ty cs e=>by
  obtain⟨_,e2⟩:=h1.ro id _ e
  cases e2
 have hp:HP ⟨P,⟨0,[],0,0⟩,w.heap.size,w,fun _=>False⟩ μ ([]++t) w:=
  ⟨rfl,rfl,rfl,Nat.le_refl _,Nat.le_refl _,fun _ _ _=>rfl,h1.dom,fun id p ty cs _ e=>absurd e (hown id ty cs),fun id p cs e1 e2=>h1.at_ id p cs e1 e2,fun id id' p p' ty ty' cs cs' _ _ _ e=>absurd e (hown id ty cs),fun id p ty cs _ e=>absurd e (hown id ty cs),fun _ e=>e.elim⟩
 refine((Dp P n f us _ v h' h5).2 _ μ w args rfl hp h3).mono fun e w' he=> ?_
 cases e with
 |returned r=>
  obtain⟨μ',_,k2,k3⟩:=he
  subst h6
  obtain⟨c,e1,e2⟩:=k3
  simp at e1
  subst e1
  have e3:r= .bool true:=e2
  exact⟨by rw[e3],k2.hos,k2.htape,k2.hout,k2.hsz,fun k hk=>k2.fN k hk (fun e=>e)⟩
 |panicked _=>exact he.elim
 |outgrown=>exact he.elim
theorem AS (hl:laidOutB P=true) {w':World} (hb:Below w.heap.size w w'):∀ {ts:List TypeId},(∀t∈ts,P.readableRec t=true∧t < P.types.size)→∀ {vs:List Value} {ds:List (DataW X)} {ps:List MemPlace},DataW.TrodAll enc P w 0 (fun _=>true) true ts vs ds ps→
 DataW.TrodAll enc P w' 0 (fun b=>decide (b < w.heap.size)) true ts vs ds ps
 | [],_,vs,ds,ps,h=>by
   cases vs <;>cases ds <;>first|exact h|exact h.elim
 |t::ts,ht,vs,ds,ps,h=>by
  cases vs with
  |nil=>cases ds <;>exact h.elim
  |cons v vs=>
   cases ds with
   |nil=>exact h.elim
   |cons d ds=>
    obtain⟨p,q,h1,h2,h3⟩:=h
    obtain⟨k1,k2⟩:=ht t (by simp)
    have hlt:∀x∈p,x.block < w.heap.size:=by obtain⟨m,hm⟩:=h1;exact DataW.trod_lt m _ _ _ hm
    exact⟨p,q,Below.trod hl k1 k2 h1 hb hlt,AS hl hb (fun t' h'=>ht t' (by simp[h'])) h2,h3⟩
theorem i5:∀ {ts:List TypeId} {vs:List Value} {ds:List (DataW X)} {ps:List MemPlace} {w:World} {sp:Nat→Bool},DataW.TrodAll enc P w 0 sp true ts vs ds ps→ds.length=ts.length
 | [],vs,ds,ps,w,sp,h=>by cases vs <;>cases ds <;>first|rfl|exact h.elim
 |t::ts,vs,ds,ps,w,sp,h=>by
  cases vs with
  |nil=>cases ds <;>exact h.elim
  |cons v vs=>
   cases ds with
   |nil=>exact h.elim
   |cons d ds=>obtain⟨p,q,_,h2,_⟩:=h;simp[i5 h2]
end
theorem lifted_of {C:Checked} {os:Os} {f:FuncId} {fn:Func} {s:ChangeSpec} {conds:List PathCond} {X:Type} {enc:TypeId×Value→X} (own:ownKnob C.prog.godebug=none) (started:os.Started) (noInit:C.prog.inits.idxOf? f=none) (hfn:C.prog.funcs[f]? =some fn)
 (witness:∃(w:World) (tape:Tape) (i:Input),w.os=os∧(w.forCall tape i).Shaped C.prog∧i.vars= []∧Input.okWide C.prog (w.forCall tape i) .any w.heap.size f i∧
   s.pre6 enc C.prog fn conds false (w.forCall tape i).memory i.args∧Assume.holds {} C.prog (lone (Frame.enter C.prog f i.args .normal) [] (w.forCall tape i)))
 {Ts:List Ty} (hT:HH C.prog fn.params.toList=some Ts) (hrun:∀h vs,BL h Ts vs→WC (code C.prog) f vs h (fun v _=>v= .val false [.bool true]))
 (hvars:s.vars= []) (hspec:∀ds:List (DataW X),ds.length=fn.params.toList.length→s.fn X ds= {results:= [.lit (.bool true)],args:=ds})
 {tb:TypeId} (hres:fn.resultTypes.toList= [tb]) (htb:C.prog.underlying tb=some .bool) (laid:laidOutB C.prog=true) (hrd:∀t∈fn.params.toList,C.prog.readableRec t=true∧t < C.prog.types.size):
 ReturnsInHanded {} C os f .any (s.pre6 enc C.prog fn conds false) (s.post enc C.prog fn false true false false):=by
 refine returnsInHanded_of_change own started noInit hfn witness ?_
 intro W base args ds gs before hval hW _ _
 have hW':=hW
 obtain⟨p,q,hA,hV,rfl,hfz,hnd⟩:=hW
 rw[hvars]at hV
 obtain⟨rfl,rfl⟩:=trodVars_none hV
 refine(L4 hT hrun hA (fun j t v e1 e2=>⟨base,hval j t v (by simpa using e1) (by simpa using e2)⟩)).mono fun e W' ⟨he,bel⟩=> ?_
 subst he
 refine⟨_,rfl,ds,[],_,[],p,[],hW',?_,?_,?_,bel.frame _,fun h=>by cases h⟩
 ·rw[List.append_nil,hspec ds (i5 hA),hres]
  have hsz:fn.resultTypes.size=1:=by
   have:=congrArg List.length hres
   simpa using this
  rw[hsz]
  exact trodAll_mk1 (shut_bool htb _)
 ·rw[List.append_nil,hspec ds (i5 hA)]
  exact AS laid bel hrd hA
 ·rw[List.append_nil,hspec ds (i5 hA),hvars]
  exact rfl
end Go.Eng
namespace Go.Eng
def iQ (f:Fr):List (Nat×V)→Fr
 | []=>f
 |(s,v)::r=>iQ (f.set s v) r
theorem fX {cd:Nat→Option AF} {f:Fr} {h:H} {R:List RV} {Q:V→H→Prop} {k:List KI} {ds:List Nat} {b:AC} {σ:Type} (f1:Fr) (hf:forget f ds=f1) (jc:σ→List (Nat×V)) (J:σ→Nat→H→Prop) (s0:σ) (g0:Nat)
 (hu:f1=iQ f1 (jc s0)) (h0:J s0 g0 h)
 (round:∀s g h,J s g h→WS cd (.c b:: .stop (fun f' h'=>∃s' g',g' < g∧forget f' ds=iQ f1 (jc s')∧J s' g' h')::k) (iQ f1 (jc s)) h R Q):WS cd (.c (.loop ds b)::k) f h R Q:=by
 refine CL (fun g f h=>∃s,forget f ds=iQ f1 (jc s)∧J s g h) g0 ⟨s0,by rw[hf];exact hu,h0⟩ (fun g f h ⟨s,e,hJ⟩=> ?_)
 rw[e]
 have:=round s g h hJ
 have e2:(fun f' h'=>∃s' g',g' < g∧forget f' ds=iQ f1 (jc s')∧J s' g' h')=(fun f' h'=>∃g',g' < g∧∃s',forget f' ds=iQ f1 (jc s')∧J s' g' h'):=by
  funext f' h'
  apply propext
  exact⟨fun⟨s',g',a,b,c⟩=>⟨g',a,s',b,c⟩,fun⟨g',a,s',b,c⟩=>⟨s',g',a,b,c⟩⟩
 rw[e2]at this
 exact this
theorem aN {n:Int} (h1: -9223372036854775808≤n) (h2:n < 9223372036854775808):IntKind.i64.wrap n=n:=by rw[IntKind.wrap_i64];omega
theorem bh {α:Type} {c:Prop} [Decidable c] {a b:α} (h:c):(if c then a else b)=a:=if_pos h
theorem C5 (k:IntKind) (a b:Int):bD .add (.int k a) (.int k b)=some (.int k (k.wrap (a+b))):=by simp[bD]
theorem JC (k:IntKind) (a b:Int):bD .sub (.int k a) (.int k b)=some (.int k (k.wrap (a - b))):=by simp[bD]
theorem JH (k:IntKind) (a b:Int):bD .mul (.int k a) (.int k b)=some (.int k (k.wrap (a * b))):=by simp[bD]
theorem Kl (k:IntKind) (a b:Int):bD .quo (.int k a) (.int k b)=if b=0 then none else some (.int k (k.wrap (a.tdiv b))):=by simp[bD]
theorem HZ (k:IntKind) (a b:Int):bD .rem (.int k a) (.int k b)=if b=0 then none else some (.int k (a.tmod b)):=by simp[bD]
theorem Jg (k:IntKind) (a b:Int):bD .eql (.int k a) (.int k b)=some (.bool (decide (a=b))):=by
 simp[bD];rw[Bool.eq_iff_iff];simp
theorem GV (k:IntKind) (a b:Int):bD .neq (.int k a) (.int k b)=some (.bool (decide (a≠b))):=by
 simp[bD,bne];rw[Bool.eq_iff_iff];simp
theorem Dd (k:IntKind) (a b:Int):bD .lss (.int k a) (.int k b)=some (.bool (decide (a < b))):=by simp[bD]
theorem JW (k:IntKind) (a b:Int):bD .leq (.int k a) (.int k b)=some (.bool (decide (a≤b))):=by simp[bD]
theorem J0 (k:IntKind) (a b:Int):bD .gtr (.int k a) (.int k b)=some (.bool (decide (a > b))):=by simp[bD]
theorem J9 (k:IntKind) (a b:Int):bD .geq (.int k a) (.int k b)=some (.bool (decide (a≥b))):=by simp[bD]
theorem OT (k:IntKind) (a b:Int):bD .and (.int k a) (.int k b)=some (.int k (aH .and k a b)):=by simp[bD]
theorem Qi (k:IntKind) (a b:Int):bD .or (.int k a) (.int k b)=some (.int k (aH .or k a b)):=by simp[bD]
theorem Pf (k:IntKind) (a b:Int):bD .xor (.int k a) (.int k b)=some (.int k (aH .xor k a b)):=by simp[bD]
theorem Iy (k:IntKind) (a b:Int):bD .andNot (.int k a) (.int k b)=some (.int k (aH .andNot k a b)):=by simp[bD]
theorem OQ (k k':IntKind) (a b:Int):bD .shl (.int k a) (.int k' b)=if b < 0 then none else some (.int k (k.wrap (a * 2 ^ (min b.toNat k.bits)))):=by simp[bD]
theorem Py (k k':IntKind) (a b:Int):bD .shr (.int k a) (.int k' b)=if b < 0 then none else some (.int k (a.fdiv (2 ^ (min b.toNat k.bits)))):=by simp[bD]
theorem A0 {a b:ByteArray}:(a.toList==b.toList)=decide (a=b):=by
 rw[Bool.eq_iff_iff]
 simp only[beq_iff_eq,decide_eq_true_eq,ByteArray.toList_eq]
 constructor
 ·intro h
  have:=Array.toList_inj.1 h
  cases a;cases b
  simp only at this
  rw[this]
 ·intro h;rw[h]
theorem EW (a b:ByteArray):bD .eql (.str a) (.str b)=some (.bool (decide (a=b))):=by simp only[bD,A0]
theorem Fx (a b:ByteArray):bD .neq (.str a) (.str b)=some (.bool (decide (a≠b))):=by
 simp only[bD,A0,ne_eq]
 congr 2
 by_cases h:a=b <;>simp[h]
section
variable {R R':List C→Tv→List Nat→Prop}
theorem bq.len {e:Nat} (hs:∀c x S,R c x S→c.length=e):∀ {xs:List Tv} {cs:List C} {S:List Nat},bq R xs cs S→cs.length=xs.length * e
 | [],_,_,⟨h,_⟩=>by rw[h];simp
 |x::xs,_,_,⟨c1,c2,S1,S2,h1,_,h3,h4⟩=>by rw[h1,List.length_append,hs _ _ _ h3,bq.len hs h4,List.length_cons,Nat.add_mul,Nat.one_mul,Nat.add_comm]
theorem bq.split {e:Nat} (hs:∀c x S,R c x S→c.length=e):∀ {xs:List Tv} {cs:List C} {S:List Nat},bq R xs cs S→∀ {i:Nat} {x:Tv},xs[i]? =some x→
 ∃S1 Si S2,S=S1++(Si++S2)∧bq R (xs.take i) (cs.take (i * e)) S1∧R ((cs.drop (i * e)).take e) x Si∧bq R (xs.drop (i+1)) (cs.drop ((i+1) * e)) S2
 | [],_,_,_,i,x,hx=>by simp at hx
 |y::ys,cs,S,⟨c1,c2,S1,S2,h1,h2,h3,h4⟩,0,x,hx=>by
  simp at hx
  subst hx
  have hl:=hs _ _ _ h3
  refine⟨[],S1,S2,by simp[h2],by simp[bq],?_,?_⟩
  ·rw[h1]
   have:((c1++c2).drop (0 * e)).take e=c1:=by simp[←hl]
   rw[this]
   exact h3
  ·rw[h1]
   have:(c1++c2).drop ((0+1) * e)=c2:=by simp[←hl]
   rw[this]
   simpa using h4
 |y::ys,cs,S,⟨c1,c2,S1,S2,h1,h2,h3,h4⟩,i+1,x,hx=>by
  have hl:=hs _ _ _ h3
  obtain⟨T1,Ti,T2,k1,k2,k3,k4⟩:=bq.split hs h4 (i:=i) (x:=x) (by simpa using hx)
  have e1:(i+1) * e=c1.length+i * e:=by rw[Nat.add_mul,Nat.one_mul,hl,Nat.add_comm]
  refine⟨S1++T1,Ti,T2,by rw[h2,k1,List.append_assoc],?_,?_,?_⟩
  ·rw[h1,e1,List.take_length_add_append]
   exact⟨c1,_,S1,T1,rfl,rfl,h3,k2⟩
  ·rw[h1,e1,List.drop_append]
   simpa[List.drop_eq_nil_of_le]using k3
  ·have e2:(i+1+1) * e=c1.length+(i+1) * e:=by rw[Nat.add_mul (i+1),Nat.one_mul,hl,Nat.add_comm]
   rw[h1,e2,List.drop_append]
   simpa[List.drop_eq_nil_of_le]using k4
theorem bq.join:∀ {xs ys:List Tv} {cs ds:List C} {S S':List Nat},bq R xs cs S→bq R ys ds S'→bq R (xs++ys) (cs++ds) (S++S')
 | [],ys,_,ds,_,S',⟨h1,h2⟩,h=>by rw[h1,h2];exact h
 |x::xs,ys,cs,ds,S,S',⟨c1,c2,S1,S2,h1,h2,h3,h4⟩,h=>⟨c1,c2++ds,S1,S2++S',by rw[h1,List.append_assoc],by rw[h2,List.append_assoc],h3,bq.join h4 h⟩
theorem bq.one {c:List C} {x:Tv} {S:List Nat} (h:R c x S):bq R [x] c S:=⟨c,[],S,[],by simp,by simp,h,rfl,rfl⟩
end
theorem Rp.Gn {h:H} {t:Ty}:∀c x S,Rp h t c x S→c.length=t.size:=fun _ _ _ hr=>hr.size
theorem Rs.step {h:H} {t:Ty} {ts:List Ty} {cs:List C} {o:Nat} {vs:List Tv} {S:List Nat} (hr:Rs h (t::ts) (cs.drop o) vs S):
 ∃v vr S1 S2,vs=v::vr∧S=S1++S2∧Rp h t ((cs.drop o).take t.size) v S1∧Rs h ts (cs.drop (o+t.size)) vr S2:=by
 obtain⟨c1,c2,v,vr,S1,S2,h1,h2,h3,h4,h5⟩:=hr
 have hl:=h4.size
 refine⟨v,vr,S1,S2,h2,h3,?_,?_⟩
 ·rw[h1,←hl,List.take_left];exact h4
 ·rw[←List.drop_drop,h1,←hl,List.drop_left];exact h5
theorem Rp.one {h:H} {t:Ty} {cs:List C} {v:Tv} {S:List Nat} (hr:Rp h t cs v S) (ht:t.size=1):∃c,cs= [c]:=by
 have:=hr.size
 rw[ht]at this
 match cs,this with
 | [c],_=>exact⟨c,rfl⟩
theorem Rp.sl {h:H} {t:Ty} {cs:List C} {v:Tv} {S:List Nat} (hr:Rp h (.sl t) cs v S):
 ∃xs,v= .l xs∧xs.length≤maxLen∧((xs= []∧S= []∧(cs= [.nils]∨cs= [.emp]))∨
  ∃id off bs S' e,cs= [.sl id off xs.length e]∧h.cells id=some bs∧off+xs.length * t.size≤bs.length∧S=id::S'∧bq (Rp h t) xs ((bs.drop off).take (xs.length * t.size)) S'∧(e=t.size∨xs= [])):=by
 unfold Rp at hr;exact hr
theorem Rp.view {h:H} {t:Ty} {cs:List C} {v:Tv} {S:List Nat} (hr:Rp h (.sl t) cs v S):
 ∃c xs id off bs S',cs= [c]∧v= .l xs∧xs.length≤9223372036854775807∧yx c=some xs.length∧(∀j:Nat,j < xs.length→CT c t.size (j:Int)=some (id,off+j * t.size))∧(0 < xs.length→h.cells id=some bs∧c= .sl id off xs.length t.size)∧off+xs.length * t.size≤bs.length∧
  bq (Rp h t) xs ((bs.drop off).take (xs.length * t.size)) S'∧(S=id::S'∨(xs= []∧S= []∧S'= [])):=by
 obtain⟨xs,h1,hm,hc⟩:=hr.sl
 rcases hc with⟨rfl,h2,h3⟩|⟨id,off,bs,S',e0,h2,h3,h4,h5,h6,he0⟩
 ·refine⟨cs.headD .nils,[],0,0,[],[],?_,h1,by simp,?_,fun j hj=>by simp at hj,fun h=>by simp at h,by simp,⟨by simp,rfl⟩, .inr ⟨rfl,h2,rfl⟩⟩
  ·rcases h3 with rfl|rfl <;>rfl
  ·rcases h3 with rfl|rfl <;>rfl
 ·have hne:∀ {j:Nat},j < xs.length→e0=t.size:=fun hj=>he0.resolve_right (fun e=>by rw[e]at hj;simp at hj)
  refine⟨_,xs,id,off,bs,S',h2,h1,hm,rfl,fun j hj=> ?_,fun hp=>⟨h3,by rw[hne hp]⟩,h4,h6, .inl h5⟩
  simp only[CT]
  rw[if_pos ⟨hne hj,by omega,by omega⟩]
  simp[hne hj]
theorem kj {bs:List C} {off n e i:Nat} (hi:i < n):(((bs.drop off).take (n * e)).drop (i * e)).take e=(bs.drop (off+i * e)).take e:=by
 have:(i+1) * e≤n * e:=Nat.mul_le_mul_right _ hi
 rw[Nat.add_mul,Nat.one_mul]at this
 rw[List.drop_take,List.take_take,List.drop_drop]
 congr 1
 omega
theorem bq.at {h:H} {t:Ty} {xs:List Tv} {bs:List C} {off:Nat} {S:List Nat} (hr:bq (Rp h t) xs ((bs.drop off).take (xs.length * t.size)) S) {i:Nat} (hi:i < xs.length):
 ∃Si,Rp h t ((bs.drop (off+i * t.size)).take t.size) xs[i] Si:=by
 obtain⟨S1,Si,S2,_,_,k3,_⟩:=hr.split Rp.Gn (List.getElem?_eq_getElem hi)
 rw[kj hi]at k3
 exact⟨Si,k3⟩
theorem Rp.int {h:H} {k:IntKind} {cs:List C} {v:Tv} {S:List Nat} (hr:Rp h (.int k) cs v S):∃n,cs= [.int k n]∧v= .i n∧S= []∧k.min≤n∧n≤k.max:=by unfold Rp at hr;exact hr
theorem Rp.st {h:H} {ts:List Ty} {cs:List C} {v:Tv} {S:List Nat} (hr:Rp h (.st ts) cs v S):∃vs,v= .r vs∧Rs h ts (cs.drop 0) vs S:=by unfold Rp at hr;simpa using hr
noncomputable instance:DecidableEq Tv:=fun a b=>Classical.propDecidable (a=b)
mutual
def wt:Tv→Nat
 | .l xs=>xs.length+dw xs
 | .r xs=>dw xs
 | .s x=>x.size
 |_=>0
def dw:List Tv→Nat
 | []=>0
 |x::xs=>wt x+dw xs
end
theorem rF:∀(xs ys:List Tv),dw (xs++ys)=dw xs+dw ys
 | [],ys=>by simp[dw]
 |x::xs,ys=>by simp[dw,rF xs ys,Nat.add_assoc]
theorem DH {xs:List Tv} {i:Nat} {x:Tv} (h:xs[i]? =some x):dw (xs.take (i+1))=dw (xs.take i)+wt x:=by
 have hlt:=(List.getElem?_eq_some_iff.1 h).1
 rw[List.take_add_one,h]
 simp[rF,dw]
theorem Bc (xs:List Tv) (i:Nat):dw (xs.take i)≤dw xs:=by
 have:=rF (xs.take i) (xs.drop i)
 rw[List.take_append_drop]at this
 omega
end Go.Eng
namespace Go.Eng
def dr (h:H) (S:List Nat):Prop:=S.Nodup∧∀i∈S,∃ty cs,h[i]? =some (.own ty cs)
theorem cu {h:H} {i ty:Nat} {cs:List C} (e:h[i]? =some (.own ty cs)):h.cells i=some cs:=by unfold H.cells;rw[e]
theorem iK (h:H) (b:tO) (t:H):(h++b::t)[h.length]? =some b:=by rw[List.getElem?_append_right (Nat.le_refl _)];simp
theorem DM (h:H) (b b':tO) (t:H):(h++b::t).set h.length b'=h++b'::t:=by rw[List.set_append_right _ _ (Nat.le_refl _)];simp
theorem Kz (n:Nat) (c:C):(List.replicate n [c]).flatten=List.replicate n c:=by
 induction n with
 |zero=>rfl
 |succ n ih=>simp[List.replicate_succ,ih]
theorem Cb {n:Nat} (h:n≤70368744177664):eb n=true:=by unfold eb;simpa using h
theorem Jz {id off len e:Nat} {j:Int} (h0:0≤j) (h1:j < (len:Int)):CT (.sl id off len e) e j=some (id,off+j.toNat * e):=by simp[CT,h0,h1]
theorem Al {α:Type} (x:α):∀(l cs:List α) (o:Nat),aR cs o (l++ [x])=(aR cs o l).set (o+l.length) x
 | [],cs,o=>rfl
 |v::l,cs,o=>by
  simp only[List.cons_append,aR,Al x l,List.length_cons]
  congr 1
  omega
theorem G3 {α:Type} {l cs:List α} {o:Nat} (h:o+l.length≤cs.length):((aR cs o l).drop o).take l.length=l:=by
 rw[du _ _ _ h]
 have e:(cs.take o).length=o:=by simp;omega
 rw[List.append_assoc,List.drop_append,e]
 simp[List.drop_eq_nil_of_le]
theorem DE {α:Type} (l:List α) (o:Nat) (v:α):aR l o [v]=l.set o v:=rfl
theorem fH {h:H} {id:Nat} {bs:List C} (e:h.cells id=some bs):id < h.length:=by
 unfold H.cells at e
 rcases Nat.lt_or_ge id h.length with hl|hl
 ·exact hl
 ·rw[List.getElem?_eq_none hl]at e;simp at e
theorem xv {h:H} {id:Nat} {bs:List C} (e:h.cells id=some bs) (t:H):(h++t:H).cells id=some bs:=by rw[uZ (fH e)];exact e
theorem Ii {l:List C} {i n:Nat} {z:C} (hl:l.length=n) (hi:i < n):(l.take i++List.replicate (n - i) z).set i (l[i]'(by omega))=l.take (i+1)++List.replicate (n - (i+1)) z:=by
 have e:n - i=(n - (i+1))+1:=by omega
 rw[e,List.replicate_succ,List.set_append_right _ _ (by simp;omega)]
 have e2:i - (l.take i).length=0:=by simp;omega
 have e3:l.take (i+1)=l.take i++ [l[i]'(by omega)]:=by rw[List.take_add_one,List.getElem?_eq_getElem (by omega)];rfl
 rw[e2,List.set_cons_zero,e3,List.append_assoc]
 rfl
theorem JT {l:List C} {i:Nat} (h:i < l.length):(l.drop i).take 1= [l[i]]:=by
 rw[List.drop_eq_getElem_cons h,List.take_succ_cons,List.take_zero]
def xT (cd:Nat→Option AF) (g:Nat) (T:Ty):Prop:=∀ {h:H} {cs:List C} {v:Tv} {S:List Nat} {k:Nat},Rp h T cs v S→k≤1048576→
 WC cd g [(T.agg,cs),(false,[.int .i64 k])] h (fun r h'=>h'=h∧r= .val false [.int .i64 (if wt v≤k then(k:Int) - wt v else -1)])
def cG (cd:Nat→Option AF) (g:Nat) (T:Ty):Prop:=∀ {h:H} {ca cb:List C} {va vb:Tv} {Sa Sb:List Nat},Rp h T ca va Sa→Rp h T cb vb Sb→
 WC cd g [(T.agg,ca),(T.agg,cb)] h (fun r h'=>h'=h∧r= .val false [.bool (decide (va=vb))])
def O1 (h:H) (T:Ty) (v:Tv) (r:V) (h':H):Prop:=∃t cs' S',h'=h++t∧r= .val T.agg cs'∧Rp h' T cs' v S'∧dr h' S'∧∀i∈S',h.length≤i
def Fu (cd:Nat→Option AF) (g:Nat) (T:Ty):Prop:=∀ {h:H} {cs:List C} {v:Tv} {S:List Nat},Rp h T cs v S→wt v≤1048576→WC cd g [(T.agg,cs)] h (O1 h T v)
def rQ (f:Tv→Nat→Tv) (g:Tv→Nat):List Tv→Nat→List Tv
 | [],_=> []
 |x::xs,n=>f x n::rQ f g xs (n+g x)
mutual
def dV:Ty→Tv→Nat
 | .int _,_=>1
 | .sl t, .l xs=>(xs.map (dV t)).sum
 | .st ts, .r vs=>JO ts vs
 |_,_=>0
def JO:List Ty→List Tv→Nat
 |t::ts,v::vs=>dV t v+JO ts vs
 |_,_=>0
end
mutual
def rv:Ty→Tv→Nat→Tv
 | .int k,_,n=> .i (k.wrap n)
 | .sl t, .l xs,n=> .l (rQ (rv t) (dV t) xs n)
 | .st ts, .r vs,n=> .r (Ov ts vs n)
 |_,v,_=>v
def Ov:List Ty→List Tv→Nat→List Tv
 |t::ts,v::vs,n=>rv t v n::Ov ts vs (n+dV t v)
 |_,vs,_=>vs
end
mutual
def i1:Ty→Tv→Nat
 | .sl t, .l xs=>(xs.map (dV t)).sum
 | .st ts, .r vs=>Og ts vs
 |_,_=>0
def Og:List Ty→List Tv→Nat
 |t::ts,v::vs=>i1 t v+Og ts vs
 |_,_=>0
end
mutual
def yC:Ty→Tv→Nat→Tv
 | .sl t, .l xs,n=> .l (rQ (rv t) (dV t) xs n)
 | .st ts, .r vs,n=> .r (OE ts vs n)
 |_,v,_=>v
def OE:List Ty→List Tv→Nat→List Tv
 |t::ts,v::vs,n=>yC t v n::OE ts vs (n+i1 t v)
 |_,vs,_=>vs
end
def ew (h h':H) (S:List Nat):Prop:=h'.length=h.length∧(∀i,i∉S→h'[i]? =h[i]?)∧∀i∈S,∃ty cs,h'[i]? =some (.own ty cs)
def kC (cd:Nat→Option AF) (g:Nat) (T:Ty):Prop:=∀ {h:H} {cs:List C} {v:Tv} {S:List Nat} {k:Nat},Rp h T cs v S→dr h S→k+i1 T v≤1152921504606846976→
 WC cd g [(T.agg,cs),(false,[.int .i64 k])] h (fun r h'=>r= .val false [.int .i64 ((k+i1 T v:Nat):Int)]∧ew h h' S∧Rp h' T cs (yC T v k) S)
def NQ (T:Ty) (v:Tv):Prop:=∃h cs S,Rp h T cs v S
def jR (cd:Nat→Option AF) (g:Nat) (T:Ty):Prop:=∀ {h:H} {cs:List C} {v:Tv} {S:List Nat} {k:Nat},NQ T v→Rp h T cs (yC T v k) S→k+i1 T v≤1152921504606846976→
 WC cd g [(T.agg,cs),(false,[.int .i64 k])] h (fun r h'=>h'=h∧r= .val false [.int .i64 ((k+i1 T v:Nat):Int)])
theorem MF (k:IntKind):Ty.agg (.int k)=false:=rfl
theorem MS:Ty.agg .bool=false:=rfl
theorem Ml:Ty.agg .str=false:=rfl
theorem Mx (t:Ty):Ty.agg (.sl t)=false:=rfl
theorem JL (k:IntKind):Ty.size (.int k)=1:=rfl
theorem JX:Ty.size .bool=1:=rfl
theorem Jf:Ty.size .str=1:=rfl
theorem Jh (t:Ty):Ty.size (.sl t)=1:=rfl
theorem ME (f:Fr) (h:H) (d:Nat) (x:X):ai (.len d false x) f h=match dt f x with
 |some c=>(match yx c with|some n=>some (f.set d (.val false [.int .i64 (n:Int)]),h)|none=>none)
 |none=>none:=by
 cases e:dt f x with
 |none=>simp[ai,e]
 |some c=>simp only[ai,e];cases yx c <;>rfl
theorem MM (f:Fr) (h:H) (d:Nat) (x:X):ai (.len d true x) f h=match dt f x with
 |some (.str s)=>some (f.set d (.val false [.int .i64 (s.size:Int)]),h)
 |_=>none:=by
 cases e:dt f x with
 |none=>simp[ai,e]
 |some c=>cases c <;>simp[ai,e]
theorem SQ:type_of% (And.intro (And.intro (And.intro (And.intro (And.intro (And.intro (@RR) (And.intro (@RP) (@Ty.agg.eq_1))) (And.intro (And.intro (@MF) (@MS)) (And.intro (@Ml) (@Mx)))) (And.intro (And.intro (@Ty.size.eq_1) (And.intro (@JL) (@JX))) (And.intro (And.intro (@Jf) (@Jh)) (And.intro (@Ty.aU.eq_1) (@Ty.aU.eq_2))))) (And.intro (And.intro (And.intro (@not_true) (And.intro (@not_false_iff) (@decide_true))) (And.intro (And.intro (@decide_false) (@true_and)) (And.intro (@and_true) (@PT.full.eq_1)))) (And.intro (And.intro (And.intro (@PT.full.eq_2) (@cZ.eq_1)) (And.intro (@cZ.eq_2) (@iQ.eq_1))) (And.intro (And.intro (@iQ.eq_2) (@forget.eq_1)) (And.intro (@forget.eq_2) (@Fr.set.eq_1)))))) (And.intro (And.intro (And.intro (And.intro (@Fr.get.eq_1) (And.intro (@PT.get.eq_1) (@PT.get.eq_2))) (And.intro (And.intro (@PT.get.eq_3) (@PT.get.eq_4)) (And.intro (@PT.set.eq_1) (@PT.set.eq_2)))) (And.intro (And.intro (And.intro (@PT.set.eq_3) (@PT.set.eq_4)) (And.intro (@PT.set.eq_5) (@PT.set.eq_6))) (And.intro (And.intro (@O9) (@ai.eq_1)) (And.intro (@ai.eq_2) (@ai.eq_3))))) (And.intro (And.intro (And.intro (@ai.eq_4) (And.intro (@ai.eq_5) (@ai.eq_6))) (And.intro (And.intro (@ai.eq_7) (@ai.eq_8)) (And.intro (@ai.eq_9) (@ai.eq_10)))) (And.intro (And.intro (And.intro (@ai.eq_11) (@ai.eq_12)) (And.intro (@ai.eq_13) (@ai.eq_14))) (And.intro (And.intro (@ai.eq_15) (@ai.eq_16)) (And.intro (@ai.eq_17) (@ai.eq_18))))))) (And.intro (And.intro (And.intro (And.intro (And.intro (@ai.eq_19) (And.intro (@ai.eq_20) (@ai.eq_21))) (And.intro (And.intro (@ai.eq_22) (@ai.eq_23)) (And.intro (@ai.eq_24) (@ai.eq_25)))) (And.intro (And.intro (And.intro (@ai.eq_26) (@ai.eq_27)) (And.intro (@ai.eq_28) (@ai.eq_29))) (And.intro (And.intro (@ai.eq_30) (@ai.eq_31)) (And.intro (@ai.eq_32) (@ai.eq_33))))) (And.intro (And.intro (And.intro (@ai.eq_34) (And.intro (@ai.eq_38) (@ai.eq_39))) (And.intro (And.intro (@ai.eq_40) (@ai.eq_41)) (And.intro (@ai.eq_42) (@ME)))) (And.intro (And.intro (And.intro (@MM) (@ev.eq_1)) (And.intro (@ev.eq_2) (@dt.eq_1))) (And.intro (And.intro (@pR.eq_1) (@C5)) (And.intro (@JC) (@JH)))))) (And.intro (And.intro (And.intro (And.intro (@Kl) (And.intro (@HZ) (@Jg))) (And.intro (And.intro (@GV) (@Dd)) (And.intro (@JW) (@J0)))) (And.intro (And.intro (And.intro (@J9) (@EW)) (And.intro (@Fx) (@eB.eq_1))) (And.intro (And.intro (@eB.eq_2) (@kl.eq_1)) (And.intro (@rX.eq_1) (@rX.eq_2))))) (And.intro (And.intro (And.intro (@zp.eq_1) (And.intro (@zp.eq_2) (@args.eq_1))) (And.intro (And.intro (@args.eq_2) (@Bool.not_true)) (And.intro (@Bool.not_false) (@Bool.false_eq_true)))) (And.intro (And.intro (And.intro (@kG) (@Nat.zero_add)) (And.intro (@Nat.mul_one) (@Nat.add_zero))) (And.intro (And.intro (@aR.eq_1) (@aR.eq_2)) (And.intro (@eW.eq_1) (@eW.eq_2)))))))):=And.intro (And.intro (And.intro (And.intro (And.intro (And.intro (@RR) (And.intro (@RP) (@Ty.agg.eq_1))) (And.intro (And.intro (@MF) (@MS)) (And.intro (@Ml) (@Mx)))) (And.intro (And.intro (@Ty.size.eq_1) (And.intro (@JL) (@JX))) (And.intro (And.intro (@Jf) (@Jh)) (And.intro (@Ty.aU.eq_1) (@Ty.aU.eq_2))))) (And.intro (And.intro (And.intro (@not_true) (And.intro (@not_false_iff) (@decide_true))) (And.intro (And.intro (@decide_false) (@true_and)) (And.intro (@and_true) (@PT.full.eq_1)))) (And.intro (And.intro (And.intro (@PT.full.eq_2) (@cZ.eq_1)) (And.intro (@cZ.eq_2) (@iQ.eq_1))) (And.intro (And.intro (@iQ.eq_2) (@forget.eq_1)) (And.intro (@forget.eq_2) (@Fr.set.eq_1)))))) (And.intro (And.intro (And.intro (And.intro (@Fr.get.eq_1) (And.intro (@PT.get.eq_1) (@PT.get.eq_2))) (And.intro (And.intro (@PT.get.eq_3) (@PT.get.eq_4)) (And.intro (@PT.set.eq_1) (@PT.set.eq_2)))) (And.intro (And.intro (And.intro (@PT.set.eq_3) (@PT.set.eq_4)) (And.intro (@PT.set.eq_5) (@PT.set.eq_6))) (And.intro (And.intro (@O9) (@ai.eq_1)) (And.intro (@ai.eq_2) (@ai.eq_3))))) (And.intro (And.intro (And.intro (@ai.eq_4) (And.intro (@ai.eq_5) (@ai.eq_6))) (And.intro (And.intro (@ai.eq_7) (@ai.eq_8)) (And.intro (@ai.eq_9) (@ai.eq_10)))) (And.intro (And.intro (And.intro (@ai.eq_11) (@ai.eq_12)) (And.intro (@ai.eq_13) (@ai.eq_14))) (And.intro (And.intro (@ai.eq_15) (@ai.eq_16)) (And.intro (@ai.eq_17) (@ai.eq_18))))))) (And.intro (And.intro (And.intro (And.intro (And.intro (@ai.eq_19) (And.intro (@ai.eq_20) (@ai.eq_21))) (And.intro (And.intro (@ai.eq_22) (@ai.eq_23)) (And.intro (@ai.eq_24) (@ai.eq_25)))) (And.intro (And.intro (And.intro (@ai.eq_26) (@ai.eq_27)) (And.intro (@ai.eq_28) (@ai.eq_29))) (And.intro (And.intro (@ai.eq_30) (@ai.eq_31)) (And.intro (@ai.eq_32) (@ai.eq_33))))) (And.intro (And.intro (And.intro (@ai.eq_34) (And.intro (@ai.eq_38) (@ai.eq_39))) (And.intro (And.intro (@ai.eq_40) (@ai.eq_41)) (And.intro (@ai.eq_42) (@ME)))) (And.intro (And.intro (And.intro (@MM) (@ev.eq_1)) (And.intro (@ev.eq_2) (@dt.eq_1))) (And.intro (And.intro (@pR.eq_1) (@C5)) (And.intro (@JC) (@JH)))))) (And.intro (And.intro (And.intro (And.intro (@Kl) (And.intro (@HZ) (@Jg))) (And.intro (And.intro (@GV) (@Dd)) (And.intro (@JW) (@J0)))) (And.intro (And.intro (And.intro (@J9) (@EW)) (And.intro (@Fx) (@eB.eq_1))) (And.intro (And.intro (@eB.eq_2) (@kl.eq_1)) (And.intro (@rX.eq_1) (@rX.eq_2))))) (And.intro (And.intro (And.intro (@zp.eq_1) (And.intro (@zp.eq_2) (@args.eq_1))) (And.intro (And.intro (@args.eq_2) (@Bool.not_true)) (And.intro (@Bool.not_false) (@Bool.false_eq_true)))) (And.intro (And.intro (And.intro (@kG) (@Nat.zero_add)) (And.intro (@Nat.mul_one) (@Nat.add_zero))) (And.intro (And.intro (@aR.eq_1) (@aR.eq_2)) (And.intro (@eW.eq_1) (@eW.eq_2)))))))
theorem SU.{u}:type_of% (And.intro (And.intro (@eq_self.{u}) (@ne_eq.{u})) (And.intro (@ite_true.{u}) (@ite_false.{u}))):=And.intro (And.intro (@eq_self.{u}) (@ne_eq.{u})) (And.intro (@ite_true.{u}) (@ite_false.{u}))
theorem SL.{u}:type_of% (And.intro (And.intro (And.intro (@List.length_cons.{u}) (@List.length_nil.{u})) (And.intro (@List.take_zero.{u}) (And.intro (@List.drop_zero.{u}) (@List.take_nil.{u})))) (And.intro (And.intro (@List.take_succ_cons.{u}) (@List.drop_succ_cons.{u})) (And.intro (@Option.some.injEq.{u}) (And.intro (@List.set_cons_zero.{u}) (@List.set_cons_succ.{u}))))):=And.intro (And.intro (And.intro (@List.length_cons.{u}) (@List.length_nil.{u})) (And.intro (@List.take_zero.{u}) (And.intro (@List.drop_zero.{u}) (@List.take_nil.{u})))) (And.intro (And.intro (@List.take_succ_cons.{u}) (@List.drop_succ_cons.{u})) (And.intro (@Option.some.injEq.{u}) (And.intro (@List.set_cons_zero.{u}) (@List.set_cons_succ.{u}))))
end Go.Eng
set_option maxRecDepth 100000
namespace Go.Eng
open Go.ChangeShapes Go.WideShapes Go.RowKit
def wH:AF:=⟨2,4,[.tmp 4],(.seq (.ops [.i (.mov 4 (.c (.val false [.int .i64 0])))]) (.seq (.ops [.i (.mov 5 (.s 1)), .i (.mov 6 (.s 0)), .i (.len 7 false (.s 6)), .i (.bin 8 .sub (.s 5) (.s 7)), .i (.mov 1 (.s 8))]) (.seq (.seq (.ops [.i (.mov 9 (.s 1)), .i (.bin 10 .lss (.s 9) (.c (.val false [.int .i64 0])))]) (.cond (.s 10) (.seq (.ops [.i (.mov 4 (.c (.val false [.int .i64 (-1)])))]) .ret) .skip)) (.seq (.ops [.i (.mov 11 (.s 1)), .i (.mov 4 (.s 11))]) .ret))))⟩
def ye (e gE:Nat) (ag:Bool):AF:=⟨2,5,[.tmp 4],(.seq (.ops [.i (.mov 4 (.c (.val false [.int .i64 0])))]) (.seq (.ops [.i (.mov 6 (.s 1)), .i (.mov 7 (.s 0)), .i (.len 8 false (.s 7)), .i (.bin 9 .sub (.s 6) (.s 8)), .i (.mov 1 (.s 9))]) (.seq (.seq (.ops [.i (.mov 10 (.s 1)), .i (.bin 11 .lss (.s 10) (.c (.val false [.int .i64 0])))]) (.cond (.s 11) (.seq (.ops [.i (.mov 4 (.c (.val false [.int .i64 (-1)])))]) .ret) .skip)) (.seq (.seq (.ops [.i (.mov 5 (.c (.val false [.int .i64 0])))]) (.block 0 (.loop [25,24,23,22,21,20,19,18,17,16,15,14,13,12] (.seq (.seq (.ops [.i (.mov 12 (.s 5)), .i (.mov 13 (.s 0)), .i (.len 14 false (.s 13)), .i (.bin 15 .lss (.s 12) (.s 14))]) (.cond (.s 15) .skip (.exit 0))) (.seq (.block 1 (.seq (.ops [.i (.mov 18 (.s 0)), .i (.mov 19 (.s 5)), .i (.iad 20 (.s 18) (.s 19) e), .i (.ldh 21 (.s 20) e ag), .i (.mov 22 (.s 1)), .i (.call 24 gE false [(.s 21),(.s 22)]), .i (.mov 1 (.s 23))]) (.seq (.ops [.i (.mov 24 (.s 1)), .i (.bin 25 .lss (.s 24) (.c (.val false [.int .i64 0])))]) (.cond (.s 25) (.seq (.ops [.i (.mov 4 (.c (.val false [.int .i64 (-1)])))]) .ret) .skip)))) (.ops [.i (.mov 16 (.s 5)), .i (.bin 17 .add (.s 16) (.c (.val false [.int .i64 1]))), .i (.mov 5 (.s 17))])))))) (.seq (.ops [.i (.mov 26 (.s 1)), .i (.mov 4 (.s 26))]) .ret)))))⟩
def iy:AF:=⟨2,5,[.tmp 4],(.seq (.ops [.i (.mov 4 (.c (.val false [.bool false])))]) (.seq (.seq (.ops [.i (.mov 6 (.s 0)), .i (.len 7 false (.s 6)), .i (.mov 8 (.s 1)), .i (.len 9 false (.s 8)), .i (.bin 10 .neq (.s 7) (.s 9))]) (.cond (.s 10) (.seq (.ops [.i (.mov 4 (.c (.val false [.bool false])))]) .ret) .skip)) (.seq (.seq (.ops [.i (.mov 5 (.c (.val false [.int .i64 0])))]) (.block 0 (.loop [25,24,23,22,21,20,19,18,17,16,15,14,13,12,11] (.seq (.seq (.ops [.i (.mov 11 (.s 5)), .i (.mov 12 (.s 0)), .i (.len 13 false (.s 12)), .i (.bin 14 .lss (.s 11) (.s 13))]) (.cond (.s 14) .skip (.exit 0))) (.seq (.block 1 (.seq (.ops [.i (.mov 17 (.s 0)), .i (.mov 18 (.s 5)), .i (.iad 19 (.s 17) (.s 18) 1), .i (.ldh 20 (.s 19) 1 false), .i (.mov 21 (.s 1)), .i (.mov 22 (.s 5)), .i (.iad 23 (.s 21) (.s 22) 1), .i (.ldh 24 (.s 23) 1 false), .i (.bin 25 .neq (.s 20) (.s 24))]) (.cond (.s 25) (.seq (.ops [.i (.mov 4 (.c (.val false [.bool false])))]) .ret) .skip))) (.ops [.i (.mov 15 (.s 5)), .i (.bin 16 .add (.s 15) (.c (.val false [.int .i64 1]))), .i (.mov 5 (.s 16))])))))) (.seq (.ops [.i (.mov 4 (.c (.val false [.bool true])))]) .ret))))⟩
def xM (e gE:Nat) (ag:Bool):AF:=⟨2,5,[.tmp 4],(.seq (.ops [.i (.mov 4 (.c (.val false [.bool false])))]) (.seq (.seq (.ops [.i (.mov 6 (.s 0)), .i (.len 7 false (.s 6)), .i (.mov 8 (.s 1)), .i (.len 9 false (.s 8)), .i (.bin 10 .neq (.s 7) (.s 9))]) (.cond (.s 10) (.seq (.ops [.i (.mov 4 (.c (.val false [.bool false])))]) .ret) .skip)) (.seq (.seq (.ops [.i (.mov 5 (.c (.val false [.int .i64 0])))]) (.block 0 (.loop [26,25,24,23,22,21,20,19,18,17,16,15,14,13,12,11] (.seq (.seq (.ops [.i (.mov 11 (.s 5)), .i (.mov 12 (.s 0)), .i (.len 13 false (.s 12)), .i (.bin 14 .lss (.s 11) (.s 13))]) (.cond (.s 14) .skip (.exit 0))) (.seq (.block 1 (.seq (.ops [.i (.mov 17 (.s 0)), .i (.mov 18 (.s 5)), .i (.iad 19 (.s 17) (.s 18) e), .i (.ldh 20 (.s 19) e ag), .i (.mov 21 (.s 1)), .i (.mov 22 (.s 5)), .i (.iad 23 (.s 21) (.s 22) e), .i (.ldh 24 (.s 23) e ag), .i (.call 26 gE false [(.s 20),(.s 24)]), .i (.not 26 (.s 25))]) (.cond (.s 26) (.seq (.ops [.i (.mov 4 (.c (.val false [.bool false])))]) .ret) .skip))) (.ops [.i (.mov 15 (.s 5)), .i (.bin 16 .add (.s 15) (.c (.val false [.int .i64 1]))), .i (.mov 5 (.s 16))])))))) (.seq (.ops [.i (.mov 4 (.c (.val false [.bool true])))]) .ret))))⟩
def sF (ty by_:Nat) (z:C):AF:=⟨1,5,[.tmp 2],(.seq (.ops [.i (.mov 2 (.c (.val false [.nils])))]) (.seq (.ops [.i (.mov 5 (.s 0)), .i (.len 6 false (.s 5)), .i (.mks 7 ty 1 by_ [z] (.s 6)), .i (.mov 3 (.s 7))]) (.seq (.seq (.ops [.i (.mov 4 (.c (.val false [.int .i64 0])))]) (.block 0 (.loop [20,19,18,17,16,15,14,13,12,11,10,9,8] (.seq (.seq (.ops [.i (.mov 8 (.s 4)), .i (.mov 9 (.s 0)), .i (.len 10 false (.s 9)), .i (.bin 11 .lss (.s 8) (.s 10))]) (.cond (.s 11) .skip (.exit 0))) (.seq (.block 1 (.ops [.i (.mov 14 (.s 3)), .i (.mov 15 (.s 4)), .i (.mov 16 (.s 0)), .i (.mov 17 (.s 4)), .i (.iad 18 (.s 16) (.s 17) 1), .i (.ldh 19 (.s 18) 1 false), .i (.iad 20 (.s 14) (.s 15) 1), .i (.sth (.s 20) (.s 19) 1)])) (.ops [.i (.mov 12 (.s 4)), .i (.bin 13 .add (.s 12) (.c (.val false [.int .i64 1]))), .i (.mov 4 (.s 13))])))))) (.seq (.ops [.i (.mov 21 (.s 3)), .i (.mov 2 (.s 21))]) .ret))))⟩
def C8 (ty e by_ gE:Nat) (z:List C) (ag:Bool):AF:=⟨1,5,[.tmp 2],(.seq (.ops [.i (.mov 2 (.c (.val false [.nils])))]) (.seq (.ops [.i (.mov 5 (.s 0)), .i (.len 6 false (.s 5)), .i (.mks 7 ty e by_ z (.s 6)), .i (.mov 3 (.s 7))]) (.seq (.seq (.ops [.i (.mov 4 (.c (.val false [.int .i64 0])))]) (.block 0 (.loop [21,20,19,18,17,16,15,14,13,12,11,10,9,8] (.seq (.seq (.ops [.i (.mov 8 (.s 4)), .i (.mov 9 (.s 0)), .i (.len 10 false (.s 9)), .i (.bin 11 .lss (.s 8) (.s 10))]) (.cond (.s 11) .skip (.exit 0))) (.seq (.block 1 (.ops [.i (.mov 14 (.s 3)), .i (.mov 15 (.s 4)), .i (.mov 16 (.s 0)), .i (.mov 17 (.s 4)), .i (.iad 18 (.s 16) (.s 17) e), .i (.ldh 19 (.s 18) e ag), .i (.call 21 gE false [(.s 19)]), .i (.iad 21 (.s 14) (.s 15) e), .i (.sth (.s 21) (.s 20) e)])) (.ops [.i (.mov 12 (.s 4)), .i (.bin 13 .add (.s 12) (.c (.val false [.int .i64 1]))), .i (.mov 4 (.s 13))])))))) (.seq (.ops [.i (.mov 22 (.s 3)), .i (.mov 2 (.s 22))]) .ret))))⟩
def tJ (k:IntKind):AF:=⟨2,5,[.tmp 4],(.seq (.ops [.i (.mov 4 (.c (.val false [.int .i64 0])))]) (.seq (.seq (.ops [.i (.mov 5 (.c (.val false [.int .i64 0])))]) (.block 0 (.loop [18,17,16,15,14,13,12,11,10,9,8,7,6] (.seq (.seq (.ops [.i (.mov 6 (.s 5)), .i (.mov 7 (.s 0)), .i (.len 8 false (.s 7)), .i (.bin 9 .lss (.s 6) (.s 8))]) (.cond (.s 9) .skip (.exit 0))) (.seq (.block 1 (.seq (.ops [.i (.mov 12 (.s 0)), .i (.mov 13 (.s 5)), .i (.mov 14 (.s 1)), .i (.cvi 15 k (.s 14)), .i (.iad 16 (.s 12) (.s 13) 1), .i (.sth (.s 16) (.s 15) 1)]) (.ops [.i (.mov 17 (.s 1)), .i (.bin 18 .add (.s 17) (.c (.val false [.int .i64 1]))), .i (.mov 1 (.s 18))]))) (.ops [.i (.mov 10 (.s 5)), .i (.bin 11 .add (.s 10) (.c (.val false [.int .i64 1]))), .i (.mov 5 (.s 11))])))))) (.seq (.ops [.i (.mov 19 (.s 1)), .i (.mov 4 (.s 19))]) .ret)))⟩
def oT (k:IntKind):AF:=⟨2,5,[.tmp 4],(.seq (.ops [.i (.mov 4 (.c (.val false [.int .i64 0])))]) (.seq (.seq (.ops [.i (.mov 5 (.c (.val false [.int .i64 0])))]) (.block 0 (.loop [20,19,18,17,16,15,14,13,12,11,10,9,8,7,6] (.seq (.seq (.ops [.i (.mov 6 (.s 5)), .i (.mov 7 (.s 0)), .i (.len 8 false (.s 7)), .i (.bin 9 .lss (.s 6) (.s 8))]) (.cond (.s 9) .skip (.exit 0))) (.seq (.block 1 (.seq (.seq (.ops [.i (.mov 12 (.s 0)), .i (.mov 13 (.s 5)), .i (.iad 14 (.s 12) (.s 13) 1), .i (.ldh 15 (.s 14) 1 false), .i (.mov 16 (.s 1)), .i (.cvi 17 k (.s 16)), .i (.bin 18 .neq (.s 15) (.s 17))]) (.cond (.s 18) (.seq (.ops [.i (.mov 4 (.c (.val false [.int .i64 (-1)])))]) .ret) .skip)) (.ops [.i (.mov 19 (.s 1)), .i (.bin 20 .add (.s 19) (.c (.val false [.int .i64 1]))), .i (.mov 1 (.s 20))]))) (.ops [.i (.mov 10 (.s 5)), .i (.bin 11 .add (.s 10) (.c (.val false [.int .i64 1]))), .i (.mov 5 (.s 11))])))))) (.seq (.ops [.i (.mov 21 (.s 1)), .i (.mov 4 (.s 21))]) .ret)))⟩
def DV (gE:Nat):AF:=⟨2,5,[.tmp 4],(.seq (.ops [.i (.mov 4 (.c (.val false [.int .i64 0])))]) (.seq (.seq (.ops [.i (.mov 5 (.c (.val false [.int .i64 0])))]) (.block 0 (.loop [17,16,15,14,13,12,11,10,9,8,7,6] (.seq (.seq (.ops [.i (.mov 6 (.s 5)), .i (.mov 7 (.s 0)), .i (.len 8 false (.s 7)), .i (.bin 9 .lss (.s 6) (.s 8))]) (.cond (.s 9) .skip (.exit 0))) (.seq (.block 1 (.ops [.i (.mov 12 (.s 0)), .i (.mov 13 (.s 5)), .i (.iad 14 (.s 12) (.s 13) 1), .i (.ldh 15 (.s 14) 1 false), .i (.mov 16 (.s 1)), .i (.call 18 gE false [(.s 15),(.s 16)]), .i (.mov 1 (.s 17))])) (.ops [.i (.mov 10 (.s 5)), .i (.bin 11 .add (.s 10) (.c (.val false [.int .i64 1]))), .i (.mov 5 (.s 11))])))))) (.seq (.ops [.i (.mov 18 (.s 1)), .i (.mov 4 (.s 18))]) .ret)))⟩
def C6 (gE:Nat):AF:=⟨2,5,[.tmp 4],(.seq (.ops [.i (.mov 4 (.c (.val false [.int .i64 0])))]) (.seq (.seq (.ops [.i (.mov 5 (.c (.val false [.int .i64 0])))]) (.block 0 (.loop [19,18,17,16,15,14,13,12,11,10,9,8,7,6] (.seq (.seq (.ops [.i (.mov 6 (.s 5)), .i (.mov 7 (.s 0)), .i (.len 8 false (.s 7)), .i (.bin 9 .lss (.s 6) (.s 8))]) (.cond (.s 9) .skip (.exit 0))) (.seq (.block 1 (.seq (.ops [.i (.mov 12 (.s 0)), .i (.mov 13 (.s 5)), .i (.iad 14 (.s 12) (.s 13) 1), .i (.ldh 15 (.s 14) 1 false), .i (.mov 16 (.s 1)), .i (.call 18 gE false [(.s 15),(.s 16)]), .i (.mov 1 (.s 17))]) (.seq (.ops [.i (.mov 18 (.s 1)), .i (.bin 19 .lss (.s 18) (.c (.val false [.int .i64 0])))]) (.cond (.s 19) (.seq (.ops [.i (.mov 4 (.c (.val false [.int .i64 (-1)])))]) .ret) .skip)))) (.ops [.i (.mov 10 (.s 5)), .i (.bin 11 .add (.s 10) (.c (.val false [.int .i64 1]))), .i (.mov 5 (.s 11))])))))) (.seq (.ops [.i (.mov 20 (.s 1)), .i (.mov 4 (.s 20))]) .ret)))⟩
theorem tL {h:H} {k:IntKind}:∀ {xs:List Tv} {cs:List C} {S:List Nat},bq (Rp h (.int k)) xs cs S→dw xs=0∧S= []
 | [],_,_,⟨_,e⟩=>⟨rfl,e⟩
 |x::xs,_,_,⟨c1,c2,S1,S2,_,h2,h3,h4⟩=>by
  obtain⟨n,_,h5,h6,_⟩:=h3.int
  obtain⟨h7,h8⟩:=tL h4
  exact⟨by simp[dw,h5,wt,h7],by rw[h2,h6,h8];rfl⟩
theorem KF {cd:Nat→Option AF} {g:Nat} (hg:cd g=some wH) {kk:IntKind}:xT cd g (.sl (.int kk)):=by
 intro h cs v S k hv hk
 obtain⟨c,xs,id,off,bs,S',rfl,rfl,hm,hl,hat,hce,hbs,hel,hS⟩:=hv.view
 have hw:wt (.l xs)=xs.length:=by simp[wt,(tL hel).1]
 rw[hw]
 refine aZ hg rfl ?_
 simp(disch:=omega) only[wH,hl,aN,SQ,SU,SL,reduceCtorEq,Nat.reduceAdd,Nat.reduceLeDiff,reduceIte]
 refine aV (fun hb=> ?_) (fun hb=> ?_)
 ·simp(disch:=omega) only[wH,aN,SQ,SU,SL,reduceCtorEq,Nat.reduceAdd,Nat.reduceLeDiff,reduceIte]
  rw[if_neg (by omega)]
 ·simp(disch:=omega) only[wH,aN,SQ,SU,SL,reduceCtorEq,Nat.reduceAdd,Nat.reduceLeDiff,reduceIte]
  rw[if_pos (by omega)]
theorem Lx {cd:Nat→Option AF} {g:Nat} (hcd:cd g=some iy) {kk:IntKind}:cG cd g (.sl (.int kk)):=by
 intro h ca cb va vb Sa Sb ha hb
 obtain⟨c1,xs,id1,off1,bs1,S1,rfl,rfl,hm1,hl1,hat1,hce1,hbs1,hel1,hS1⟩:=ha.view
 obtain⟨c2,ys,id2,off2,bs2,S2,rfl,rfl,hm2,hl2,hat2,hce2,hbs2,hel2,hS2⟩:=hb.view
 refine aZ hcd rfl ?_
 simp(disch:=omega) only[iy,hl1,hl2,aN,SQ,SU,SL,reduceCtorEq,Nat.reduceAdd,Nat.reduceLeDiff,reduceIte]
 refine aV (fun hne=> ?_) (fun hne=> ?_)
 ·simp(disch:=omega) only[iy,SQ,SU,SL,reduceCtorEq,Nat.reduceAdd,Nat.reduceLeDiff,reduceIte]
  have:¬xs=ys:=fun e=>hne (by rw[e])
  simp[this]
 ·have hlen:xs.length=ys.length:=by omega
  simp(disch:=omega) only[iy,SQ,SU,SL,reduceCtorEq,Nat.reduceAdd,Nat.reduceLeDiff,reduceIte]
  refine fX (σ:=Nat) (f1:=_) (by simp only[SQ,SU,SL,reduceCtorEq,Nat.reduceAdd,Nat.reduceLeDiff,reduceIte];rfl) (fun i=> [(5, .val false [.int .i64 i])]) (fun i g h'=>g=xs.length - i∧i≤xs.length∧h'=h∧∀j,j < i→xs[j]? =ys[j]?) 0 xs.length (by simp only[SQ,SU,SL,reduceCtorEq,Nat.reduceAdd,Nat.reduceLeDiff,reduceIte];rfl) ⟨by omega,by omega,rfl,fun j hj=>by omega⟩ ?_
  rintro i g h' ⟨hg,hi,rfl,hall⟩
  simp(disch:=omega) only[iy,hl1,hl2,aN,SQ,SU,SL,reduceCtorEq,Nat.reduceAdd,Nat.reduceLeDiff,reduceIte]
  refine aV (fun hlt=> ?_) (fun hlt=> ?_)
  ·have hix:i < xs.length:=by omega
   have hiy:i < ys.length:=by omega
   obtain⟨_,k1⟩:=hel1.at hix
   obtain⟨a,k1,k2,_⟩:=k1.int
   obtain⟨_,q1⟩:=hel2.at hiy
   obtain⟨b,q1,q2,_⟩:=q1.int
   simp only[Ty.size,Nat.mul_one]at k1 q1 hat1 hat2 hbs1 hbs2
   simp(disch:=omega) only[iy,hl1,hl2,hat1 i hix,hat2 i hiy,(hce1 (by omega)).1,(hce2 (by omega)).1,k1,q1,bh,aN,SQ,SU,SL,reduceCtorEq,Nat.reduceAdd,Nat.reduceLeDiff,reduceIte]
   refine aV (fun hne=> ?_) (fun hne=> ?_)
   ·simp(disch:=omega) only[iy,SQ,SU,SL,reduceCtorEq,Nat.reduceAdd,Nat.reduceLeDiff,reduceIte]
    have:¬xs=ys:=fun e=>by
     subst e
     rw[k2]at q2
     cases q2
     exact hne rfl
    simp[this]
   ·simp(disch:=omega) only[iy,aN,SQ,SU,SL,reduceCtorEq,Nat.reduceAdd,Nat.reduceLeDiff,reduceIte]
    refine⟨i+1,xs.length - (i+1),by omega,rfl,rfl,by omega,fun j hj=> ?_⟩
    by_cases e:j=i
    ·subst e
     rw[List.getElem?_eq_getElem hix,List.getElem?_eq_getElem hiy,k2,q2]
     have:a=b:=by omega
     rw[this]
    ·exact hall j (by omega)
  ·simp(disch:=omega) only[iy,SQ,SU,SL,reduceCtorEq,Nat.reduceAdd,Nat.reduceLeDiff,reduceIte]
   have:xs=ys:=List.ext_getElem? fun j=>by
    by_cases hj:j < i
    ·exact hall j hj
    ·rw[List.getElem?_eq_none (by omega),List.getElem?_eq_none (by omega)]
   simp[this]
theorem Lv {cd:Nat→Option AF} {g ty by_:Nat} {kk:IntKind} (hcd:cd g=some (sF ty by_ (.int kk 0))) (hby:by_≤8):Fu cd g (.sl (.int kk)):=by
 intro h cs v S hv hw
 obtain⟨c,xs,id,off,bs,S',rfl,rfl,hm,hl,hat,hce,hbs,hel,hS⟩:=hv.view
 have hn:xs.length≤1048576:=by simp only[wt]at hw;omega
 simp only[Ty.size,Nat.mul_one]at hat hbs hel
 have hsl:((bs.drop off).take xs.length).length=xs.length:=by simp;omega
 have hroom:eb (xs.length * by_+xs.length)=true:=Cb (by have:=Nat.mul_le_mul hn hby;omega)
 refine aZ hcd rfl ?_
 simp(disch:=omega) only[sF,hl,aN,Int.toNat_natCast,hroom,bh,Int.natCast_nonneg,Kz,SQ,SU,SL,reduceCtorEq,Nat.reduceAdd,Nat.reduceLeDiff,reduceIte]
 refine fX (σ:=Nat) (f1:=_) (by simp only[SQ,SU,SL,reduceCtorEq,Nat.reduceAdd,Nat.reduceLeDiff,reduceIte];rfl) (fun i=> [(4, .val false [.int .i64 i])])
  (fun i g h'=>g=xs.length - i∧i≤xs.length∧h'=h++ [.own ty (((bs.drop off).take xs.length).take i++List.replicate (xs.length - i) (.int kk 0))]) 0 xs.length (by simp only[SQ,SU,SL,reduceCtorEq,Nat.reduceAdd,Nat.reduceLeDiff,reduceIte];rfl) ⟨by omega,by omega,by simp⟩ ?_
 rintro i g h' ⟨hg,hi,rfl⟩
 simp(disch:=omega) only[sF,hl,aN,SQ,SU,SL,reduceCtorEq,Nat.reduceAdd,Nat.reduceLeDiff,reduceIte]
 refine aV (fun hlt=> ?_) (fun hlt=> ?_)
 ·have hix:i < xs.length:=by omega
  have hcells:=xv (hce (by omega)).1
  have hone:=JT (show off+i < bs.length by omega)
  have hset:=Ii (l:=(bs.drop off).take xs.length) (z:= .int kk 0) hsl hix
  have hget:((bs.drop off).take xs.length)[i]'(by omega)=bs[off+i]'(by omega):=by simp
  rw[hget]at hset
  simp(disch:=omega) only[sF,hl,hat i hix,hcells,hone,hset,iK,DM,Jz,DE,bh,aN,Int.toNat_natCast,List.length_append,List.length_take,List.length_replicate,List.length_drop,SQ,SU,SL,reduceCtorEq,Nat.reduceAdd,Nat.reduceLeDiff,reduceIte]
  exact⟨i+1,xs.length - (i+1),by omega,rfl,rfl,by omega,rfl⟩
 ·simp(disch:=omega) only[sF,SQ,SU,SL,reduceCtorEq,Nat.reduceAdd,Nat.reduceLeDiff,reduceIte]
  have hi':i=xs.length:=by omega
  subst hi'
  refine⟨_,[.sl h.length 0 xs.length 1],[h.length],rfl,rfl,?_,⟨by simp,fun j hj=> ?_⟩,fun j hj=> ?_⟩
  ·refine⟨xs,rfl,by simp only[maxLen];omega, .inr ⟨h.length,0,_,[],1,rfl,cu (iK h _ []),by simp[Ty.size];omega,rfl,?_, .inl rfl⟩⟩
   have e1:(List.drop 0 (((bs.drop off).take xs.length).take xs.length++List.replicate (xs.length - xs.length) (C.int kk 0))).take (xs.length * (Ty.int kk).size)=(bs.drop off).take xs.length:=by
    simp[Ty.size,List.take_take]
   rw[e1]
   have e2:=(tL hel).2
   subst e2
   exact hel.imp fun c x S' _ hx=>hx.app
  ·simp at hj
   subst hj
   exact⟨_,_,iK h _ []⟩
  ·simp at hj;omega
theorem pr {k:IntKind}:∀(xs:List Tv) (n:Nat),rQ (rv (.int k)) (dV (.int k)) xs n=(List.range xs.length).map fun j=>Tv.i (k.wrap ((n+j:Nat):Int))
 | [],n=>rfl
 |x::xs,n=>by
  have e:rQ (rv (.int k)) (dV (.int k)) (x::xs) n=Tv.i (k.wrap (n:Int))::rQ (rv (.int k)) (dV (.int k)) xs (n+1):=rfl
  rw[e,pr xs,List.length_cons,List.range_succ_eq_map,List.map_cons,List.map_map]
  congr 1
  apply List.map_congr_left
  intro j _
  simp only[Function.comp,Nat.succ_eq_add_one]
  congr 3
  omega
theorem FE {k:IntKind}:∀(xs:List Tv),(xs.map (dV (.int k))).sum=xs.length
 | []=>rfl
 |x::xs=>by
  have e:((x::xs).map (dV (.int k))).sum=1+(xs.map (dV (.int k))).sum:=rfl
  rw[e,FE xs,List.length_cons]
  omega
theorem yF {h:H} {k:IntKind}:∀ {ns:List Int} {cs:List C},cs=ns.map (.int k)→(∀n∈ns,k.min≤n∧n≤k.max)→bq (Rp h (.int k)) (ns.map .i) cs []
 | [],cs,h,_=>⟨by rw[h];rfl,rfl⟩
 |n::ns,cs,h,hr=>⟨[.int k n],ns.map (.int k),[],[],by rw[h];rfl,rfl,⟨n,rfl,rfl,rfl,(hr n (by simp)).1,(hr n (by simp)).2⟩,yF rfl fun m hm=>hr m (by simp[hm])⟩
theorem GK (k:IntKind) (n:Int):k.min≤k.wrap n∧k.wrap n≤k.max:=by
 have:=wf_wrap k n
 simpa[Lit.wf]using this
theorem Mf {cd:Nat→Option AF} {g0:Nat} {kk:IntKind} (hcd:cd g0=some (tJ kk)):kC cd g0 (.sl (.int kk)):=by
 intro h cs v S k hv ho hk
 obtain⟨c,xs,id,off,bs,S',rfl,rfl,hm,hl,hat,hce,hbs,hel,hS⟩:=hv.view
 have hS':=(tL hel).2
 subst hS'
 have hcn:i1 (.sl (.int kk)) (.l xs)=xs.length:=by simp only[i1];exact FE xs
 rw[hcn]at hk⊢
 simp only[Ty.size,Nat.mul_one]at hat hbs hel
 have hown:0 < xs.length→∃ty,h[id]? =some (.own ty bs):=fun hp=>by
  rcases hS with hS|⟨e,_⟩
  ·obtain⟨ty,cs,e⟩:=ho.2 id (by rw[hS];simp)
   have:=(hce hp).1
   rw[cu e]at this
   cases this
   exact⟨ty,e⟩
  ·subst e;simp at hp
 obtain⟨ty,hty⟩:∃ty,0 < xs.length→h[id]? =some (.own ty bs):=by
  by_cases hp:0 < xs.length
  ·obtain⟨ty,e⟩:=hown hp
   exact⟨ty,fun _=>e⟩
  ·exact⟨0,fun e=>absurd e hp⟩
 refine aZ hcd rfl ?_
 simp(disch:=omega) only[tJ,SQ,SU,SL,reduceCtorEq,Nat.reduceAdd,Nat.reduceLeDiff,reduceIte]
 refine fX (σ:=Nat) (f1:=_) (by simp only[SQ,SU,SL,reduceCtorEq,Nat.reduceAdd,Nat.reduceLeDiff,reduceIte];rfl) (fun i=> [(5, .val false [.int .i64 i]),(1, .val false [.int .i64 ((k+i:Nat):Int)])])
  (fun i g h'=>g=xs.length - i∧i≤xs.length∧(i=0→h'=h)∧(0 < i→h'=h.set id (.own ty (aR bs off ((List.range i).map fun j=>C.int kk (kk.wrap ((k+j:Nat):Int))))))) 0 xs.length (by simp only[SQ,SU,SL,reduceCtorEq,Nat.reduceAdd,Nat.reduceLeDiff,reduceIte];rfl) ⟨by omega,by omega,fun _=>rfl,fun e=>by omega⟩ ?_
 rintro i g h' ⟨hg,hi,h0,h1⟩
 simp(disch:=omega) only[tJ,hl,aN,SQ,SU,SL,reduceCtorEq,Nat.reduceAdd,Nat.reduceLeDiff,reduceIte]
 refine aV (fun hlt=> ?_) (fun hlt=> ?_)
 ·have hix:i < xs.length:=by omega
  have hidlt:id < h.length:=fH (hce (by omega)).1
  have hb:∃cs,h'[id]? =some (.own ty cs)∧cs=aR bs off ((List.range i).map fun j=>C.int kk (kk.wrap ((k+j:Nat):Int)))∧∀b,h'.set id b=h.set id b:=by
   by_cases hi0:i=0
   ·have:=h0 hi0
    subst this
    subst hi0
    exact⟨bs,hty (by omega),rfl,fun b=>rfl⟩
   ·have:=h1 (by omega)
    subst this
    exact⟨_,gQ hidlt,rfl,fun b=>by rw[List.set_set]⟩
  obtain⟨cs,hb1,hb2,hb3⟩:=hb
  have hcl:cs.length=bs.length:=by rw[hb2,cM]
  simp(disch:=omega) only[tJ,hl,hat i hix,hb1,hb3,DE,bh,aN,hcl,SQ,SU,SL,reduceCtorEq,Nat.reduceAdd,Nat.reduceLeDiff,reduceIte]
  refine⟨i+1,xs.length - (i+1),by omega,rfl,rfl,by omega,fun e=>by omega,fun _=> ?_⟩
  have e1:=Al (C.int kk (kk.wrap ((k+i:Nat):Int))) ((List.range i).map fun j=>C.int kk (kk.wrap ((k+j:Nat):Int))) bs off
  rw[List.length_map,List.length_range]at e1
  rw[hb2,List.range_succ,List.map_append,List.map_singleton,e1]
 ·have hi':i=xs.length:=by omega
  subst hi'
  simp(disch:=omega) only[tJ,SQ,SU,SL,reduceCtorEq,Nat.reduceAdd,Nat.reduceLeDiff,reduceIte]
  have hml:((List.range xs.length).map fun j=>C.int kk (kk.wrap ((k+j:Nat):Int))).length=xs.length:=by simp
  by_cases hp:0 < xs.length
  ·have hidlt:id < h.length:=fH (hce hp).1
   have hSid:S= [id]:=by
    rcases hS with e|⟨e,_⟩
    ·exact e
    ·subst e;simp at hp
   rw[h1 hp]
   subst hSid
   refine⟨⟨by simp,fun j hj=>cj (by simpa using hj),fun j hj=> ?_⟩,?_⟩
   ·simp at hj
    subst hj
    exact⟨_,_,gQ hidlt⟩
   ·refine⟨_,rfl,?_, .inr ⟨id,off,_,[],1,?_,cu (gQ hidlt),?_,rfl,?_, .inl rfl⟩⟩
    ·simp only[pr,List.length_map,List.length_range,maxLen];omega
    ·rw[(hce hp).2];simp[pr,Ty.size]
    ·simp only[pr,List.length_map,List.length_range,cM,Ty.size];omega
    ·rw[pr]
     simp only[List.length_map,List.length_range,Ty.size,Nat.mul_one]
     have e2:=G3 (l:=(List.range xs.length).map fun j=>C.int kk (kk.wrap ((k+j:Nat):Int))) (cs:=bs) (o:=off) (by rw[hml];omega)
     rw[hml]at e2
     rw[e2]
     have e3:((List.range xs.length).map fun j=>Tv.i (kk.wrap ((k+j:Nat):Int)))=((List.range xs.length).map fun j=>kk.wrap ((k+j:Nat):Int)).map .i:=by rw[List.map_map];rfl
     rw[e3]
     refine yF (by rw[List.map_map];rfl) fun n hn=> ?_
     obtain⟨j,_,rfl⟩:=List.mem_map.1 hn
     exact GK _ _
  ·have hx:xs= []:=List.eq_nil_of_length_eq_zero (by omega)
   subst hx
   rw[h0 rfl]
   exact⟨⟨rfl,fun _ _=>rfl,ho.2⟩,hv⟩
theorem LM {cd:Nat→Option AF} {g0:Nat} {kk:IntKind} (hcd:cd g0=some (oT kk)):jR cd g0 (.sl (.int kk)):=by
 intro h cs v S k hT hv hk
 by_cases hsl:∃xs,v= .l xs
 case neg=>
  obtain⟨xs,e,_⟩:=hv.sl
  cases v <;>simp[yC]at e
  exact absurd ⟨_,rfl⟩ hsl
 obtain⟨zs,rfl⟩:=hsl
 obtain⟨c,xs,id,off,bs,S',rfl,hxs,hm,hl,hat,hce,hbs,hel,hS⟩:=hv.view
 have hcn:i1 (.sl (.int kk)) (.l zs)=zs.length:=by simp only[i1];exact FE zs
 rw[hcn]at hk⊢
 have hxs':xs=(List.range zs.length).map fun j=>Tv.i (kk.wrap ((k+j:Nat):Int)):=by
  have e:yC (.sl (.int kk)) (.l zs) k= .l (rQ (rv (.int kk)) (dV (.int kk)) zs k):=rfl
  rw[e,pr]at hxs
  exact(by simpa using hxs.symm)
 have hlen:xs.length=zs.length:=by rw[hxs'];simp
 have hel0:=hel
 simp only[Ty.size,Nat.mul_one]at hat hbs hel
 refine aZ hcd rfl ?_
 simp(disch:=omega) only[oT,SQ,SU,SL,reduceCtorEq,Nat.reduceAdd,Nat.reduceLeDiff,reduceIte]
 refine fX (σ:=Nat) (f1:=_) (by simp only[SQ,SU,SL,reduceCtorEq,Nat.reduceAdd,Nat.reduceLeDiff,reduceIte];rfl) (fun i=> [(5, .val false [.int .i64 i]),(1, .val false [.int .i64 ((k+i:Nat):Int)])])
  (fun i g h'=>g=xs.length - i∧i≤xs.length∧h'=h) 0 xs.length (by simp only[SQ,SU,SL,reduceCtorEq,Nat.reduceAdd,Nat.reduceLeDiff,reduceIte];rfl) ⟨by omega,by omega,rfl⟩ ?_
 rintro i g h' ⟨hg,hi,rfl⟩
 simp(disch:=omega) only[oT,hl,aN,SQ,SU,SL,reduceCtorEq,Nat.reduceAdd,Nat.reduceLeDiff,reduceIte]
 refine aV (fun hlt=> ?_) (fun hlt=> ?_)
 ·have hix:i < xs.length:=by omega
  obtain⟨_,k1⟩:=hel0.at hix
  obtain⟨a,k1,k2,_⟩:=k1.int
  have ha:a=kk.wrap ((k+i:Nat):Int):=by
   have:xs[i]? =some (Tv.i (kk.wrap ((k+i:Nat):Int))):=by
    rw[hxs',List.getElem?_map,List.getElem?_range (by omega)];rfl
   rw[List.getElem?_eq_getElem hix,k2]at this
   simpa using this
  simp only[Ty.size,Nat.mul_one]at k1
  simp(disch:=omega) only[oT,hl,hat i hix,(hce (by omega)).1,k1,bh,aN,SQ,SU,SL,reduceCtorEq,Nat.reduceAdd,Nat.reduceLeDiff,reduceIte]
  refine aV (fun hne=> ?_) (fun hne=> ?_)
  ·exact absurd ha hne
  ·simp(disch:=omega) only[oT,aN,SQ,SU,SL,reduceCtorEq,Nat.reduceAdd,Nat.reduceLeDiff,reduceIte]
   exact⟨i+1,xs.length - (i+1),by omega,rfl,rfl,by omega⟩
 ·simp(disch:=omega) only[oT,SQ,SU,SL,reduceCtorEq,Nat.reduceAdd,Nat.reduceLeDiff,reduceIte]
  have:i=zs.length:=by omega
  rw[this]
end Go.Eng
