import Derived.Test.YtanfobggenpcaaaGreatGb
import Derived.Test.YtanfobggenpcaaaGreatGg
import Derived.Test.YtanfobggenpcaaaGreatGi
set_option maxRecDepth 100000
set_option linter.unusedSimpArgs false
set_option linter.unusedVariables false
namespace Go.Eng.F
theorem At.join {b:Bytes} {a:Nat} {s t:Bytes} (h1:At b a s) (h2:At b (a+s.length) t):At b a (s++t):=by
 obtain⟨u,h1⟩:=h1
 obtain⟨w,h2⟩:=h2
 refine⟨w,?_⟩
 rw[←List.drop_drop,h1,List.drop_left]at h2
 rw[h1,h2,List.append_assoc]
def mP (b:Bytes) (r:Rd) (s:Bytes) (r':Rd):Prop:=r.er=0∧At b r.at_ s∧r'=⟨r.at_+s.length,0⟩
theorem mP.nil {b:Bytes} {r:Rd} (h:r.er=0):mP b r [] r:=⟨h,⟨b.drop r.at_,rfl⟩,by obtain⟨x,y⟩:=r;simp only at h;subst h;rfl⟩
theorem mP.join {b:Bytes} {r r1 r2:Rd} {s t:Bytes} (h1:mP b r s r1) (h2:mP b r1 t r2):mP b r (s++t) r2:=by
 obtain⟨a1,a2,rfl⟩:=h1
 obtain⟨_,b2,rfl⟩:=h2
 exact⟨a1,a2.join b2,by simp only[List.length_append,Nat.add_assoc]⟩
theorem mP.er {b:Bytes} {r r1:Rd} {s:Bytes} (h:mP b r s r1):r1.er=0:=by rw[h.2.2]
theorem OU:∀(s:Bytes) (k n:Nat),(gv s k n).2.2=0→∃v,(k=0∨0 < v)∧(gv s k n).1=n+v * 128 ^ k∧(gv s k n).2.1=k+(aP v).length∧(∃t,s=aP v++t)∧n+v * 128 ^ k≤1152921504606846975
 | [],k,n,h=>by simp[gv]at h
 |c::r,k,n,h=>by
  have hc:c.toNat < 256:=c.toNat_lt
  have ec:UInt8.ofNat c.toNat=c:=by simp
  rw[gv]at h⊢
  split at h
  ·simp at h
  ·rename_i h1
   rw[if_neg h1]
   split at h
   ·rename_i h2
    rw[if_pos h2]
    split at h
    ·rename_i h3
     rw[if_pos h3]
     refine⟨c.toNat,by omega,rfl,by rw[tN h2];rfl,⟨r,by rw[tN h2,ec];rfl⟩,h3⟩
    ·simp at h
   ·rename_i h2
    rw[if_neg h2]
    obtain⟨v,e1,e2,e3,⟨t,e4⟩,e5⟩:=OU r (k+1) (n+(c.toNat - 128) * 128 ^ k) h
    have hv:¬v * 128+(c.toNat - 128) < 128:=by omega
    have hd:(v * 128+(c.toNat - 128)) / 128=v:=by omega
    have hm:(v * 128+(c.toNat - 128)) % 128+128=c.toNat:=by omega
    have hb:aP (v * 128+(c.toNat - 128))=c::aP v:=by rw[BM hv,hd,hm,ec]
    have hx:n+(c.toNat - 128) * 128 ^ k+v * 128 ^ (k+1)=n+(v * 128+(c.toNat - 128)) * 128 ^ k:=by
     rw[Nat.add_mul,Nat.pow_succ,Nat.mul_comm (128 ^ k) 128,←Nat.mul_assoc]
     omega
    refine⟨v * 128+(c.toNat - 128), .inr (by omega),by rw[e2,hx],by rw[e3,hb,List.length_cons];omega,⟨t,by rw[hb,e4];rfl⟩,by rw[←hx];exact e5⟩
theorem d4 {b:Bytes} {r:Rd} (h:(br b r).2.er=0):mP b r (aP (br b r).1) (br b r).2∧isNum ((br b r).1:Int)=true:=by
 have h0:=Ml h
 simp only[br,if_pos h0,getVar]at h⊢
 split at h
 ·rename_i h1
  obtain⟨v,_,e1,e2,⟨t,e3⟩,e4⟩:=OU _ 0 0 h1
  rw[if_pos h1]
  simp only[Nat.zero_add,Nat.pow_zero,Nat.mul_one]at e1 e2 e4
  simp only[e1,e2]
  exact⟨⟨h0,⟨t,e3⟩,rfl⟩,by simp only[isNum,cO,decide_eq_true_eq];omega⟩
 ·rename_i h1
  exact absurd h h1
theorem dR {r:Rd} {bad:Bool} {c:Nat} (h:(bQ r bad c).er=0) (hc:c≠0):bQ r bad c=r∧bad=false:=by
 have e:=je h hc
 subst e
 exact⟨QT,rfl⟩
theorem fq {b:Bytes} {r:Rd} {N:Int} {c:Nat} (h:(bd b r N c).2.er=0) (hc:c≠0):mP b r (aP (bd b r N c).1) (bd b r N c).2∧isNum ((bd b r N c).1:Int)=true∧((bd b r N c).1:Int) < N:=by
 have h1:=dR h hc
 have h2:=d4 (dO h)
 simp only[bd]at h1⊢
 rw[h1.1]
 exact⟨h2.1,h2.2,by simpa using h1.2⟩
theorem wD {b:Bytes} {a n:Nat} (h:(d8 b a n).2.er=0):At b a (d8 b a n).1∧(d8 b a n).1.length=n∧(d8 b a n).2=⟨a+n,0⟩:=by
 unfold d8 at h⊢
 split at h
 ·rename_i h1
  rw[if_pos h1]
  exact⟨⟨(b.drop a).drop n,(List.take_append_drop n (b.drop a)).symm⟩,by simp;omega,rfl⟩
 ·simp at h
theorem gX {b:Bytes} {r:Rd} {n:Nat} (h:(bI b r n).2.er=0):mP b r (bI b r n).1 (bI b r n).2∧(bI b r n).1.length=n:=by
 have h0:=Q6 h
 simp only[bI,if_pos h0]at h⊢
 have:=wD h
 exact⟨⟨h0,this.1,by rw[this.2.2,this.2.1]⟩,this.2.1⟩
theorem yL {b:Bytes} {r:Rd} {m:Nat} (h:(dL b r m).2.er=0):mP b r (iD (dL b r m).1) (dL b r m).2∧(dL b r m).1.length≤m:=by
 have h0:=Jy h
 simp only[dL,if_pos h0,gT]at h⊢
 have ev:getVar b r.at_=br b r:=by simp[br,h0]
 rw[ev]at h⊢
 split at h
 ·rename_i h1
  exact absurd h h1
 ·rename_i h1
  rw[if_neg h1]
  split at h
  ·simp at h
  ·rename_i h2
   rw[if_neg h2]
   have g1:=d4 (Decidable.not_not.1 h1)
   have g2:=wD h
   have e2:(br b r).2=⟨r.at_+(aP (br b r).1).length,0⟩:=g1.1.2.2
   have g3:mP b (br b r).2 (d8 b (br b r).2.at_ (br b r).1).1 (d8 b (br b r).2.at_ (br b r).1).2:=⟨Decidable.not_not.1 h1,g2.1,by rw[g2.2.2,g2.2.1]⟩
   refine⟨?_,by rw[g2.2.1];omega⟩
   have:=g1.1.join g3
   unfold iD
   rw[g2.2.1]
   exact this
theorem Ja {b:Bytes} {a:Nat} {n:Int} (h:(cp b a n).2.er=0):At b a (cp b a n).1∧eA (cp b a n).1 n=true∧(cp b a n).2=⟨a+(cp b a n).1.length,0⟩:=by
 simp only[cp]at h⊢
 split at h
 ·rename_i h1
  exact absurd h h1
 ·rename_i h1
  rw[if_neg h1]
  split at h
  ·rename_i h2
   rw[if_pos h2]
   have g:=wD (Decidable.not_not.1 h1)
   exact⟨g.1,h2,by rw[g.2.2,g.2.1]⟩
  ·simp at h
theorem tZ {α:Type} {b:Bytes} {f:Rd→α×Rd} {e:α→Bytes} {p:α→Prop} (hf:∀r,(f r).2.er=0→p (f r).1∧mP b r (e (f r).1) (f r).2):∀(k:Nat) (r:Rd),(cI f k r).2.er=0→(∀x∈(cI f k r).1,p x)∧mP b r ((cI f k r).1.map e).flatten (cI f k r).2
 |0,r,h=>⟨by simp[cI],mP.nil h⟩
 |k+1,r,h=>by
  by_cases h0:r.er=0
  ·rw[me h0]at h⊢
   have h1:=tZ hf k _ h
   have h2:=hf r h1.2.1
   exact⟨fun x hx=>by
    rcases List.mem_cons.1 hx with rfl|hx
    ·exact h2.1
    ·exact h1.1 x hx,by
    simp only[List.map_cons,List.flatten_cons]
    exact h2.2.join h1.2⟩
  ·rw[tQ h0]at h
   exact absurd h h0
theorem I0 {b:Bytes} {k:Nat} {r:Rd} (h:(fv (fun r=>bI b r 32) k r).2.er=0):(∀x∈(fv (fun r=>bI b r 32) k r).1,x.length=32)∧mP b r (fv (fun r=>bI b r 32) k r).1.flatten (fv (fun r=>bI b r 32) k r).2:=by
 have h1:=GW (b:=b) k r
 rw[h1.1]at h
 have h2:=h1.2 h
 have h3:=tZ (b:=b) (f:=fun r=>bI b r 32) (e:=fun x=>x) (p:=fun x=>x.length=32) (fun r hr=>⟨(gX hr).2,(gX hr).1⟩) k r h
 rw[h2,h1.1]
 simpa using h3
theorem jG {x:Bytes} (h:x.length=32):hash x=true:=by simp[hash,h]
theorem Nj {b:Bytes} {l:ah} {r:Rd} (hl:l.ok=true) (h:(gW b l r).2.er=0):sR l (gW b l r).1=true∧mP b r (NG (gW b l r).1) (gW b l r).2:=by
 have g5:=gX (show(bI b (bd b (bI b (br b (br b r).2).2 32).2 l.n 5).2 32).2.er=0 from h)
 have g4:=fq g5.1.1 (by omega)
 have g3:=gX g4.1.1
 have g2:=d4 g3.1.1
 have g1:=d4 g2.1.1
 refine⟨?_,g1.1.join (g2.1.join (g3.1.join (g4.1.join g5.1)))⟩
 have h4:cO ((bd b (bI b (br b (br b r).2).2 32).2 l.n 5).1:Int) 0 (l.n - 1)=true:=by simp only[cO,decide_eq_true_eq];omega
 simp only[sR,gW,hl,g1.2,g2.2,jG g3.2,jG g5.2,h4,Bool.and_self]
theorem H3 {b:Bytes} {l:ah} {r:Rd} (hl:l.ok=true) (h:(wG b l r).2.er=0):eS l (wG b l r).1=true∧mP b r (Kz (wG b l r).1) (wG b l r).2:=by
 by_cases h0:(bI b (br b (br b r).2).2 32).2.er=0
 ·simp only[wG,if_pos h0]at h⊢
  have g5:=I0 h
  have g3:=gX h0
  have g2:=d4 g3.1.1
  have g1:=d4 g2.1.1
  have g4:=Ja g5.2.1
  have g4':mP b (bI b (br b (br b r).2).2 32).2 (cp b (bI b (br b (br b r).2).2 32).2.at_ l.n).1 (cp b (bI b (br b (br b r).2).2 32).2.at_ l.n).2:=⟨h0,g4.1,g4.2.2⟩
  have h6:=g1.1.join (g2.1.join (g3.1.join (g4'.join g5.2)))
  refine⟨?_,by simp only[Kz,List.append_assoc];exact h6⟩
  have h7:hashes (fv (fun r=>bI b r 32) (aT (cp b (bI b (br b (br b r).2).2 32).2.at_ l.n).1).length (cp b (bI b (br b (br b r).2).2 32).2.at_ l.n).2).1=true:=by
   simp only[hashes,List.all_eq_true]
   exact fun x hx=>jG (g5.1 x hx)
  simp only[eS,hl,g1.2,g2.2,jG g3.2,g4.2.1,xz,decide_true,h7,Bool.and_self]
 ·simp only[wG,if_neg h0]at h
  exact absurd h h0
theorem mP.fail {b:Bytes} {r r':Rd} {bad:Bool} {c:Nat} {s:Bytes} (h:mP b (bQ r bad c) s r') (hc:c≠0):mP b r s r':=by
 have e:=(dR h.1 hc).1
 rw[e]at h
 exact h
theorem mP.len {b:Bytes} {r r':Rd} {s t:Bytes} {n m:Nat} (h:mP b r (s++(aP n++t)) r') (e:m=n):mP b r (s++(aP m++t)) r':=by
 rw[e]
 exact h
theorem zn {b:Bytes} {l:ah} {r:Rd} (hl:l.ok=true) (h:(dr b l r).2.er=0):bx l (dr b l r).1=true∧mP b r (dM (dr b l r).1) (dr b l r).2:=by
 simp only[dr]at h⊢
 have f7:=dR h (by omega)
 have h':=dO h
 rw[f7.1]
 have g6:=H3 hl h'
 have g5:=gX g6.2.1
 have g4:=gX g5.1.1
 have g3:=fq g4.1.1 (by omega)
 have f3:=dR g3.1.1 (by omega)
 have g2:=d4 (dO g3.1.1)
 have g1:=d4 g2.1.1
 have h2:cO ((br b (br b r).2).1:Int) 1 1152921504606846975=true:=by
  have a1:=c8 g2.2
  have a2:=f3.2
  simp only[decide_eq_false_iff_not]at a2
  simp only[cO,decide_eq_true_eq]
  omega
 have h7:=f7.2
 rw[Bool.not_eq_false']at h7
 generalize e3:bd b (bQ (br b (br b r).2).2 (decide ((br b (br b r).2).1=0)) 5) l.n 5=s3 at g3 g4 g5 g6 h7⊢
 have h6:=g1.1.join (g2.1.join ((g3.1.fail (by omega)).join (g4.1.join (g5.1.join g6.2))))
 refine⟨?_,by simp only[dM,List.append_assoc,Int.toNat_natCast];exact h6⟩
 have h3:cO (s3.1:Int) 0 (l.n - 1)=true:=by simp only[cO,decide_eq_true_eq];omega
 simp only[bx,g6.1,g1.2,h2,h3,jG g4.2,jG g5.2,h7,Bool.and_self]
theorem Lh {b:Bytes} {l:ah} {r:Rd} (hl:l.ok=true) (h:(dZ b l r).2.er=0):bj l (dZ b l r).1=true∧mP b r (jm (dZ b l r).1) (dZ b l r).2:=by
 have hL:=fV hl
 simp only[dZ]at h⊢
 have f3:=dR h (by omega)
 have h':=dO h
 rw[f3.1]
 have g3:=tZ (b:=b) (f:=fun r=>dL b r l.tx.toNat) (e:=iD) (p:=fun x=>x.length≤l.tx.toNat) (fun r hr=>⟨(yL hr).2,(yL hr).1⟩) _ _ h'
 have g4:=wo _ _ h'
 have g2:=fq g3.2.1 (by omega)
 have g1:=zn hl g2.1.1
 have h5:=f3.2
 simp only[decide_eq_false_iff_not,Decidable.not_not]at h5
 generalize bd b (dr b l r).2 (l.txs+1) 3=s2 at g2 g3 g4 h5⊢
 generalize cI (fun r=>dL b r l.tx.toNat) s2.1 s2.2=s3 at g3 g4 h5⊢
 have h6:=g1.2.join (g2.1.join g3.2)
 refine⟨?_,h6.len g4⟩
 have h4:yr l s3.1=true:=by
  simp only[yr,List.all_eq_true,decide_eq_true_eq]
  intro x hx
  have:=g3.1 x hx
  have:=hL.2.1
  omega
 simp only[bj,Bool.and_eq_true,decide_eq_true_eq]
 exact⟨⟨⟨g1.1,by rw[g4];omega⟩,h4⟩,h5⟩
theorem GF {b:Bytes} {l:ah} {view:Int}:∀(k:Nat) (bf:Int) (r:Rd),(gw b l view k bf r).2.er=0→(gw b l view k bf r).1.length=k∧Dr l view bf (gw b l view k bf r).1∧mP b r ((gw b l view k bf r).1.map LH).flatten (gw b l view k bf r).2
 |0,bf,r,h=>⟨rfl,trivial,mP.nil h⟩
 |k+1,bf,r,h=>by
  by_cases h0:r.er=0
  ·simp only[CB h0]at h⊢
   have h1:=GF k _ _ h
   have g3:=gX h1.2.2.1
   have g2:=fq g3.1.1 (by omega)
   have f1:=dR g2.1.1 (by omega)
   have g1:=fq (dO g2.1.1) (by omega)
   have h2:=f1.2
   simp only[decide_eq_false_iff_not]at h2
   generalize bd b (bQ (bd b r l.n 5).2 (decide (((bd b r l.n 5).1:Int)≤bf)) 6) view 6=s2 at g2 g3 h1⊢
   have b1:0≤((bd b r l.n 5).1:Int)∧((bd b r l.n 5).1:Int) < l.n∧bf < ((bd b r l.n 5).1:Int):=⟨by omega,g1.2.2,by omega⟩
   have b2:0≤(s2.1:Int)∧(s2.1:Int) < view:=⟨by omega,g2.2.2⟩
   refine⟨by simp only[List.length_cons,h1.1],⟨⟨b1,b2,g3.2⟩,h1.2.1⟩,?_⟩
   simp only[List.map_cons,List.flatten_cons]
   exact mP.join (g1.1.join ((g2.1.fail (by omega)).join g3.1)) h1.2.2
  ·rw[G4 h0]at h
   exact absurd h h0
theorem zC {l:ah} {view:Int}:∀(es:List Entry) (bf:Int),Dr l view bf es→∀(i:Nat) (e:Entry),es[i]? =some e→(0≤e.who∧e.who < l.n)∧(0≤e.high∧e.high < view)∧e.tag.length=32∧(i=0∧bf < e.who∨0 < i∧∃d,es[i - 1]? =some d∧d.who < e.who)
 | [],_,_,i,e,h=>by simp at h
 |x::es,bf,⟨⟨h1,h2,h3⟩,hr⟩,0,e,h=>by
  simp only[List.getElem?_cons_zero,Option.some.injEq]at h
  subst h
  exact⟨⟨h1.1,h1.2.1⟩,h2,h3, .inl ⟨rfl,h1.2.2⟩⟩
 |x::es,bf,⟨⟨h1,h2,h3⟩,hr⟩,i+1,e,h=>by
  rw[List.getElem?_cons_succ]at h
  obtain⟨a1,a2,a3,a4⟩:=zC es x.who hr i e h
  refine⟨a1,a2,a3, .inr ⟨by omega,?_⟩⟩
  rcases a4 with⟨rfl,a4⟩|⟨a5,d,a6,a7⟩
  ·exact⟨x,rfl,a4⟩
  ·refine⟨d,?_,a7⟩
   obtain⟨j,rfl⟩:∃j,i=j+1:=⟨i - 1,by omega⟩
   simpa using a6
theorem PW {b:Bytes} {l:ah} {r:Rd} (hl:l.ok=true) (h:(Hr b l r).2.er=0):fP l (Hr b l r).1=true∧mP b r (OW (Hr b l r).1) (Hr b l r).2:=by
 simp only[Hr]at h⊢
 have g3:=GF _ _ _ h
 have g2:=fq g3.2.2.1 (by omega)
 have g1:=d4 g2.1.1
 have h6:=g1.1.join (g2.1.join g3.2.2)
 refine⟨?_,h6.len g3.1⟩
 simp only[fP,hl,g1.2,Bool.and_eq_true,decide_eq_true_eq,List.all_eq_true,List.mem_range]
 refine⟨⟨⟨trivial,trivial⟩,by rw[g3.1];omega⟩,fun i hi=> ?_⟩
 have hg:=List.getElem?_eq_getElem hi
 obtain⟨a1,a2,a3,a4⟩:=zC _ _ g3.2.1 i _ hg
 have b1:∀n hi:Int,0≤n→n < hi→cO n 0 (hi - 1)=true:=fun n hi h1 h2=>by simp only[cO,decide_eq_true_eq];omega
 simp only[cn,hg,b1 _ _ a1.1 a1.2,b1 _ _ a2.1 a2.2,jG a3,Bool.true_and,Bool.or_eq_true,decide_eq_true_eq]
 rcases a4 with⟨a4,_⟩|⟨_,d,a5,a6⟩
 ·exact .inl a4
 ·exact .inr (by rw[a5];simpa using a6)
theorem Lz {b:Bytes} {l:ah} {r:Rd} (hl:l.ok=true) (h:(dT b l r).2.er=0):cj l (dT b l r).1=true∧mP b r (iU (dT b l r).1) (dT b l r).2:=by
 simp only[dT]at h⊢
 have f3:=dR h (by omega)
 have h':=dO h
 rw[f3.1]
 have g3:=H3 hl h'
 have g2:=tZ (b:=b) (f:=dr b l) (e:=dM) (p:=fun x=>bx l x=true) (fun r hr=>zn hl hr) _ _ g3.2.1
 have g4:=wo _ _ g3.2.1
 have f2:=dR g2.2.1 (by omega)
 have f1:=dR (dO g2.2.1) (by omega)
 have g1:=d4 (dO (dO g2.2.1))
 have a3:=f3.2
 rw[Bool.not_eq_false']at a3
 have a1:=f1.2
 have a2:=f2.2
 simp only[decide_eq_false_iff_not]at a1 a2
 generalize cI (dr b l) (br b r).1 (bQ (bQ (br b r).2 (decide ((br b r).1 < 3)) 5) (decide (l.heads < ((br b r).1:Int))) 3)=s2 at g2 g3 g4 a3⊢
 have h6:=mP.join (s:= []) (mP.nil g1.1.1) (g1.1.join (((g2.2.fail (by omega)).fail (by omega)).join g3.2))
 refine⟨?_,h6.len g4⟩
 simp only[cj,Bool.and_eq_true,iI,List.all_eq_true]
 exact⟨⟨⟨by rw[g4];simp only[cO,decide_eq_true_eq];omega,g2.1⟩,g3.1⟩,a3⟩
theorem LP {b:Bytes} {l:ah} {r:Rd} (h:(cm b l r).2.er=0):(isNum ((cm b l r).1.1:Int)=true∧(1≤(cm b l r).1.2.1∧((cm b l r).1.2.1:Int)≤l.txs)∧(cm b l r).1.2.2.1 < (cm b l r).1.2.1∧(cm b l r).1.2.2.2.length≤l.tx.toNat)∧mP b r (aP (cm b l r).1.1++(aP (cm b l r).1.2.1++(aP (cm b l r).1.2.2.1++iD (cm b l r).1.2.2.2))) (cm b l r).2:=by
 simp only[cm]at h⊢
 have g4:=yL h
 have g3:=fq g4.1.1 (by omega)
 have f2:=dR g3.1.1 (by omega)
 have f1:=dR (dO g3.1.1) (by omega)
 have g2:=d4 (dO (dO g3.1.1))
 have g1:=d4 g2.1.1
 have a1:=f1.2
 have a2:=f2.2
 simp only[decide_eq_false_iff_not]at a1 a2
 have a3:=g3.2.2
 exact⟨⟨g1.2,by omega,by omega,g4.2⟩,g1.1.join (g2.1.join (((g3.1.fail (by omega)).fail (by omega)).join g4.1))⟩
theorem MW {b:Bytes} {l:ah} {r:Rd} (hl:l.ok=true) (h:(f8 b l r).2.er=0):dS l (f8 b l r).1=true∧mP b r (pH (f8 b l r).1) (f8 b l r).2:=by
 have hL:=fV hl
 have hL1:=hL.2.1
 by_cases h0:(cm b l r).2.er=0
 ·simp only[f8,if_pos h0]at h⊢
  obtain⟨⟨b1,b2,b3,b4⟩,b5⟩:=LP h0
  have g5:=I0 h
  have gl:=xz (f:=fun r=>bI b r 32) (bh (cm b l r).1.2.2.1 (cm b l r).1.2.1) (cm b l r).2
  generalize fv (fun r=>bI b r 32) (bh (cm b l r).1.2.2.1 (cm b l r).1.2.1) (cm b l r).2=s5 at g5 gl⊢
  generalize cm b l r=s0 at *
  have h6:=b5.join g5.2
  simp only[List.append_assoc]at h6
  refine⟨?_,h6⟩
  have c1:cO (s0.1.2.1:Int) 1 l.txs=true:=by simp only[cO,decide_eq_true_eq];omega
  have c2:cO (s0.1.2.2.1:Int) 0 ((s0.1.2.1:Int) - 1)=true:=by simp only[cO,decide_eq_true_eq];omega
  simp only[dS,hl,b1,c1,c2,Bool.true_and,Bool.and_eq_true,decide_eq_true_eq,hashes,List.all_eq_true,Int.toNat_natCast]
  exact⟨⟨by omega,gl⟩,fun x hx=>jG (g5.1 x hx)⟩
 ·simp only[f8,if_neg h0]at h
  exact absurd h h0
end Go.Eng.F
namespace Go.Eng.F
theorem HE {a b:bp}:jA a b=true↔a=b:=by
 obtain⟨_,_,_,_,_⟩:=a
 obtain⟨_,_,_,_,_⟩:=b
 simp[jA,and_assoc]
theorem wE {a b:Qc}:mg a b=true↔a=b:=by
 obtain⟨_,_,_,_,_⟩:=a
 obtain⟨_,_,_,_,_⟩:=b
 simp[mg,and_assoc]
theorem mE {a b:Head}:eu a b=true↔a=b:=by
 obtain⟨_,_,_,_,_,_⟩:=a
 obtain⟨_,_,_,_,_,_⟩:=b
 simp[eu,and_assoc,wE]
theorem Fp {a b:Block}:gA a b=true↔a=b:=by
 obtain⟨_,_⟩:=a
 obtain⟨_,_⟩:=b
 simp[gA,mE]
theorem Iv {a b:aY}:js a b=true↔a=b:=by
 obtain⟨_,_,_,_,_⟩:=a
 obtain⟨_,_,_,_,_⟩:=b
 simp[js,and_assoc]
theorem JD {a b:Entry}:da a b=true↔a=b:=by
 obtain⟨_,_,_⟩:=a
 obtain⟨_,_,_⟩:=b
 simp[da,and_assoc]
theorem zZ {α:Type} {f:α→α→Bool} (hf:∀x y,f x y=true↔x=y) {a b:List α}:dt f a b=true↔a=b:=by
 simp only[dt,Bool.and_eq_true,decide_eq_true_eq,List.all_eq_true,List.mem_range]
 constructor
 ·rintro⟨h1,h2⟩
  refine List.ext_getElem h1 fun i hi hj=> ?_
  have:=h2 i hj
  rw[List.getElem?_eq_getElem hi,List.getElem?_eq_getElem hj]at this
  exact(hf _ _).1 this
 ·rintro rfl
  refine⟨rfl,fun i hi=> ?_⟩
  rw[List.getElem?_eq_getElem hi]
  exact(hf _ _).2 rfl
theorem FB {a b:Proof}:eJ a b=true↔a=b:=by
 obtain⟨_,_⟩:=a
 obtain⟨_,_⟩:=b
 simp[eJ,eI,wE,zZ (fun x y=> @mE x y)]
theorem Lu {a b:Tc}:fu a b=true↔a=b:=by
 obtain⟨_,_⟩:=a
 obtain⟨_,_⟩:=b
 simp[fu,zZ (fun x y=> @JD x y)]
theorem dW {a b:aJ}:mq a b=true↔a=b:=by
 obtain⟨_,_,_,_,_,_,_,_⟩:=a
 obtain⟨_,_,_,_,_,_,_,_⟩:=b
 simp[mq,and_assoc,HE,wE,mE,Fp,Lu,FB,Iv]
theorem LL {l:ah} {m:aJ} (h:aV l m=true):m=bM m:=by
 simp only[aV,Bool.and_eq_true]at h
 exact dW.1 h.2
theorem jd {b:Bytes} {m:aJ} {r:Rd} (h:(fh b m r).2=0):r.er=0∧r.at_=b.length∧fh b m r=(m,0):=by
 unfold fh at h⊢
 split at h
 ·rename_i h1;exact absurd h h1
 ·rename_i h1
  rw[if_neg h1]
  split at h
  ·simp at h
  ·rename_i h2
   rw[if_neg h2]
   exact⟨Decidable.not_not.1 h1,Decidable.not_not.1 h2,rfl⟩
theorem mP.rest {c:UInt8} {t s:Bytes} {r':Rd} (h:mP (c::t) ⟨1,0⟩ s r') (ha:r'.at_=(c::t).length):t=s:=by
 obtain⟨_,⟨u,hu⟩,h2⟩:=h
 rw[h2]at ha
 simp only[List.length_cons]at ha
 simp only[List.drop_succ_cons,List.drop_zero]at hu
 have hl:=congrArg List.length hu
 rw[List.length_append]at hl
 have:u= []:=List.eq_nil_of_length_eq_zero (by omega)
 rw[this,List.append_nil]at hu
 exact hu
theorem iW {k:Nat} (hk:k < 256) {m:aJ} (h:m.kind=(k:Int)):(dv m).toNat=k:=by
 rw[dv,h]
 exact Sw hk
theorem Oz {l:ah} {m:aJ} (h:m.kind=1):aA l m=sR l m.vote∧aX m=NG m.vote∧bM m= {av with kind:=1,vote:=m.vote}∧(dv m).toNat=1:=by
 refine⟨by simp[aA,h],by simp[aX,h],by simp[bM,h],iW (k:=1) (by omega) h⟩
theorem N2 {l:ah} {m:aJ} (h:m.kind=2):aA l m=eS l m.qc∧aX m=Kz m.qc∧bM m= {av with kind:=2,qc:=m.qc}∧(dv m).toNat=2:=by
 refine⟨by simp[aA,h],by simp[aX,h],by simp[bM,h],iW (k:=2) (by omega) h⟩
theorem Ov {l:ah} {m:aJ} (h:m.kind=3):aA l m=bx l m.head∧aX m=dM m.head∧bM m= {av with kind:=3,head:=m.head}∧(dv m).toNat=3:=by
 refine⟨by simp[aA,h],by simp[aX,h],by simp[bM,h],iW (k:=3) (by omega) h⟩
theorem OH {l:ah} {m:aJ} (h:m.kind=4):aA l m=bj l m.block∧aX m=jm m.block∧bM m= {av with kind:=4,block:=m.block}∧(dv m).toNat=4:=by
 refine⟨by simp[aA,h],by simp[aX,h],by simp[bM,h],iW (k:=4) (by omega) h⟩
theorem Pm {l:ah} {m:aJ} (h:m.kind=5):aA l m=fP l m.tc∧aX m=OW m.tc∧bM m= {av with kind:=5,tc:=m.tc}∧(dv m).toNat=5:=by
 refine⟨by simp[aA,h],by simp[aX,h],by simp[bM,h],iW (k:=5) (by omega) h⟩
theorem OD {l:ah} {m:aJ} (h:m.kind=6):aA l m=cj l m.proof∧aX m=iU m.proof∧bM m= {av with kind:=6,proof:=m.proof}∧(dv m).toNat=6:=by
 refine⟨by simp[aA,h],by simp[aX,h],by simp[bM,h],iW (k:=6) (by omega) h⟩
theorem ON {l:ah} {m:aJ} (h:m.kind=7):aA l m=dS l m.incl∧aX m=pH m.incl∧bM m= {av with kind:=7,incl:=m.incl}∧(dv m).toNat=7:=by
 refine⟨by simp[aA,h],by simp[aX,h],by simp[bM,h],iW (k:=7) (by omega) h⟩
theorem Us {l:ah} {x:bp} (h:sR l x=true):aV l {av with kind:=1,vote:=x}=true∧dv {av with kind:=1,vote:=x}=UInt8.ofNat 1∧aX {av with kind:=1,vote:=x}=NG x:=by
 obtain⟨p1,p2,p3,p4⟩:=Oz (l:=l) (m:= {av with kind:=1,vote:=x}) rfl
 exact⟨by simp only[aV,p1,h,Bool.true_and,p3];exact dW.2 rfl,rfl,p2⟩
theorem UI {l:ah} {x:Qc} (h:eS l x=true):aV l {av with kind:=2,qc:=x}=true∧dv {av with kind:=2,qc:=x}=UInt8.ofNat 2∧aX {av with kind:=2,qc:=x}=Kz x:=by
 obtain⟨p1,p2,p3,p4⟩:=N2 (l:=l) (m:= {av with kind:=2,qc:=x}) rfl
 exact⟨by simp only[aV,p1,h,Bool.true_and,p3];exact dW.2 rfl,rfl,p2⟩
theorem UE {l:ah} {x:Head} (h:bx l x=true):aV l {av with kind:=3,head:=x}=true∧dv {av with kind:=3,head:=x}=UInt8.ofNat 3∧aX {av with kind:=3,head:=x}=dM x:=by
 obtain⟨p1,p2,p3,p4⟩:=Ov (l:=l) (m:= {av with kind:=3,head:=x}) rfl
 exact⟨by simp only[aV,p1,h,Bool.true_and,p3];exact dW.2 rfl,rfl,p2⟩
theorem UB {l:ah} {x:Block} (h:bj l x=true):aV l {av with kind:=4,block:=x}=true∧dv {av with kind:=4,block:=x}=UInt8.ofNat 4∧aX {av with kind:=4,block:=x}=jm x:=by
 obtain⟨p1,p2,p3,p4⟩:=OH (l:=l) (m:= {av with kind:=4,block:=x}) rfl
 exact⟨by simp only[aV,p1,h,Bool.true_and,p3];exact dW.2 rfl,rfl,p2⟩
theorem Uu {l:ah} {x:Tc} (h:fP l x=true):aV l {av with kind:=5,tc:=x}=true∧dv {av with kind:=5,tc:=x}=UInt8.ofNat 5∧aX {av with kind:=5,tc:=x}=OW x:=by
 obtain⟨p1,p2,p3,p4⟩:=Pm (l:=l) (m:= {av with kind:=5,tc:=x}) rfl
 exact⟨by simp only[aV,p1,h,Bool.true_and,p3];exact dW.2 rfl,rfl,p2⟩
theorem UM {l:ah} {x:Proof} (h:cj l x=true):aV l {av with kind:=6,proof:=x}=true∧dv {av with kind:=6,proof:=x}=UInt8.ofNat 6∧aX {av with kind:=6,proof:=x}=iU x:=by
 obtain⟨p1,p2,p3,p4⟩:=OD (l:=l) (m:= {av with kind:=6,proof:=x}) rfl
 exact⟨by simp only[aV,p1,h,Bool.true_and,p3];exact dW.2 rfl,rfl,p2⟩
theorem UA {l:ah} {x:aY} (h:dS l x=true):aV l {av with kind:=7,incl:=x}=true∧dv {av with kind:=7,incl:=x}=UInt8.ofNat 7∧aX {av with kind:=7,incl:=x}=pH x:=by
 obtain⟨p1,p2,p3,p4⟩:=ON (l:=l) (m:= {av with kind:=7,incl:=x}) rfl
 exact⟨by simp only[aV,p1,h,Bool.true_and,p3];exact dW.2 rfl,rfl,p2⟩
theorem OM {l:ah} {c:UInt8} {t:Bytes} (hl:l.ok=true) (h:(lP l (c::t) c.toNat).2=0):∃m,lP l (c::t) c.toNat=(m,0)∧aV l m=true∧dv m::aX m=c::t:=by
 have hc:c.toNat < 256:=c.toNat_lt
 have ec:UInt8.ofNat c.toNat=c:=by simp
 have hk:c.toNat=1∨c.toNat=2∨c.toNat=3∨c.toNat=4∨c.toNat=5∨c.toNat=6∨c.toNat=7:=by
  apply Decidable.byContradiction
  intro hn
  rw[MD (by omega)]at h
  simp at h
 generalize hk0:c.toNat=k at h hk ec⊢
 rcases hk with rfl|rfl|rfl|rfl|rfl|rfl|rfl
 ·simp only[lP]at h⊢
  obtain⟨g1,g2,g3⟩:=jd h
  obtain⟨g4,g5⟩:=Nj hl g1
  obtain⟨p1,p2,p3⟩:=Us g4
  exact⟨_,g3,p1,by rw[p2,p3,←g5.rest g2,ec]⟩
 ·simp only[lP]at h⊢
  obtain⟨g1,g2,g3⟩:=jd h
  obtain⟨g4,g5⟩:=H3 hl g1
  obtain⟨p1,p2,p3⟩:=UI g4
  exact⟨_,g3,p1,by rw[p2,p3,←g5.rest g2,ec]⟩
 ·simp only[lP]at h⊢
  obtain⟨g1,g2,g3⟩:=jd h
  obtain⟨g4,g5⟩:=zn hl g1
  obtain⟨p1,p2,p3⟩:=UE g4
  exact⟨_,g3,p1,by rw[p2,p3,←g5.rest g2,ec]⟩
 ·simp only[lP]at h⊢
  obtain⟨g1,g2,g3⟩:=jd h
  obtain⟨g4,g5⟩:=Lh hl g1
  obtain⟨p1,p2,p3⟩:=UB g4
  exact⟨_,g3,p1,by rw[p2,p3,←g5.rest g2,ec]⟩
 ·simp only[lP]at h⊢
  obtain⟨g1,g2,g3⟩:=jd h
  obtain⟨g4,g5⟩:=PW hl g1
  obtain⟨p1,p2,p3⟩:=Uu g4
  exact⟨_,g3,p1,by rw[p2,p3,←g5.rest g2,ec]⟩
 ·simp only[lP]at h⊢
  obtain⟨g1,g2,g3⟩:=jd h
  obtain⟨g4,g5⟩:=Lz hl g1
  obtain⟨p1,p2,p3⟩:=UM g4
  exact⟨_,g3,p1,by rw[p2,p3,←g5.rest g2,ec]⟩
 ·simp only[lP]at h⊢
  obtain⟨g1,g2,g3⟩:=jd h
  obtain⟨g4,g5⟩:=MW hl g1
  obtain⟨p1,p2,p3⟩:=UA g4
  exact⟨_,g3,p1,by rw[p2,p3,←g5.rest g2,ec]⟩
theorem L7 {l:ah} {b:Bytes} (h:(dec l b).2=0):∃m,dec l b=(m,0)∧aV l m=true∧dv m::aX m=b:=by
 by_cases hl:l.ok=true
 ·cases b with
  |nil=>rw[Gl hl (by simp)]at h;simp at h
  |cons c t=>
   have e:=RA (b:=c::t) hl (by simp)
   rw[e]at h⊢
   exact OM hl h
 ·rw[MT hl]at h
  simp at h
end Go.Eng.F
namespace Go.Eng.F
theorem Tr {l:ah} {v:bp} (hl:l.rd) (h:isNum v.view=true∧isNum v.height=true∧v.block.length=32∧cO v.who 0 (l.n - 1)=true∧v.tag.length=32):v.wf:=by
 obtain⟨g2,g3,g4,g5,g6⟩:=h
 exact⟨cX g2,cX g3,by unfold Sz;omega,by have:=c8 g5;have:=hl.1;exact⟨by omega,by omega⟩,by unfold Sz;omega⟩
theorem Qx (i:Nat):Int.tdiv (i:Int) 256=((i / 256:Nat):Int):=by rw[Int.tdiv_eq_ediv_of_nonneg (by omega)];omega
theorem P1 (i:Nat):Int.tmod (i:Int) 256=((i % 256:Nat):Int):=by rw[Int.tmod_eq_emod_of_nonneg (by omega)];omega
theorem SX (n:Nat):b8 ((n % 256:Nat):Int)=b8 (n:Int):=by
 apply UInt8.toNat_inj.1
 have h1:=Cg ((n % 256:Nat):Int)
 have h2:=Cg (n:Int)
 have e:IntKind.u8.wrap ((n % 256:Nat):Int)=IntKind.u8.wrap (n:Int):=by simp[IntKind.wrap,IntKind.bits,IntKind.signed]
 rw[e,←h2]at h1
 omega
abbrev wh:Nat:=222
def wg:AF:=⟨3,6,[.tmp 6, .tmp 7],(.seq (.ops [.i (.mov 6 (.c (.val false [.nils]))), .i (.mov 7 (qb false))]) (.seq (.seq (.ops [qm 10 2, .i (.call 12 221 false [(.s 10),(qi 1),(qi 7)]), .i (.not 12 (.s 11)),qm 13 12, .g 13 false 15 (.mov 14 (.s 1)), .g 13 false 16 (.bin 15 .lss (.s 14) (qi 0)), .i (.pick 16 (.s 13) (qb true) (.s 15)),qm 17 16, .g 17 false 19 (.mov 18 (.s 1)), .g 17 false 20 (.mov 19 (.s 2)), .g 17 false 21 (.call 21 292 false [(.s 19)]), .g 17 false 22 (.bin 21 .geq (.s 18) (.s 20)), .i (.pick 22 (.s 17) (qb true) (.s 21))]) (.cond (.s 22) (.seq (.ops [.i (.mov 6 (.c (.val false [.nils]))), .i (.mov 7 (qb false))]) .ret) .skip)) (.seq (.ops [qm 23 0,qk 25 143 23,qm 8 24]) (.seq (.seq (.ops [.i (.mov 9 (qi 0))]) (.block 0 (.loop [37,36,35,34,33,32,31,30,29,28,27,26,25] (.seq (.seq (.ops [qm 25 9,qm 26 2,qd 27 .lss 25 26]) (.cond (.s 27) .skip (.exit 0))) (.seq (.block 1 (.seq (.ops [qm 30 8,qm 31 1, .i (.bin 32 .rem (.s 31) (qi 256)), .i (.cvi 33 .u8 (.s 32)), .i (.lsl 34 1 1 [.int .u8 0] [(0,1,(.s 33))]), .i (.app 35 5 1 1 (.s 30) (.s 34)),qm 8 35]) (.ops [qm 36 1, .i (.bin 37 .quo (.s 36) (qi 256)),qm 1 37]))) (.ops [qm 28 9, .i (.bin 29 .add (.s 28) (qi 1)),qm 9 29])))))) (.seq (.ops [qm 38 8,qm 6 38, .i (.mov 7 (qb true))]) .ret)))))⟩
theorem FL:cd wh=some wg:=by kernel_rfl
abbrev ve:Nat:=292
def ku:AF:=⟨1,3,[.tmp 2],(.seq (.ops [.i (.mov 2 (qi 0))]) (.seq (.ops [qm 3 0, .i (.bin 4 .mul (qi 8) (.s 3)), .i (.bin 5 .shl (qi 1) (.s 4)),qm 2 5]) .ret))⟩
theorem vY:cd ve=some ku:=by kernel_rfl
theorem rE (b:Bytes) (n w:Nat) (hb:b.length≤1073741824) (hw:w=2∨w=4) (hn:n < 256 ^ w):VC cd wh (aD [(false,[.sl (bytes b)]),(false,[.int .i64 (n:Int)]),(false,[.int .i64 (w:Int)])]) (fun rs _=>rs= [(false,[.o true (some (5,1)) (bytes (b++wN n w))]),(false,[.p (.bool true)])]):=by
 have w1:cO (w:Int) 1 7=true:=by simp only[cO,decide_eq_true_eq];omega
 have n0:¬(n:Int) < 0:=by omega
 have hw4:w≤4:=by omega
 have hW:256 ^ w≤4294967296:=by rcases hw with rfl|rfl <;>simp
 have ht:VC cd ve (aD [(false,[.int .i64 (w:Int)])]) (fun rs _=>rs=it ((256 ^ w:Nat):Int)):=by
  rcases hw with rfl|rfl
  ·have e0:IntKind.i64.wrap (2 ^ min 16 IntKind.i64.bits)=65536:=by decide
   refine aa vY rfl ?_
   simp(disch:=omega) [ku,e0,VY]
  ·have e0:IntKind.i64.wrap (2 ^ min 32 IntKind.i64.bits)=4294967296:=by decide
   refine aa vY rfl ?_
   simp(disch:=omega) [ku,e0,VY]
 have n1:¬((256 ^ w:Nat):Int)≤(n:Int):=by omega
 have n2:¬256 ^ w≤n:=by omega
 clear hw
 generalize 256 ^ w=W at hn ht n1 n2 hW
 refine aa FL rfl ?_
 simp(disch:=omega) [wg,VY]
 refine ao (b7 (w:Int) 1 7) ?_
 simp(disch:=omega) [w1,n0,n1,n2,VY]
 refine ao (ht) ?_
 simp(disch:=omega) [w1,n0,n1,n2,VY]
 refine ao (bV b (by omega)) ?_
 simp(disch:=omega) [VY]
 refine bF (σ:=Nat×Nat×Nat×Bytes) (f1:=_) (es0:=_) (by simp(disch:=omega) [VY];rfl) (by simp(disch:=omega) [VY];rfl) (fun p=> [(9, .val false [.int .i64 (p.1:Int)]),(1, .val false [.int .i64 (p.2.1:Int)]),(8, .val false [.ow 212992 p.2.2.1])]) (fun p=> [(212992, .sl p.2.2.1 true true (some (5,1)) (bytes p.2.2.2))])
  (fun p g=>g+p.1=w∧p.2.1=n / 256 ^ p.1∧p.2.2.2=b++wN n p.1) (0,n,_,b) w (by simp(disch:=omega) [VY];rfl) (by simp(disch:=omega) [VY]) ⟨by simp,by simp,by simp[wN]⟩ ?_
 rintro⟨i,q,v,x⟩ nx g ⟨hg,h4,h5⟩ P hP
 simp only at hg h4 h5
 have hq:q≤n:=by rw[h4];exact Nat.div_le_self _ _
 have hx:x.length≤1073741824+4:=by rw[h5,List.length_append,xk];omega
 simp(disch:=omega) [VY]
 refine ab (fun h6=> ?_) (fun h6=> ?_)
 ·have ef:x++ [b8 (q:Int)]=b++wN n (i+1):=by rw[h5,MX,List.append_assoc,h4]
  have hd:q / 256=n / 256 ^ (i+1):=by rw[h4,Nat.div_div_eq_div_mul,Nat.pow_succ]
  have eq:bytes x++ [[.int .u8 (IntKind.u8.wrap ((q % 256:Nat):Int))]]=bytes (b++wN n (i+1)):=by rw[BU,SX,ef]
  have eq1:IntKind.u8.wrap ((q:Int).tmod 256)=IntKind.u8.wrap ((q % 256:Nat):Int):=by rw[P1]
  have eq2:IntKind.i64.wrap ((q:Int).tdiv 256)=((q / 256:Nat):Int):=by rw[Qx];exact xU (by omega) (by omega)
  have eq3:IntKind.i64.wrap ((q:Int) / 256)=((q / 256:Nat):Int):=by rw[←Int.tdiv_eq_ediv_of_nonneg (by omega)];exact eq2
  have eq4:bytes x++ [[.int .u8 (IntKind.u8.wrap ((q:Int) % 256))]]=bytes (b++wN n (i+1)):=by rw[←Int.tmod_eq_emod_of_nonneg (by omega),eq1];exact eq
  rw[←eq1]at eq
  generalize hr:q / 256=r at hd eq2 eq3
  simp(disch:=omega) [eq,eq2,eq3,eq4,VY]
  exact hP (i+1,r,_,b++wN n (i+1)) (g - 1) _ _ (by omega) ⟨by simp only;omega,hd,rfl⟩ (by simp(disch:=omega) [VY] <;>rfl) (by simp(disch:=omega) [VY])
 ·obtain rfl:i=w:=by omega
  subst h5
  simp(disch:=omega) [VY]
end Go.Eng.F
namespace Go.Eng.F
abbrev yo:Nat:=152
def xy:AF:=⟨2,6,[.tmp 4, .tmp 5],(.seq (.ops [.i (.lbox 2 (.s 0)), .i (.mov 4 (.c (.val false [.nils]))), .i (.mov 5 (qb false))]) (.seq (.seq (.ops [ql 8 2 2 5 true,qk 10 210 8, .i (.not 10 (.s 9)),qm 11 10, .g 11 false 13 (.mov 12 (.s 1)), .g 11 false 14 (.len 13 false (.s 12)), .g 11 false 15 (.fad 14 (.s 2) 3), .g 11 false 16 (.ldl 15 2 (.s 14) 1 false), .g 11 false 17 (.call 17 221 false [(.s 13),(qi 1),(.s 15)]), .g 11 false 18 (.not 17 (.s 16)), .i (.pick 18 (.s 11) (qb true) (.s 17))]) (.cond (.s 18) (.seq (.ops [.i (.mov 4 (.c (.val false [.nils]))), .i (.mov 5 (qb false))]) .ret) .skip)) (.seq (.ops [.i (.bsl 20 5 1 2 [.int .u8 0] [(0,1,(.c (.val false [.int .u8 181]))),(1,1,(.c (.val false [.int .u8 70])))]),qm 21 1,qn 22 21, .i (.call 24 222 false [(.s 20),(.s 22),(qi 2)]),qm 19 23, .i (.ext 24 (.s 19) 0), .i (.ext 25 (.s 19) 1),qm 6 24,qm 7 25]) (.seq (.ops [qm 27 6,qm 28 1,qk 30 223 28, .i (.call 31 222 false [(.s 27),(.s 29),(qi 4)]),qm 26 30, .i (.ext 31 (.s 26) 0), .i (.ext 32 (.s 26) 1),qm 6 31]) (.seq (.ops [qm 33 6,qm 34 1, .i (.app 35 5 1 1 (.s 33) (.s 34)),qm 4 35, .i (.mov 5 (qb true))]) .ret)))))⟩
theorem IW:cd yo=some xy:=by kernel_rfl
theorem gS (l:ah) (b:Bytes) (hb:b.length≤1073741824):VC cd yo (aD [(true,l.c),(false,[.sl (bytes b)])]) (fun rs _=>rs=yI l b):=by
 refine VC.pq ?_
 refine aa IW rfl ?_
 simp(disch:=omega) [xy,ah.c,VZ]
 refine ao (cC l) ?_ (ha:=by first|rfl|(simp[ah.c,VY] <;>repeat' constructor))
 simp(disch:=omega) [VZ]
 by_cases h1:l.ok=true
 case neg=>simp(disch:=omega) [h1,yI,iG,ag,aW,bc,bn,VZ]
 simp(disch:=omega) [h1,VZ]
 refine ao (b7 (b.length:Int) 1 l.frame) ?_
 by_cases h2:cO (b.length:Int) 1 l.frame=true
 case neg=>simp(disch:=omega) [h1,h2,yI,iG,ag,aW,bc,bn,VZ]
 have hl:=fV h1
 have hf:=h1
 simp only[ah.ok,cO,Bool.and_eq_true,decide_eq_true_eq]at hf
 have h3:=c8 h2
 simp(disch:=omega) [h2,VZ]
 refine ao (rE [181,70] b.length 2 (by simp) (.inl rfl) (by simp;omega)) ?_
 simp(disch:=omega) [VZ]
 refine ao (Ki b hb) ?_
 simp(disch:=omega) [VZ]
 refine ao (rE (181::70::wN b.length 2) (NU b) 4 (by simp[xk]) (.inr rfl) (S9 b)) ?_
 have hr:yI l b= [(false,[.o true (some (5,1)) (bytes (zM b))]),(false,[.p (.bool true)])]:=by
  have:iG l b=true:=by rw[iG,h1,h2];rfl
  rw[yI,this];rfl
 rw[hr]
 simp(disch:=omega) [zM,bG,xk,aW,bc,bn,VZ]
end Go.Eng.F
namespace Go.Eng.F
def P7:Nat→Bytes→List (Bool×List E)
 |0,x=> [(false,[.p (.sl (bytes x))])]
 |_+1,x=> [(false,[.o true (some (5,1)) (bytes x)])]
theorem L8 (f:Nat) (x:Bytes):cw (P7 f x)=1:=by cases f <;>rfl
theorem Nv (x:Bytes) (j:Nat) (y z:Int):(bytes x).set j [.int .u8 (aE .xor .u8 y z)]=bytes (x.set j (b8 ((BitVec.ofInt IntKind.u8.bits y ^^^ BitVec.ofInt IntKind.u8.bits z).toNat:Int))):=jz x j _
abbrev ti:Nat:=136
def so:AF:=⟨2,6,[.tmp 4],(.seq (.ops [.i (.mov 4 (.c (.val false [.nils])))]) (.seq (.ops [qm 7 1,qk 9 143 7,qm 5 8]) (.seq (.seq (.ops [qm 9 5,qn 10 9, .i (.bin 11 .eql (.s 10) (qi 0))]) (.cond (.s 11) (.seq (.ops [qm 12 0, .i (.call 14 138 false [(.s 12),(qi 3)]),qm 4 13]) .ret) .skip)) (.seq (.seq (.ops [qm 14 0, .i (.call 16 97 false [(.s 14),(qi 6)])]) (.block 0 (.seq (.ops [.i (.bin 17 .eql (.s 15) (qi 0)),qm 16 17]) (.cond (.s 16) (.seq (.ops [qm 18 5,qm 19 0,qm 20 5,qn 21 20, .i (.call 23 97 false [(.s 19),(.s 21)]), .i (.fA 23 1 (.s 18) none (some (.s 22))),qm 4 23]) .ret) (.seq (.ops [.i (.bin 25 .eql (.s 15) (qi 1)),qm 24 25]) (.cond (.s 24) (.ops [qm 26 5,qm 27 0,qm 28 5,qn 29 28, .i (.call 31 97 false [(.s 27),(.s 29)]),qm 31 0,qk 33 162 31, .i (.cvi 33 .u8 (.s 32)), .i (.iad 34 (.s 26) (.s 30) 1), .i (.sth (.s 34) (.s 33) 1)]) (.seq (.ops [.i (.bin 36 .eql (.s 15) (qi 2)),qm 35 36]) (.cond (.s 35) (.seq (.ops [qm 37 0,qm 38 5,qn 39 38, .i (.call 41 97 false [(.s 37),(.s 39)]),qm 6 40]) (.ops [qm 41 5,qm 42 6,qm 43 5,qm 44 6, .i (.iad 45 (.s 43) (.s 44) 1), .i (.lde 46 (.s 45) 1 false 5),qm 47 0, .i (.cle 49 97 5 [(.s 47),(qi 8)]), .i (.bin 49 .shl (.c (.val false [.int .u8 1])) (.s 48)),qd 50 .xor 46 49, .i (.iad 51 (.s 41) (.s 42) 1), .i (.sth (.s 51) (.s 50) 1)])) (.seq (.ops [.i (.bin 53 .eql (.s 15) (qi 3)),qm 52 53]) (.cond (.s 52) (.seq (.ops [qm 54 5,qm 55 0,qk 57 162 55, .i (.cvi 57 .u8 (.s 56)), .i (.lsl 58 1 1 [.int .u8 0] [(0,1,(.s 57))]), .i (.app 59 5 1 1 (.s 54) (.s 58)),qm 4 59]) .ret) .skip)))))))))) (.seq (.ops [qm 60 5,qm 4 60]) .ret)))))⟩
theorem Dp:cd ti=some so:=by kernel_rfl
theorem LM (b:Bytes) (i:Nat) (h:Int) (s:Bytes) (hs:s.length≤1073741824) (hi:i≤b.length) (hb:b.length≤1073741824):VC cd ti (iO [] 133 (cur b i h) [(false,[.sl (bytes s)])]) (fun r p=>∃x:(Nat×Bytes)×Nat×Int,(x.1.2.length≤s.length+3∧x.2.1≤b.length)∧r=P7 x.1.1 x.1.2∧p= [.pt 133 (cur b x.2.1 x.2.2)]):=by
 refine ax Dp rfl ?_
 simp(disch:=omega) [so,cur,VZ]
 refine ao (bV s (by omega)) ?_
 simp(disch:=omega) [aj,VZ]
 by_cases h0:s= []
 case pos=>
  subst h0
  simp(disch:=omega) [VZ]
  refine de (dX b i h 3 (by omega) hi hb) ?_
  rintro⟨x1,i1,h1⟩ ⟨g1,j1⟩
  simp only at g1 j1
  simp(disch:=omega) [cur,VZ]
  exact⟨1,x1,i1,⟨by simpa using g1,j1⟩,rfl,rfl⟩
 have hp:=List.length_pos_iff.2 h0
 simp(disch:=omega) [h0,VZ]
 refine de (aw b i h 6 (by omega) hi hb) ?_
 rintro⟨k1,i1,h1⟩ ⟨g1,j1⟩
 simp only at g1 j1
 have hk:k1=0∨k1=1∨k1=2∨k1=3∨k1=4∨k1=5:=by omega
 rcases hk with rfl|rfl|rfl|rfl|rfl|rfl
 ·simp(disch:=omega) [cur,aj,VZ]
  refine de (aw b i1 h1 s.length (by omega) j1 hb) ?_
  rintro⟨k2,i2,h2⟩ ⟨g2,j2⟩
  simp only at g2 j2
  have hk2:k2 < s.length:=by omega
  have et:List.take k2 (bytes s)=bytes (s.take k2):=by simp[bytes]
  simp(disch:=omega) [cur,aj,show k2≤s.length by omega,et,VZ]
  exact⟨0,s.take k2,i2,⟨by rw[List.length_take];omega,j2⟩,rfl,rfl⟩
 ·simp(disch:=omega) [cur,aj,VZ]
  refine de (aw b i1 h1 s.length (by omega) j1 hb) ?_
  rintro⟨k2,i2,h2⟩ ⟨g2,j2⟩
  simp only at g2 j2
  have hk2:k2 < s.length:=by omega
  simp(disch:=omega) [cur,aj,VZ]
  refine de (dY b i2 h2 j2 hb) ?_
  rintro⟨k3,i3,h3⟩ ⟨g3,j3⟩
  simp only at g3 j3
  simp(disch:=omega) [cur,aj,bH hk2,jz,VZ]
  exact⟨1,_,i3,⟨by simp,j3⟩,rfl,rfl⟩
 ·simp(disch:=omega) [cur,aj,VZ]
  refine de (aw b i1 h1 s.length (by omega) j1 hb) ?_
  rintro⟨k2,i2,h2⟩ ⟨g2,j2⟩
  simp only at g2 j2
  have hk2:k2 < s.length:=by omega
  simp(disch:=omega) [cur,aj,bH hk2,VZ]
  simp(disch:=omega) [bH hk2,Tf,PO,SO,VZ]
  refine U9 (aw b i2 h2 8 (by omega) j2 hb) ?_
  rintro⟨k4,i4,h4⟩ ⟨g4,j4⟩
  simp only at g4 j4
  have n4:¬(k4:Int) < 0:=by omega
  simp(disch:=omega) [cur,aj,bH hk2,n4,Nv,VZ]
  exact⟨1,_,i4,⟨by simp,j4⟩,rfl,rfl⟩
 ·simp(disch:=omega) [cur,aj,VZ]
  refine de (dY b i1 h1 j1 hb) ?_
  rintro⟨k3,i3,h3⟩ ⟨g3,j3⟩
  simp only at g3 j3
  simp(disch:=omega) [cur,aj,BU,VZ]
  exact⟨1,_,i3,⟨by simp,j3⟩,rfl,rfl⟩
 ·simp(disch:=omega) [cur,VZ]
  exact⟨1,s,i1,⟨by simp,j1⟩,rfl,rfl⟩
 ·simp(disch:=omega) [cur,VZ]
  exact⟨1,s,i1,⟨by simp,j1⟩,rfl,rfl⟩
end Go.Eng.F
namespace Go.Eng.F
theorem K7 (s:Bytes) (a n:Nat):eC s a n=eC (s.drop a) 0 n:=by
 simp only[eC,List.drop_drop,Nat.zero_add]
theorem G7 (l:ah) (s:Bytes) (a:Nat):aB l s a=aB l (s.drop a) 0:=by
 have e1:∀i,(s.drop a).getD i 0=s.getD (a+i) 0:=fun i=>by simp only[List.getD_eq_getElem?_getD,List.getElem?_drop]
 have e2:FF (s.drop a) 0=FF s a:=by simp only[FF,List.drop_drop,Nat.zero_add]
 have e3:QA (s.drop a) 0=QA s a:=by simp only[QA,List.drop_drop,Nat.zero_add]
 have e4:OX (s.drop a) 0=OX s a:=by simp only[OX,List.drop_drop,Nat.zero_add,e2]
 have c1:(0 < (s.drop a).length)=(a < s.length):=propext (by rw[List.length_drop];omega)
 have c2:(1 < (s.drop a).length)=(a+1 < s.length):=propext (by rw[List.length_drop];omega)
 have c3:(s.drop a).length - 0=s.length - a:=by rw[List.length_drop];omega
 simp only[aB,c1,c2,c3,e1,e2,e3,e4,Nat.add_zero,Nat.zero_add]
def fM (l:ah) (cl:Bool):Nat→Bytes→Nat→List Ev×Nat×Bytes
 |0,u,k=>([],k,u)
 |g+1,u,k=>
  if u= []then([],k,[])
  else if(aB l u 0).1=1∧cl=false then([],k,u)
  else if(aB l u 0).1≠3 then fM l cl g (u.drop 1) (k+1)
  else((c5 k++ [fx l (eC u 0 (aB l u 0).2.toNat)])++(fM l cl g (u.drop (aB l u 0).2.toNat) 0).1,(fM l cl g (u.drop (aB l u 0).2.toNat) 0).2)
theorem eF (l:ah) (cl:Bool) (g k:Nat):fM l cl g [] k=([],k,[]):=by
 cases g
 ·rfl
 ·rw[fM,if_pos rfl]
theorem H5 {l:ah} {s:Bytes} {cl:Bool}:∀(g a k:Nat) (e:List Ev),a≤s.length→f4 l s cl g a k e=(e++(fM l cl g (s.drop a) k).1,(fM l cl g (s.drop a) k).2.1,s.length - (fM l cl g (s.drop a) k).2.2.length)
 |0,a,k,e,h=>by simp[f4,fM];omega
 |g+1,a,k,e,h=>by
  by_cases h0:a < s.length
  ·have hu:s.drop a≠ []:=fun x=>by have:=congrArg List.length x;simp at this;omega
   rw[f4,if_pos h0,fM,if_neg hu,←G7,←K7]
   by_cases h1:(aB l s a).1=1∧cl=false
   ·rw[if_pos h1,if_pos h1]
    simp;omega
   ·rw[if_neg h1,if_neg h1]
    by_cases h2:(aB l s a).1≠3
    ·rw[if_pos h2,if_pos h2,H5 g (a+1) (k+1) e (by omega),List.drop_drop]
    ·rw[if_neg h2,if_neg h2]
     obtain⟨n,hn,h9,hl,_⟩:=mI (Decidable.not_not.1 h2)
     have e1:(aB l s a).2.toNat=n:=by rw[hn];rfl
     rw[e1,H5 g (a+n) 0 _ (by omega),List.drop_drop]
     simp only[List.append_assoc]
  ·have hu:s.drop a= []:=List.drop_eq_nil_of_le (by omega)
   rw[f4,if_neg h0,hu,eF]
   simp
   omega
theorem wW {l:ah} {u:Bytes} (h:¬(aB l u 0).1≠3):∃n:Nat,aB l u 0=(3,(n:Int))∧(aB l u 0).2.toNat=n∧9≤n∧n≤u.length:=by
 obtain⟨n,hn,h9,hl,_⟩:=mI (Decidable.not_not.1 h)
 exact⟨n,hn,by rw[hn];rfl,h9,by omega⟩
theorem mM (l:ah) (cl:Bool):∀(n g g':Nat) (u:Bytes) (k:Nat),u.length≤n→u.length≤g→u.length≤g'→fM l cl g u k=fM l cl g' u k
 |n,0,g',u,k,_,h,_=>by
  have:u= []:=List.eq_nil_of_length_eq_zero (by omega)
  rw[this,eF,eF]
 |n,g+1,0,u,k,_,_,h=>by
  have:u= []:=List.eq_nil_of_length_eq_zero (by omega)
  rw[this,eF,eF]
 |0,g+1,g'+1,u,k,h,_,_=>by
  have:u= []:=List.eq_nil_of_length_eq_zero (by omega)
  rw[this,eF,eF]
 |n+1,g+1,g'+1,u,k,h,h1,h2=>by
  by_cases hu:u= []
  ·rw[hu,eF,eF]
  have hp:=List.length_pos_iff.2 hu
  rw[fM,fM,if_neg hu,if_neg hu]
  have e1:=mM l cl n g g' (u.drop 1) (k+1) (by rw[List.length_drop];omega) (by rw[List.length_drop];omega) (by rw[List.length_drop];omega)
  rw[e1]
  by_cases h3:(aB l u 0).1≠3
  ·simp only[if_pos h3]
  ·obtain⟨m,_,hm,h9,hl⟩:=wW h3
   have e2:=mM l cl n g g' (u.drop m) 0 (by rw[List.length_drop];omega) (by rw[List.length_drop];omega) (by rw[List.length_drop];omega)
   rw[hm,e2]
def scan (l:ah) (cl:Bool) (u:Bytes) (k:Nat):List Ev×Nat×Bytes:=fM l cl u.length u k
theorem xH (l:ah) (cl:Bool) (k:Nat):scan l cl [] k=([],k,[]):=rfl
theorem MU {l:ah} {u:Bytes} {k:Nat} (hu:u≠ []) (h:(aB l u 0).1=1):scan l false u k=([],k,u):=by
 have hp:=List.length_pos_iff.2 hu
 obtain⟨g,hg⟩:∃g,u.length=g+1:=⟨u.length - 1,by omega⟩
 rw[scan,hg,fM,if_neg hu,if_pos ⟨h,rfl⟩]
theorem zV {l:ah} {cl:Bool} {u:Bytes} {k:Nat} (hu:u≠ []) (h:¬((aB l u 0).1=1∧cl=false)) (h2:(aB l u 0).1≠3):scan l cl u k=scan l cl (u.drop 1) (k+1):=by
 have hp:=List.length_pos_iff.2 hu
 obtain⟨g,hg⟩:∃g,u.length=g+1:=⟨u.length - 1,by omega⟩
 rw[scan,hg,fM,if_neg hu,if_neg h,if_pos h2,scan]
 exact mM l cl g _ _ _ _ (by rw[List.length_drop];omega) (by rw[List.length_drop];omega) (Nat.le_refl _)
theorem zk {l:ah} {cl:Bool} {u:Bytes} {k n:Nat} (h:aB l u 0=(3,(n:Int))) (hn:9≤n) (hl:n≤u.length):scan l cl u k=((c5 k++ [fx l (eC u 0 n)])++(scan l cl (u.drop n) 0).1,(scan l cl (u.drop n) 0).2):=by
 have hu:u≠ []:=by rintro rfl;simp at hl;omega
 obtain⟨g,hg⟩:∃g,u.length=g+1:=⟨u.length - 1,by omega⟩
 have e:fM l cl g (u.drop n) 0=scan l cl (u.drop n) 0:=mM l cl g _ _ _ _ (by rw[List.length_drop];omega) (by rw[List.length_drop];omega) (Nat.le_refl _)
 have e1:(aB l u 0).2.toNat=n:=by rw[h];rfl
 rw[scan,hg,fM,if_neg hu,if_neg (by rw[h];simp),if_neg (by rw[h];simp),e1,e]
theorem wS (l:ah) (s:Bytes) (cl:Bool) (k:Nat):va l s cl k=((scan l cl s k).1++(if cl=true then c5 (scan l cl s k).2.1 else []),(scan l cl s k).2.1,s.length - (scan l cl s k).2.2.length):=by
 simp only[va,H5 s.length 0 k [] (Nat.zero_le _),List.drop_zero,List.nil_append]
 rfl
theorem Lf (b:Bytes):(zM b).length=8+b.length:=by
 simp only[zM,List.length_append,List.length_cons,List.length_nil,xk]
def Nb (l:ah) (e:Ev):Int:=if e.kind=1 then e.n else gd l e.msg+8
theorem G5 {l:ah} {m:aJ} (h:aV l m=true):gd l m=((dv m::aX m).length:Int):=by
 simp only[gd,h,if_true,List.length_cons]
 omega
theorem DQ {l:ah}:∀(n:Nat) (u:Bytes) (k:Nat),u.length≤n→(∀e∈(scan l true u k).1,e.kind≠2)→(((scan l true u k).1.map (Nb l)).sum+((scan l true u k).2.1:Int)=(k:Int)+u.length)
 |0,u,k,h,_=>by
  have:u= []:=List.eq_nil_of_length_eq_zero (by omega)
  subst this
  simp[xH]
 |n+1,u,k,h,hb=>by
  by_cases hu:u= []
  ·subst hu
   simp[xH]
  have hp:=List.length_pos_iff.2 hu
  by_cases h2:(aB l u 0).1≠3
  ·rw[zV hu (by simp) h2]at hb⊢
   have:=DQ n (u.drop 1) (k+1) (by rw[List.length_drop];omega) hb
   rw[List.length_drop]at this
   omega
  ·obtain⟨m,hm,_,h9,hl⟩:=wW h2
   rw[zk hm h9 hl]at hb⊢
   have ih:=DQ n (u.drop m) 0 (by rw[List.length_drop];omega) (fun e he=>hb e (List.mem_append_right _ he))
   have hd:=hb (fx l (eC u 0 m)) (by simp)
   have hw:Nb l (fx l (eC u 0 m))=m:=by
    simp only[fx]at hd⊢
    split at hd
    ·rename_i h0
     rw[if_pos h0]
     obtain⟨x,e1,e2,e3⟩:=L7 h0
     have hx:(eC u 0 m).length=m - 8:=by simp only[eC,List.length_take,List.length_drop];omega
     simp only[Nb,e1,G5 e2,e3,hx]
     simp
     omega
    ·exact absurd rfl hd
   have hk:((c5 k).map (Nb l)).sum=(k:Int):=by
    unfold c5
    split
    ·simp;omega
    ·simp[Nb]
   rw[List.length_drop]at ih
   simp only[List.map_append,List.map_cons,List.map_nil,List.sum_append,List.sum_cons,List.sum_nil,hk,hw]
   omega
theorem JL (l:ah) (d:Bytes):(fx l d).kind=3∨(fx l d).kind=2:=by
 unfold fx
 split
 ·exact .inl rfl
 ·exact .inr rfl
def qt:Int→List Ev→Prop
 |_,[]=>True
 |a,e::r=>¬(e.kind=1∧a=1)∧qt e.kind r
theorem qt.low {a b:Int} (h:b≠1):∀ {r:List Ev},qt a r→qt b r
 | [],_=>trivial
 |e::r,g=>⟨fun x=>h x.2,g.2⟩
theorem Ld {l:ah} {k:Nat} {d:Bytes} {a:Int} {r:List Ev} (ha:a≠1) (h:qt 3 r):qt a ((c5 k++ [fx l d])++r):=by
 have hd:∀c:Int,qt c (fx l d::r):=fun c=>by
  have:=JL l d
  exact⟨by omega,h.low (by omega)⟩
 unfold c5
 split
 ·exact hd a
 ·exact⟨fun x=>ha x.2,hd _⟩
theorem Gx {k:Nat} {a:Int} (ha:a≠1):qt a (c5 k):=by
 unfold c5
 by_cases hk:k=0
 ·rw[if_pos hk];trivial
 ·rw[if_neg hk];exact⟨fun x=>ha x.2,trivial⟩
theorem CS {l:ah}:∀(n:Nat) (u:Bytes) (k:Nat) (a:Int),u.length≤n→a≠1→qt a ((scan l true u k).1++c5 (scan l true u k).2.1)
 |0,u,k,a,h,ha=>by
  have:u= []:=List.eq_nil_of_length_eq_zero (by omega)
  subst this
  exact Gx ha
 |n+1,u,k,a,h,ha=>by
  by_cases hu:u= []
  ·subst hu
   exact Gx ha
  have hp:=List.length_pos_iff.2 hu
  by_cases h2:(aB l u 0).1≠3
  ·rw[zV hu (by simp) h2]
   exact CS n (u.drop 1) (k+1) a (by rw[List.length_drop];omega) ha
  ·obtain⟨m,hm,_,h9,hl⟩:=wW h2
   rw[zk hm h9 hl]
   have ih:=CS (l:=l) n (u.drop m) 0 3 (by rw[List.length_drop];omega) (by omega)
   simp only
   rw[List.append_assoc]
   exact Ld ha ih
end Go.Eng.F
namespace Go.Eng.F
end Go.Eng.F
namespace Go.Eng.F
theorem law_code {n:Nat} (hc:∀b:Bytes,VC cd n (aD [(false,[.sl (bytes b)])]) (fun rs _=>rs=bl true)):∀h vs,H4 h [.sl (.int .u8)] vs→WC cd n vs h (fun r _=>r= .val false [.bool true]):=by
 intro h vs ha
 obtain⟨cs,v,S,r,rfl,hv,hr⟩:=ha
 obtain⟨x,rfl⟩:=ib hv.ok
 have e:ND [(.sl (.int .u8),E1 x)]= [(false,[.sl (bytes x)])]:=by simp only[ND,List.map,ig,Ty.agg]
 have hc:=hc x
 rw[←e]at hc
 have ha:mB h [(.sl (.int .u8),E1 x)] ((Ty.agg (.sl (.int .u8)),cs)::r):=⟨cs,r,rfl,⟨S,hv⟩,hr⟩
 refine(hc.wc ha (ts:= [(.bool, .b true)]) fun rs q=>by rw[q];exact Ui true).mono ?_
 rintro r' h' ⟨t,css,S',rfl,rfl,hres,_⟩
 obtain⟨cs',cr,S1,S2,rfl,rfl,h1,h2⟩:=hres
 obtain⟨rfl,rfl⟩:=h2
 obtain⟨b,rfl,e2,_⟩:=h1.bool
 simp only[Tv.b.injEq]at e2
 subst e2
 rfl
end Go.Eng.F
namespace Go.Eng.F
end Go.Eng.F
namespace Go.Eng.F
theorem P8.wf {v:bp} (s:P8 v):v.wf:=by
 have h1:=s.block
 have h2:=s.tag
 exact⟨cX s.view,cX s.height,by unfold Sz;omega,cX s.who,by unfold Sz;omega⟩
theorem tY {l:ah} {h:Head} (w:bx l h=true):h.wc:=by
 obtain⟨w1,w2,w3,w4,w5,w6,w7,w8,w9⟩:=M8 w
 have q:=(iJ w8).wc
 exact⟨⟨cX w1,cX w2,cX w3,by unfold Sz;omega,by unfold Sz;omega,q.1⟩,q.2⟩
theorem Lj {l:ah} {x:Block} (h:bj l x=true):x.wx:=by
 obtain⟨w1,w2,w3,w4,w5⟩:=K4 h
 have hL:=fV w2
 have h1:=hL.2.1
 have h2:=hL.2.2.1
 exact⟨⟨tY w1,⟨by unfold Sz;omega,fun y hy=>by have:=w4 y hy;unfold Sz;omega⟩⟩,fun t ht=>by have:=w4 t ht;omega⟩
theorem PF {l:ah} {t:Tc} (h:fP l t=true):t.wf:=by
 obtain⟨w1,w2,w3,w4⟩:=P6 h
 have hL:=fV w1
 have h1:=hL.1
 refine⟨cX w2,by unfold Sz;omega,fun r hr=> ?_⟩
 obtain⟨i,hi,rfl⟩:=List.getElem_of_mem hr
 obtain⟨a1,a2,a3,_⟩:=zC _ _ w4 i _ (List.getElem?_eq_getElem hi)
 have hv:=c8 w2
 exact⟨⟨by omega,by omega⟩,⟨by omega,by omega⟩,by unfold Sz;omega⟩
theorem Lx {l:ah} {p:Proof} (h:cj l p=true):p.wc:=by
 obtain⟨w1,w2,w3,w4,w5⟩:=K9 h
 have hL:=fV w1
 have h1:=hL.2.2.2
 have q:=(iJ w4).wc
 exact⟨⟨⟨by unfold Sz;omega,fun x hx=>(tY (w3 x hx)).1⟩,q.1⟩,fun x hx=>tY (w3 x hx),q⟩
theorem GV {l:ah} {x:aY} (h:dS l x=true):x.wc∧x.tx.length≤100000000:=by
 obtain⟨w1,w2,w3,w4,w5,w6,w7⟩:=MV h
 have hL:=fV w1
 have h1:=hL.2.1
 have h2:=hL.2.2.1
 have h6:=cz x.n.toNat x.idx.toNat
 exact⟨⟨cX w2,⟨by omega,by omega⟩,⟨by omega,by omega⟩,by unfold Sz;omega,⟨by unfold Sz;omega,fun y hy=>by have:=w7 y hy;unfold Sz;omega⟩⟩,by omega⟩
theorem Ow {l:ah} {m:aJ} (h:aV l m=true):m.wc:=by
 have hp:=i0 h
 rw[LL h]
 rcases g9 hp with e|e|e|e|e|e|e
 ·obtain⟨p1,_,p3,_⟩:=Oz (l:=l) e
  rw[p1]at hp;rw[p3]
  exact {dE with kind:=⟨by simp only;omega,by simp only;omega⟩,vote:=(B6 hp).wf}
 ·obtain⟨p1,_,p3,_⟩:=N2 (l:=l) e
  rw[p1]at hp;rw[p3]
  exact {dE with kind:=⟨by simp only;omega,by simp only;omega⟩,qc:=(iJ hp).wc}
 ·obtain⟨p1,_,p3,_⟩:=Ov (l:=l) e
  rw[p1]at hp;rw[p3]
  exact {dE with kind:=⟨by simp only;omega,by simp only;omega⟩,head:=tY hp}
 ·obtain⟨p1,_,p3,_⟩:=OH (l:=l) e
  rw[p1]at hp;rw[p3]
  exact {dE with kind:=⟨by simp only;omega,by simp only;omega⟩,block:=Lj hp}
 ·obtain⟨p1,_,p3,_⟩:=Pm (l:=l) e
  rw[p1]at hp;rw[p3]
  exact {dE with kind:=⟨by simp only;omega,by simp only;omega⟩,tc:=PF hp}
 ·obtain⟨p1,_,p3,_⟩:=OD (l:=l) e
  rw[p1]at hp;rw[p3]
  exact {dE with kind:=⟨by simp only;omega,by simp only;omega⟩,proof:=Lx hp}
 ·obtain⟨p1,_,p3,_⟩:=ON (l:=l) e
  rw[p1]at hp;rw[p3]
  exact {dE with kind:=⟨by simp only;omega,by simp only;omega⟩,incl:=(GV hp).1,tx:=(GV hp).2}
structure Ev.Lq (l:ah) (k:Nat) (e:Ev):Prop where
 kind:e.kind=1∨e.kind=2∨e.kind=3
 n:e.kind=1→0≤e.n∧e.n≤k
 msg:e.kind=3→aV l e.msg=true
 wc:e.msg.wc
theorem Ev.Lq.up {l:ah} {k k':Nat} {e:Ev} (h:e.Lq l k) (hk:k≤k'):e.Lq l k':= {h with n:=fun x=>by have:=h.n x;omega}
theorem GI {l:ah} {k k':Nat} (hk:k≤k'):∀e∈c5 k,e.Lq l k':=fun e he=>by
 unfold c5 at he
 split at he
 ·cases he
 ·rw[List.mem_singleton]at he
  subst he
  exact⟨.inl rfl,fun _=>⟨by simp only;omega,by simp only;omega⟩,fun h=>by simp at h,dE⟩
theorem Nc {l:ah} {d:Bytes} {k:Nat}:(fx l d).Lq l k:=by
 unfold fx
 split
 ·rename_i h
  obtain⟨m,e1,e2,_⟩:=L7 h
  rw[e1]
  exact⟨.inr (.inr rfl),fun h=>by simp at h,fun _=>e2,Ow e2⟩
 ·exact⟨.inr (.inl rfl),fun h=>by simp at h,fun h=>by simp at h,dE⟩
theorem Ku (k:Nat):(c5 k).length≤1:=by unfold c5;split <;>simp
theorem y0 {l:ah} {cl:Bool}:∀(n:Nat) (u:Bytes) (k:Nat),u.length≤n→(∀e∈(scan l cl u k).1,e.Lq l (k+u.length))∧(scan l cl u k).2.1≤k+u.length∧(scan l cl u k).1.length≤u.length
 |0,u,k,h=>by
  have:u= []:=List.eq_nil_of_length_eq_zero (by omega)
  subst this
  simp[xH]
 |n+1,u,k,h=>by
  by_cases hu:u= []
  ·subst hu
   simp[xH]
  have hp:=List.length_pos_iff.2 hu
  by_cases hw:(aB l u 0).1=1∧cl=false
  ·obtain⟨hw,rfl⟩:=hw
   rw[MU hu hw]
   simp
  by_cases h2:(aB l u 0).1≠3
  ·rw[zV hu hw h2]
   obtain⟨a1,a2,a3⟩:=y0 (l:=l) (cl:=cl) n (u.drop 1) (k+1) (by rw[List.length_drop];omega)
   rw[List.length_drop]at a1 a2 a3
   exact⟨fun e he=>(a1 e he).up (by omega),by omega,by omega⟩
  ·obtain⟨m,hm,_,h9,hl⟩:=wW h2
   rw[zk hm h9 hl]
   obtain⟨a1,a2,a3⟩:=y0 (l:=l) (cl:=cl) n (u.drop m) 0 (by rw[List.length_drop];omega)
   rw[List.length_drop]at a1 a2 a3
   have hs:=Ku k
   refine⟨fun e he=> ?_,by simp only;omega,by simp only[List.length_append,List.length_cons,List.length_nil];omega⟩
   simp only[List.mem_append,List.mem_singleton]at he
   rcases he with(he|rfl)|he
   ·exact GI (by omega) e he
   ·exact Nc
   ·exact(a1 e he).up (by omega)
theorem ED {l:ah} {s:Bytes} {cl:Bool}:(∀e∈parse l s cl,e.Lq l s.length)∧(parse l s cl).length≤s.length+1:=by
 unfold parse
 split
 ·rw[wS]
  obtain⟨a1,a2,a3⟩:=y0 (l:=l) (cl:=cl) s.length s 0 (Nat.le_refl _)
  have hs:=Ku (scan l cl s 0).2.1
  rw[Nat.zero_add]at a1 a2
  cases cl
  ·simpa using⟨a1,by omega⟩
  ·refine⟨fun e he=> ?_,by simp only[if_true,List.length_append];omega⟩
   simp only[if_true,List.mem_append]at he
   rcases he with he|he
   ·exact a1 e he
   ·exact GI a2 e he
 ·simp
end Go.Eng.F
namespace Go.Eng.F
theorem nn (l:ah) (m:aJ) (hw:m.wc):VC cd kl (aD [(true,l.c),(true,m.c)]) (fun rs _=>rs= [(false,[.o true (some (5,1)) (bytes (KS l m))]),(false,[.p (.bool (aV l m))])]):=by
 refine VC.pq ((CD l m hw).mono fun rs ps h=> ?_)
 subst h
 refine⟨_,?_,rfl⟩
 by_cases h:aV l m=true
 ·rw[bU h];simp[KS,h,aW,bc,bn]
 ·have h':aV l m=false:=by simpa using h
  rw[c4 h'];simp[KS,h',aW,bc,bn,ag]
def fr (l:ah) (b:Bytes):Bytes:=if iG l b=true then zM b else []
theorem tX (l:ah) (b:Bytes):yI l b= [(false,[.o true (some (5,1)) (bytes (fr l b))]),(false,[.p (.bool (iG l b))])]:=rfl
theorem Io (l:ah) (b:Bytes):(fr l b).length≤4008:=by
 unfold fr
 split
 ·rename_i h
  simp only[iG,ah.ok,cO,Bool.and_eq_true,decide_eq_true_eq]at h
  rw[Lf]
  omega
 ·simp
theorem AW (x:bp) (hw:x.wf):VC cd kh (aD [(true,x.c)]) (fun r _=>∃m:aJ,m.wc∧r= [(true,m.o)]):=by
 refine VC.pq ((fS x hw).mono fun rs ps h=> ?_)
 subst h
 exact⟨[(true,aJ.o {av with kind:=1,vote:=x})],by simp[eH,aW,bc,bn,aJ.o,av,bD,fy,aZ,aH,hU,aK,bA,ag,bk,bm,bo],{av with kind:=1,vote:=x},{Hj with kind:=⟨by simp only;omega,by simp only;omega⟩,vote:=hw},rfl⟩
abbrev pE:Nat:=156
def sE:AF:=⟨2,6,[.tmp 4],(.seq (.ops [.i (.lbox 3 (.s 1)), .i (.mov 4 (.c (.val false [.nils])))]) (.seq (.ops [ql 10 3 3 5 true,qm 11 0,ql 12 3 3 5 true, .i (.call 14 161 false [(.s 11),(.s 12)]),qk 15 160 13, .i (.call 16 133 false [(.s 10),(.s 14)]),qm 9 15, .i (.ext 16 (.s 9) 0), .i (.ext 17 (.s 9) 1),qm 5 16,qm 6 17]) (.seq (.seq (.ops [qm 18 0, .i (.call 20 135 false [(.s 18),(qi 4)])]) (.cond (.s 19) (.ops [ql 21 3 3 5 true,qm 22 0,ql 23 3 3 5 true, .i (.call 25 134 false [(.s 22),(.s 23)]), .i (.call 26 133 false [(.s 21),(.s 24)]),qm 20 25, .i (.ext 26 (.s 20) 0), .i (.ext 27 (.s 20) 1),qm 5 26]) .skip)) (.seq (.seq (.ops [qm 28 0, .i (.call 30 135 false [(.s 28),(qi 6)])]) (.cond (.s 29) (.ops [qm 30 0, .i (.call 32 138 false [(.s 30),(qi 5)]), .i (.lsl 32 1 1 [.int .u8 0] [(0,1,(.c (.val false [.int .u8 1])))]), .i (.app 33 5 1 1 (.s 31) (.s 32)),qm 5 33]) .skip)) (.seq (.ops [ql 35 3 3 5 true,qm 36 5, .i (.call 38 152 false [(.s 35),(.s 36)]),qm 34 37, .i (.ext 38 (.s 34) 0), .i (.ext 39 (.s 34) 1),qm 7 38,qm 8 39]) (.seq (.ops [qm 40 7,qm 4 40]) .ret))))))⟩
theorem Df:cd pE=some sE:=by kernel_rfl
theorem wI (b:Bytes) (i:Nat) (h:Int) (l:ah) (hl:l.rd) (hi:i≤b.length) (hb:b.length≤1073741824):VC cd pE (iO [] 133 (cur b i h) [(true,l.c)]) (fun r p=>∃x:Bytes×Nat×Int,(x.1.length≤4008∧x.2.1≤b.length)∧r= [(false,[.o true (some (5,1)) (bytes x.1)])]∧p= [.pt 133 (cur b x.2.1 x.2.2)]):=by
 refine ax Df rfl ?_
 simp(disch:=omega) [sE,cur,ah.c,VZ]
 refine de (wu b i h l hl.1 hi hb) ?_ (n1:=by intro _;simp(disch:=omega) [ah.c,bp.o,VZ]) (n3:=by intro _;simp(disch:=omega) [ah.c,bp.o,VZ])
 rintro⟨x1,i1,h1⟩ ⟨g1,j1⟩
 simp only at g1 j1
 have hw:=Tr hl g1
 simp(disch:=omega) [cur,bp.o,VZ]
 refine UP (AW x1 hw) ?_ (ha:=by first|rfl|(simp[bp.c,VY] <;>repeat' constructor))
 intro m1 g2
 simp(disch:=omega) [aJ.o,VZ]
 refine ao (nn l m1 g2) ?_ (ha:=by first|rfl|(simp[ah.c,aJ.c,VY] <;>repeat' constructor))
 have n1:=Jh l m1
 simp(disch:=omega) [VZ]
 refine de (iR b i1 h1 4 (by omega) j1 hb) ?_
 rintro⟨o1,i2,h2⟩ j2
 simp only at j2
 cases o1
 ·simp(disch:=omega) [cur,VZ]
  refine de (iR b i2 h2 6 (by omega) j2 hb) ?_
  rintro⟨o2,i3,h3⟩ j3
  simp only at j3
  cases o2
  ·simp(disch:=omega) [cur,ah.c,VZ]
   refine ao (gS l (KS l m1) (by omega)) ?_ (ha:=by first|rfl|(simp[ah.c,VY] <;>repeat' constructor))
   simp(disch:=omega) [tX,VZ]
   exact⟨_,i3,⟨Io _ _,j3⟩,rfl,rfl⟩
  ·simp(disch:=omega) [cur,ah.c,VZ]
   refine de (dX b i3 h3 5 (by omega) j3 hb) ?_
   rintro⟨y,i4,h4⟩ ⟨g4,j4⟩
   simp only at g4 j4
   simp(disch:=omega) [cur,aj,VZ]
   refine ao (gS l (y++ [1]) (by simp;omega)) ?_ (ha:=by first|rfl|(simp[ah.c,bytes,VY] <;>repeat' constructor))
   simp(disch:=omega) [tX,VZ]
   exact⟨_,i4,⟨Io _ _,j4⟩,rfl,rfl⟩
 ·simp(disch:=omega) [cur,ah.c,VZ]
  refine de (KB b i2 h2 l hl j2 hb) ?_ (n1:=by intro _;simp(disch:=omega) [ah.c,aJ.o,VZ]) (n3:=by intro _;simp(disch:=omega) [ah.c,aJ.o,VZ])
  rintro⟨m2,i5,h5⟩ ⟨g5,j5⟩
  simp only at g5 j5
  simp(disch:=omega) [cur,aJ.o,VZ]
  refine ao (nn l m2 g5) ?_ (ha:=by first|rfl|(simp[ah.c,aJ.c,VY] <;>repeat' constructor))
  have n2:=Jh l m2
  simp(disch:=omega) [VZ]
  refine de (iR b i5 h5 6 (by omega) j5 hb) ?_
  rintro⟨o2,i3,h3⟩ j3
  simp only at j3
  cases o2
  ·simp(disch:=omega) [cur,ah.c,VZ]
   refine ao (gS l (KS l m2) (by omega)) ?_ (ha:=by first|rfl|(simp[ah.c,VY] <;>repeat' constructor))
   simp(disch:=omega) [tX,VZ]
   exact⟨_,i3,⟨Io _ _,j3⟩,rfl,rfl⟩
  ·simp(disch:=omega) [cur,ah.c,VZ]
   refine de (dX b i3 h3 5 (by omega) j3 hb) ?_
   rintro⟨y,i4,h4⟩ ⟨g4,j4⟩
   simp only at g4 j4
   simp(disch:=omega) [cur,aj,VZ]
   refine ao (gS l (y++ [1]) (by simp;omega)) ?_ (ha:=by first|rfl|(simp[ah.c,bytes,VY] <;>repeat' constructor))
   simp(disch:=omega) [tX,VZ]
   exact⟨_,i4,⟨Io _ _,j4⟩,rfl,rfl⟩
end Go.Eng.F
namespace Go.Eng.F
abbrev kB:Nat:=90
def kO:AF:=⟨2,6,[.tmp 4],(.seq (.ops [.i (.lbox 3 (.s 1)), .i (.mov 4 (.c (.val false [.nils])))]) (.seq (.ops [.i (.bse 7),qm 5 7]) (.seq (.seq (.ops [qm 8 0, .i (.call 10 97 false [(.s 8),(qi 4)]),qm 6 9]) (.block 0 (.loop [48,47,46,45,44,43,42,41,40,39,38,37,36,35,34,33,32,31,30,29,28,27,26,25,24,23,22,21,20,19,18,17,16,15,14,13,12,11,10] (.seq (.seq (.ops [qm 10 6, .i (.bin 11 .gtr (.s 10) (qi 0))]) (.cond (.s 11) .skip (.exit 0))) (.seq (.block 1 (.seq (.ops [qm 14 0, .i (.call 16 97 false [(.s 14),(qi 6)])]) (.block 2 (.seq (.ops [.i (.bin 22 .eql (.s 15) (qi 0)),qm 21 22]) (.cond (.s 21) (.ops [qm 23 5,qm 24 0, .i (.call 26 138 false [(.s 24),(qi 4)]), .i (.app 26 5 1 1 (.s 23) (.s 25)),qm 5 26]) (.seq (.ops [.i (.bin 28 .eql (.s 15) (qi 1)),qm 27 28]) (.cond (.s 27) (.ops [qm 29 5, .i (.lsl 30 1 1 [.int .u8 0] [(0,1,(.c (.val false [.int .u8 181])))]), .i (.app 31 5 1 1 (.s 29) (.s 30)),qm 5 31]) (.seq (.ops [.i (.bin 33 .eql (.s 15) (qi 2)),qm 32 33]) (.cond (.s 32) (.ops [qm 34 5,qm 35 0, .i (.call 37 97 false [(.s 35),(qi 90)]), .i (.cvi 37 .u8 (.s 36)), .i (.lsl 38 1 4 [.int .u8 0] [(0,1,(.c (.val false [.int .u8 181]))),(1,1,(.c (.val false [.int .u8 70]))),(2,1,(.s 37)),(3,1,(.c (.val false [.int .u8 0])))]), .i (.app 39 5 1 1 (.s 34) (.s 38)),qm 5 39]) (.seq (.ops [.i (.bin 41 .eql (.s 15) (qi 3)),qm 40 41]) (.cond (.s 40) (.ops [qm 42 5,qm 43 0,qm 44 0,ql 45 3 3 5 true, .i (.call 47 156 false [(.s 44),(.s 45)]), .i (.call 48 136 false [(.s 43),(.s 46)]), .i (.app 48 5 1 1 (.s 42) (.s 47)),qm 5 48]) (.ops [qm 16 5,qm 17 0,ql 18 3 3 5 true, .i (.call 20 156 false [(.s 17),(.s 18)]), .i (.app 20 5 1 1 (.s 16) (.s 19)),qm 5 20])))))))))))) (.ops [qm 12 6, .i (.bin 13 .sub (.s 12) (qi 1)),qm 6 13])))))) (.seq (.ops [qm 49 5,qm 4 49]) .ret))))⟩
theorem y4:cd kB=some kO:=by kernel_rfl
theorem x8 (b:Bytes) (i:Nat) (h:Int) (l:ah) (hl:l.rd) (hi:i≤b.length) (hb:b.length≤1073741824):VC cd kB (iO [] 133 (cur b i h) [(true,l.c)]) (fun r p=>∃x:Bytes×Nat×Int,(x.1.length≤12033∧x.2.1≤b.length)∧r= [(false,[.o true (some (5,1)) (bytes x.1)])]∧p= [.pt 133 (cur b x.2.1 x.2.2)]):=by
 have e181:∀x:Bytes,bytes x++ [[.int .u8 181]]=bytes (x++ [181]):=fun x=>by simp[bytes]
 have e4:∀(x:Bytes) (k:Int),bytes x++ [[.int .u8 181],[.int .u8 70],[.int .u8 (IntKind.u8.wrap k)],[.int .u8 0]]=bytes (x++ [181,70,b8 k,0]):=fun x k=>by
  have e:x++ [181,70,b8 k,0]=((x++ [181,70])++ [b8 k])++ [0]:=by simp
  rw[e,←bG,←BU]
  simp[bytes]
 refine ax y4 rfl ?_
 simp(disch:=omega) [kO,cur,ah.c,VZ]
 refine de (aw b i h 4 (by omega) hi hb) ?_
 rintro⟨k,i1,h1⟩ ⟨g1,j1⟩
 simp only at g1 j1
 simp(disch:=omega) [cur,VZ]
 refine bF (σ:=Nat×Nat×Nat×Int×Bytes) (f1:=_) (es0:=_) (by simp(disch:=omega) [VZ];rfl) (by simp(disch:=omega) [VZ];rfl) (fun p=> [(6, .val false [.int .i64 (p.1:Int)]),(5, .val false [.ow 7 p.2.1])]) (fun p=> [(4096, .pt 0 133 [.sl (bytes b), .int .i64 (p.2.2.1:Int), .int .i64 p.2.2.2.1]),(7, .sl p.2.1 true true (some (5,1)) (bytes p.2.2.2.2))])
  (fun p g=>g=p.1∧p.2.2.1≤b.length∧p.2.2.2.2.length+4011 * p.1≤12033) (k,_,i1,h1,[]) k (by simp(disch:=omega) [VZ];rfl) (by simp(disch:=omega) [bytes,VZ]) ⟨rfl,j1,by simp;omega⟩ ?_
 rintro⟨n,v,i2,h2,x⟩ nx g ⟨hg,h5,h6⟩ P hP
 simp only at hg h5 h6
 simp(disch:=omega) [VZ]
 refine ab (fun h8=> ?_) (fun h8=> ?_)
 ·have e1:IntKind.i64.wrap ((n:Int) - 1)=((n - 1:Nat):Int):=by rw[xU (by omega) (by omega)];omega
  simp(disch:=omega) [VZ]
  refine de (aw b i2 h2 6 (by omega) h5 hb) ?_
  rintro⟨q,i3,h3⟩ ⟨g3,j3⟩
  simp only at g3 j3
  have hq:q=0∨q=1∨q=2∨q=3∨q=4∨q=5:=by omega
  rcases hq with rfl|rfl|rfl|rfl|rfl|rfl
  ·simp(disch:=omega) [cur,VZ]
   refine de (dX b i3 h3 4 (by omega) j3 hb) ?_
   rintro⟨y,i4,h4⟩ ⟨g4,j4⟩
   simp only at g4 j4
   simp(disch:=omega) [cur,e1,bG,aj,VZ]
   exact hP (n - 1,_,i4,h4,x++y) (g - 1) _ _ (by omega) ⟨by simp only;omega,j4,by simp;omega⟩ (by simp(disch:=omega) [VZ];rfl) (by simp(disch:=omega) [VZ])
  ·simp(disch:=omega) [cur,e1,e181,aj,VZ]
   exact hP (n - 1,_,i3,h3,x++ [181]) (g - 1) _ _ (by omega) ⟨by simp only;omega,j3,by simp;omega⟩ (by simp(disch:=omega) [VZ];rfl) (by simp(disch:=omega) [VZ])
  ·simp(disch:=omega) [cur,VZ]
   refine de (aw b i3 h3 90 (by omega) j3 hb) ?_
   rintro⟨y,i4,h4⟩ ⟨g4,j4⟩
   simp only at g4 j4
   simp(disch:=omega) [cur,e1,e4,aj,VZ]
   exact hP (n - 1,_,i4,h4,x++ [181,70,b8 y,0]) (g - 1) _ _ (by omega) ⟨by simp only;omega,j4,by simp;omega⟩ (by simp(disch:=omega) [VZ];rfl) (by simp(disch:=omega) [VZ])
  ·simp(disch:=omega) [cur,ah.c,VZ]
   refine de (wI b i3 h3 l hl j3 hb) ?_ (n1:=by intro _;simp(disch:=omega) [ah.c,VZ]) (n3:=by intro _;simp(disch:=omega) [ah.c,VZ])
   rintro⟨y,i4,h4⟩ ⟨g4,j4⟩
   simp only at g4 j4
   simp(disch:=omega) [cur,VZ]
   refine de (LM b i4 h4 y (by omega) j4 hb) ?_ (n1:=by intro _;simp(disch:=omega) [L8,VZ]) (n3:=by intro _;simp(disch:=omega) [L8,VZ])
   rintro⟨⟨fl,z⟩,i5,h5'⟩ ⟨g5,j5⟩
   simp only at g5 j5
   cases fl
   ·simp(disch:=omega) [cur,P7,e1,bG,aj,VZ]
    exact hP (n - 1,_,i5,h5',x++z) (g - 1) _ _ (by omega) ⟨by simp only;omega,j5,by simp;omega⟩ (by simp(disch:=omega) [VZ];rfl) (by simp(disch:=omega) [VZ])
   ·simp(disch:=omega) [cur,P7,e1,bG,aj,VZ]
    exact hP (n - 1,_,i5,h5',x++z) (g - 1) _ _ (by omega) ⟨by simp only;omega,j5,by simp;omega⟩ (by simp(disch:=omega) [VZ];rfl) (by simp(disch:=omega) [VZ])
  ·simp(disch:=omega) [cur,ah.c,VZ]
   refine de (wI b i3 h3 l hl j3 hb) ?_ (n1:=by intro _;simp(disch:=omega) [ah.c,VZ]) (n3:=by intro _;simp(disch:=omega) [ah.c,VZ])
   rintro⟨y,i4,h4⟩ ⟨g4,j4⟩
   simp only at g4 j4
   simp(disch:=omega) [cur,e1,bG,aj,VZ]
   exact hP (n - 1,_,i4,h4,x++y) (g - 1) _ _ (by omega) ⟨by simp only;omega,j4,by simp;omega⟩ (by simp(disch:=omega) [VZ];rfl) (by simp(disch:=omega) [VZ])
  ·simp(disch:=omega) [cur,ah.c,VZ]
   refine de (wI b i3 h3 l hl j3 hb) ?_ (n1:=by intro _;simp(disch:=omega) [ah.c,VZ]) (n3:=by intro _;simp(disch:=omega) [ah.c,VZ])
   rintro⟨y,i4,h4⟩ ⟨g4,j4⟩
   simp only at g4 j4
   simp(disch:=omega) [cur,e1,bG,aj,VZ]
   exact hP (n - 1,_,i4,h4,x++y) (g - 1) _ _ (by omega) ⟨by simp only;omega,j4,by simp;omega⟩ (by simp(disch:=omega) [VZ];rfl) (by simp(disch:=omega) [VZ])
 ·simp(disch:=omega) [cur,VZ]
  exact⟨x,i2,⟨by omega,h5⟩,rfl,rfl⟩
end Go.Eng.F
namespace Go.Eng.F
abbrev jS:Nat:=15
def ke:AF:=⟨2,5,[.tmp 4],(.seq (.ops [.i (.lbox 3 (.s 1)), .i (.mov 4 (.c (.val false [.nils])))]) (.seq (.ops [qm 7 0,qk 9 88 7,qm 5 8]) (.seq (.ops [qm 9 5,qm 10 5, .i (.nch 11 (.s 10)),qf 12 11 2, .i (.ldh 13 (.s 12) 1 false), .i (.bin 14 .add (.s 13) (qi 31)), .i (.nch 15 (.s 9)),qf 16 15 2, .i (.sth (.s 16) (.s 14) 1)]) (.seq (.ops [qm 17 5,ql 18 3 3 5 true, .i (.call 20 90 false [(.s 17),(.s 18)]),qm 6 19]) (.seq (.ops [qm 20 6,qm 21 5,ql 22 3 3 5 true, .i (.call 24 90 false [(.s 21),(.s 22)]), .i (.app 24 5 1 1 (.s 20) (.s 23)),qm 4 24]) .ret)))))⟩
theorem xR:cd jS=some ke:=by kernel_rfl
theorem FG (b:Bytes) (l:ah) (hl:l.ok=true) (hb:b.length≤1073741824):VC cd jS (aD [(false,[.sl (bytes b)]),(true,l.c)]) (fun r _=>∃x:Bytes,x.length≤24066∧r= [(false,[.o true (some (5,1)) (bytes x)])]):=by
 have hL:=fV hl
 refine aa xR rfl ?_
 simp(disch:=omega) [ke,ah.c,VY]
 refine U1 (F9 b hb) ?_
 intro h _
 simp(disch:=omega) [cur,LV,VZ]
 refine de (x8 b 0 _ l hL (Nat.zero_le _) hb) ?_ (n1:=by intro _;simp(disch:=omega) [ah.c,VZ]) (n3:=by intro _;simp(disch:=omega) [ah.c,VZ])
 rintro⟨x,i1,h1⟩ ⟨g1,j1⟩
 simp only at g1 j1
 simp(disch:=omega) [cur,ah.c,VZ]
 refine de (x8 b i1 h1 l hL j1 hb) ?_ (n1:=by intro _;simp(disch:=omega) [ah.c,VZ]) (n3:=by intro _;simp(disch:=omega) [ah.c,VZ])
 rintro⟨y,i2,h2⟩ ⟨g2,j2⟩
 simp only at g2 j2
 simp(disch:=omega) [cur,bG,aj,VZ]
 exact⟨x++y,by simp;omega,rfl⟩
end Go.Eng.F
namespace Go.Eng.F
def BS (e:Ev):Int:=if e.kind=1 then e.n else 0
def bO (f:Ev→Int) (e:List Ev):Int:=(e.map f).sum
theorem EO {f:Ev→Int} {e:List Ev} {i:Nat} {y:Ev} (h:e[i]? =some y):bO f (e.take (i+1))=bO f (e.take i)+f y:=by
 unfold bO
 rw[List.take_add_one,h]
 simp
theorem z9 {f:Ev→Int} {N:Nat}:∀ {e:List Ev},(∀x∈e,0≤f x∧f x≤N)→0≤bO f e∧bO f e≤((N * e.length:Nat):Int)
 | [],_=>by simp[bO]
 |x::e,h=>by
  have h1:=h x (by simp)
  have h2:=z9 (e:=e) fun y hy=>h y (by simp[hy])
  have e1:bO f (x::e)=f x+bO f e:=by simp[bO]
  rw[e1,List.length_cons,Nat.mul_succ]
  omega
theorem lM {f:Ev→Int} {N M:Nat} {e:List Ev} {i:Nat} (h:∀x∈e,0≤f x∧f x≤N) (hl:e.length≤M):0≤bO f (e.take i)∧bO f (e.take i)≤((N * M:Nat):Int):=by
 have h1:=z9 (f:=f) (N:=N) (e:=e.take i) fun x hx=>h x (List.mem_of_mem_take hx)
 have h2:N * (e.take i).length≤N * M:=Nat.mul_le_mul_left _ (by rw[List.length_take];omega)
 omega
theorem Pq {e:List Ev} {i:Nat} (h:i < e.length):∃y:Ev,(CQ e)[i]? =some y.c∧(∀hq:i < (CQ e).length,(CQ e)[i]'hq=y.c)∧y∈e∧e[i]? =some y:=
 ⟨e[i],by simp[CQ,h],fun hq=>by simp[CQ],List.getElem_mem h,List.getElem?_eq_getElem h⟩
abbrev tn:Nat:=63
def sD:AF:=⟨1,5,[.tmp 2],(.seq (.ops [.i (.mov 2 (qi 0))]) (.seq (.ops [.i (.mov 3 (qi 0))]) (.seq (.seq (.ops [qm 6 0,qn 7 6, .i (.mov 8 (qi 0))]) (.block 0 (.loop [24,23,22,21,20,19,18,17,16,15,14,13,12,11,10,9,5] (.seq (.ops [qd 9 .lss 8 7]) (.seq (.cond (.s 9) .skip (.exit 0)) (.seq (.block 1 (.seq (.ops [.i (.iad 10 (.s 6) (.s 8) 47), .i (.ldh 11 (.s 10) 47 true), .i (.lal 5 [.int .i64 0, .int .i64 0, .int .i64 0, .int .i64 0, .int .i64 0, .nils, .int .i64 0, .nils, .int .i64 0, .int .i64 0, .nils, .nils, .nils, .int .i64 0, .int .i64 0, .int .i64 0, .nils, .nils, .int .i64 0, .int .i64 0, .nils, .nils, .nils, .int .i64 0, .int .i64 0, .int .i64 0, .nils, .nils, .int .i64 0, .int .i64 0, .nils, .nils, .nils, .nils, .int .i64 0, .nils, .nils, .int .i64 0, .int .i64 0, .nils, .nils, .nils, .int .i64 0, .int .i64 0, .int .i64 0, .nils, .nils]),qs 5 5 11 47]) (.seq (.ops [qf 12 5 0,ql 13 5 12 1 false, .i (.bin 14 .eql (.s 13) (qi 1)),qm 15 14, .g 15 true 17 (.fad 16 (.s 5) 1), .g 15 true 18 (.ldl 17 5 (.s 16) 1 false), .g 15 true 19 (.call 19 129 false [(.s 17)]), .i (.pick 19 (.s 15) (.s 18) (qb false))]) (.cond (.s 19) (.ops [qm 20 3,qf 21 5 1,ql 22 5 21 1 false,qd 23 .add 20 22,qm 3 23]) .skip)))) (.ops [.i (.bin 24 .add (.s 8) (qi 1)),qm 8 24]))))))) (.seq (.ops [qm 25 3,qm 2 25]) .ret))))⟩
theorem Ei:cd tn=some sD:=by kernel_rfl
theorem A5 (e:List Ev) (hl:e.length≤1048576) (h:∀x∈e,x.kind=1→0≤x.n∧x.n≤1048576):VC cd tn (aD [(false,[.sl (CQ e)])]) (fun rs _=>rs=it (bO BS e)):=by
 have hb:∀x∈e,0≤BS x∧BS x≤((1048576:Nat):Int):=fun x hx=>by
  unfold BS
  split
  ·rename_i hk;have:=h x hx hk;omega
  ·omega
 have hel:(CQ e).length=e.length:=BP e
 refine aa Ei rfl ?_
 simp(disch:=omega) [sD,hel,VZ]
 refine bF (σ:=Nat) (f1:=_) (es0:=_) (by simp(disch:=omega) [VZ] <;>rfl) (by simp(disch:=omega) [VZ] <;>rfl) (fun p=> [(8, .val false [.int .i64 (p:Int)]),(3, .val false [.int .i64 (bO BS (e.take p))])]) (fun p=> [])
  (fun p g=>g+p=e.length) 0 e.length (by simp(disch:=omega) [bO,VZ] <;>rfl) (by simp(disch:=omega) [VZ]) (by simp) ?_
 rintro i nx g hg P hP
 simp(disch:=omega) [VZ]
 refine ab (fun h8=> ?_) (fun h8=> ?_)
 ·have hi:i < e.length:=by omega
  obtain⟨y,hgt,hgt2,hm,hy⟩:=Pq hi
  have hs:=EO (f:=BS) hy
  have hc:=lM (i:=i) hb hl
  have hc2:=lM (i:=i+1) hb hl
  by_cases hk:y.kind=1
  ·have hn:=h y hm hk
   have hN:isNum y.n=true:=by simp only[isNum,cO,decide_eq_true_eq];omega
   have hsk:BS y=y.n:=by rw[BS,if_pos hk]
   rw[hsk]at hs
   have ew:IntKind.i64.wrap (bO BS (e.take i)+y.n)=bO BS (e.take (i+1)):=by rw[xU (by omega) (by omega)];omega
   simp(disch:=omega) [hgt,hgt2,Ev.c,aJ.c,hk,VZ]
   refine ao (eo y.n) ?_
   simp(disch:=omega) [hN,ew,VZ]
   exact hP (i+1) (g - 1) _ _ (by omega) (by omega) (by simp(disch:=omega) [VZ] <;>rfl) (by simp(disch:=omega) [VZ])
  ·have hsk:BS y=0:=by rw[BS,if_neg hk]
   rw[hsk,Int.add_zero]at hs
   simp(disch:=omega) [hgt,hgt2,Ev.c,aJ.c,hk,VZ]
   exact hP (i+1) (g - 1) _ _ (by omega) (by omega) (by simp(disch:=omega) [hs,VZ] <;>rfl) (by simp(disch:=omega) [VZ])
 ·have hi:i=e.length:=by omega
  subst hi
  simp(disch:=omega) [List.take_length,VZ]
def J4 (l:ah) (x:Ev):Int:=if x.kind=3 then gd l x.msg+8 else 0
theorem GC {l:ah}:∀ {e:List Ev},(∀x∈e,x.kind=1∨x.kind=3)→bO (Nb l) e=bO BS e+bO (J4 l) e
 | [],_=>by simp[bO]
 |x::e,h=>by
  have ih:=GC (l:=l) (e:=e) fun y hy=>h y (by simp[hy])
  have e1:∀f,bO f (x::e)=f x+bO f e:=fun f=>by simp[bO]
  rw[e1,e1,e1,ih]
  have:Nb l x=BS x+J4 l x:=by
   rcases h x (by simp)with hx|hx <;>simp[Nb,BS,J4,hx]
  omega
theorem Nk {l:ah} {s:Bytes} (hl:l.ok=true) (h:∀x∈parse l s true,x.kind≠2):bO BS (parse l s true)+bO (J4 l) (parse l s true)=(s.length:Int):=by
 obtain⟨hf,_⟩:=ED (l:=l) (s:=s) (cl:=true)
 rw[←GC fun x hx=>by have:=(hf x hx).kind;have:=h x hx;omega]
 simp only[parse,if_pos hl,wS,if_true]at h⊢
 have h1:=DQ (l:=l) s.length s 0 (Nat.le_refl _) fun x hx=>h x (List.mem_append_left _ hx)
 have h2:bO (Nb l) (c5 (scan l true s 0).2.1)=((scan l true s 0).2.1:Int):=by
  unfold c5 bO
  split
  ·simp;omega
  ·simp[Nb]
 have h3:∀a b,bO (Nb l) (a++b)=bO (Nb l) a+bO (Nb l) b:=fun a b=>by simp[bO]
 rw[h3,h2]
 unfold bO
 omega
theorem NC {l:ah} {s:Bytes}:qt 0 (parse l s true):=by
 unfold parse
 split
 ·simp only[wS,if_true]
  exact CS s.length s 0 0 (Nat.le_refl _) (by omega)
 ·trivial
abbrev uM:Nat:=10
def v9:AF:=⟨1,6,[.tmp 2],(.seq (.ops [.i (.mov 2 (qb false))]) (.seq (.seq (.ops [qm 10 0,qn 11 10, .i (.bin 12 .gtr (.s 11) (qi 1048576))]) (.cond (.s 12) (.seq (.ops [.i (.mov 2 (qb true))]) .ret) .skip)) (.seq (.ops [qm 13 0,qk 15 14 13, .i (.lal 3 [.int .i64 0, .int .i64 0, .int .i64 0, .int .i64 0, .int .i64 0]),qs 3 3 14 5]) (.seq (.ops [qm 15 0,ql 16 3 3 5 true, .i (.call 18 15 false [(.s 15),(.s 16)]),qm 4 17]) (.seq (.ops [ql 18 3 3 5 true,qm 19 4, .i (.call 21 50 false [(.s 18),(.s 19),(qb true)]),qm 5 20]) (.seq (.ops [qm 21 5,qk 23 63 21,qm 6 22]) (.seq (.ops [.i (.mov 7 (qi 0))]) (.seq (.seq (.ops [qm 23 5,qn 24 23, .i (.mov 25 (qi 0))]) (.block 0 (.loop [51,50,49,48,47,46,45,44,43,42,41,40,39,38,37,36,35,34,33,32,31,30,29,28,27,26,9] (.seq (.ops [qd 26 .lss 25 24]) (.seq (.cond (.s 26) .skip (.exit 0)) (.seq (.block 1 (.seq (.ops [.i (.iad 27 (.s 23) (.s 25) 47), .i (.ldh 28 (.s 27) 47 true), .i (.lal 9 [.int .i64 0, .int .i64 0, .int .i64 0, .int .i64 0, .int .i64 0, .nils, .int .i64 0, .nils, .int .i64 0, .int .i64 0, .nils, .nils, .nils, .int .i64 0, .int .i64 0, .int .i64 0, .nils, .nils, .int .i64 0, .int .i64 0, .nils, .nils, .nils, .int .i64 0, .int .i64 0, .int .i64 0, .nils, .nils, .int .i64 0, .int .i64 0, .nils, .nils, .nils, .nils, .int .i64 0, .nils, .nils, .int .i64 0, .int .i64 0, .nils, .nils, .nils, .int .i64 0, .int .i64 0, .int .i64 0, .nils, .nils]),qs 9 9 28 47]) (.seq (.seq (.ops [qf 29 9 0,ql 30 9 29 1 false, .i (.bin 31 .eql (.s 30) (qi 2))]) (.cond (.s 31) (.seq (.ops [.i (.mov 2 (qb true))]) .ret) .skip)) (.seq (.seq (.ops [qf 32 9 0,ql 33 9 32 1 false, .i (.bin 34 .eql (.s 33) (qi 1)),qm 35 34, .g 35 true 37 (.mov 36 (.s 7)), .g 35 true 38 (.bin 37 .eql (.s 36) (qi 1)), .i (.pick 38 (.s 35) (.s 37) (qb false))]) (.cond (.s 38) (.seq (.ops [.i (.mov 2 (qb false))]) .ret) .skip)) (.seq (.ops [qf 39 9 0,ql 40 9 39 1 false,qm 7 40]) (.seq (.ops [qf 41 9 0,ql 42 9 41 1 false, .i (.bin 43 .eql (.s 42) (qi 3))]) (.cond (.s 43) (.ops [qm 44 6,ql 45 3 3 5 true,qf 46 9 2,ql 47 9 46 45 true, .i (.call 49 46 false [(.s 45),(.s 47)]),qd 49 .add 44 48, .i (.bin 50 .add (.s 49) (qi 8)),qm 6 50]) .skip))))))) (.ops [.i (.bin 51 .add (.s 25) (qi 1)),qm 25 51]))))))) (.seq (.ops [qm 52 6,qm 53 4,qn 54 53,qd 55 .eql 52 54,qm 2 55]) .ret)))))))))⟩
theorem E3:cd uM=some v9:=by kernel_rfl
theorem FnSkip_ok (b:Bytes):VC cd uM (aD [(false,[.sl (bytes b)])]) (fun rs _=>rs=bl true):=by
 refine aa E3 rfl ?_
 simp(disch:=omega) [v9,aj,VZ]
 refine ab (fun h0=> ?_) (fun h0=> ?_)
 ·simp(disch:=omega) [VZ]
 have hb:b.length≤1048576:=by omega
 simp(disch:=omega) [VZ]
 refine UP (Fl b (by omega)) ?_
 rintro l ⟨hl,hf⟩
 simp(disch:=omega) [ah.e,VZ]
 refine UP (FG b l hl (by omega)) ?_ (ha:=by first|rfl|(simp[ah.c,VY] <;>repeat' constructor))
 rintro s hs
 have hp:=E4 l s true (by omega)
 obtain⟨hf1,hf2⟩:=ED (l:=l) (s:=s) (cl:=true)
 have hsum:=Nk (l:=l) (s:=s) hl
 have hadj:=NC (l:=l) (s:=s)
 generalize parse l s true=e at hp hf1 hf2 hsum hadj
 have hel:(CQ e).length=e.length:=BP e
 have b1:∀x∈e,0≤BS x∧BS x≤((30000:Nat):Int):=fun x hx=>by
  unfold BS
  split
  ·rename_i hk;have:=(hf1 x hx).n hk;omega
  ·omega
 have b2:∀x∈e,0≤J4 l x∧J4 l x≤((30000:Nat):Int):=fun x hx=>by
  unfold J4
  split
  ·rename_i hk
   have h1:=(hf1 x hx).msg hk
   rw[G5 h1]
   have h2:=Gt (i0 h1)
   rw[List.length_cons]
   omega
  ·omega
 have hsk:=lM (i:=e.length) (M:=30000) b1 (by omega)
 rw[List.take_length]at hsk
 simp(disch:=omega) [VZ]
 refine ao (hp) ?_ (ha:=by first|rfl|(simp[ah.c,VY] <;>repeat' constructor))
 simp(disch:=omega) [VZ]
 refine ao (A5 e (by omega) fun x hx hk=>by have:=(hf1 x hx).n hk;omega) ?_
 simp(disch:=omega) [hel,VZ]
 refine bF (σ:=Nat×Int) (f1:=_) (es0:=_) (by simp(disch:=omega) [VZ] <;>rfl) (by simp(disch:=omega) [VZ] <;>rfl) (fun p=> [(25, .val false [.int .i64 (p.1:Int)]),(6, .val false [.int .i64 (bO BS e+bO (J4 l) (e.take p.1))]),(7, .val false [.int .i64 p.2])]) (fun p=> [])
  (fun p g=>g+p.1=e.length∧qt p.2 (e.drop p.1)∧∀x∈e.take p.1,x.kind≠2) (0,0) e.length (by simp(disch:=omega) [bO,VZ] <;>rfl) (by simp(disch:=omega) [VZ]) ⟨by simp,by simpa using hadj,by simp⟩ ?_
 rintro⟨i,la⟩ nx g ⟨hg,h5,h6⟩ P hP
 simp only at hg h5 h6
 simp(disch:=omega) [VZ]
 refine ab (fun h8=> ?_) (fun h8=> ?_)
 ·have hi:i < e.length:=by omega
  obtain⟨y,hgt,hgt2,hm,hy⟩:=Pq hi
  have hms:=EO (f:=J4 l) hy
  have hc:=lM (i:=i) (M:=30000) b2 (by omega)
  have hc2:=lM (i:=i+1) (M:=30000) b2 (by omega)
  have hd:e.drop i=y::e.drop (i+1):=by
   rw[List.drop_eq_getElem_cons hi]
   rw[List.getElem?_eq_getElem hi]at hy
   simp only[Option.some.injEq]at hy
   rw[hy]
  rw[hd]at h5
  obtain⟨h51,h52⟩:=h5
  have h7:y.kind≠2→∀x∈e.take (i+1),x.kind≠2:=fun hk x hx=>by
   rw[List.take_add_one,hy]at hx
   rcases List.mem_append.1 hx with hx|hx
   ·exact h6 x hx
   ·simp only[Option.toList,List.mem_singleton]at hx;subst hx;exact hk
  rcases(hf1 y hm).kind with hk|hk|hk
  ·have hla:¬la=1:=fun e=>h51 ⟨hk,e⟩
   have hw:J4 l y=0:=by rw[J4,if_neg (by omega)]
   rw[hw,Int.add_zero]at hms
   simp(disch:=omega) [hgt,hgt2,Ev.c,aJ.c,hk,hla,VZ]
   exact hP (i+1,1) (g - 1) _ _ (by omega) ⟨by simp only;omega,by rw[←hk];exact h52,h7 (by omega)⟩ (by simp(disch:=omega) [hms,VZ] <;>rfl) (by simp(disch:=omega) [VZ])
  ·simp(disch:=omega) [hgt,hgt2,Ev.c,aJ.c,hk,VZ]
  ·have hw:J4 l y=gd l y.msg+8:=by rw[J4,if_pos hk]
   have hsz:=b2 y hm
   rw[hw]at hms hsz
   have e1:IntKind.i64.wrap (bO BS e+bO (J4 l) (e.take i)+gd l y.msg)=bO BS e+bO (J4 l) (e.take i)+gd l y.msg:=xU (by omega) (by omega)
   have e2:IntKind.i64.wrap (bO BS e+bO (J4 l) (e.take i)+gd l y.msg+8)=bO BS e+bO (J4 l) (e.take (i+1)):=by rw[xU (by omega) (by omega)];omega
   simp(disch:=omega) [hgt,hgt2,Ev.c,aJ.c,hk,VZ]
   refine ao (AL l y.msg (hf1 y hm).wc) ?_ (ha:=by first|rfl|(simp[aJ.c,ah.c,VY] <;>repeat' constructor))
   simp(disch:=omega) [e1,e2,VZ]
   exact hP (i+1,3) (g - 1) _ _ (by omega) ⟨by simp only;omega,by rw[←hk];exact h52,h7 (by omega)⟩ (by simp(disch:=omega) [VZ] <;>rfl) (by simp(disch:=omega) [VZ])
 ·have hi:i=e.length:=by omega
  subst hi
  rw[List.take_length]at h6
  have hfin:=hsum h6
  simp(disch:=omega) [List.take_length,aj,hfin,VZ]
end Go.Eng.F
