import Derived.OpenShut
import Derived.Test.YtaicdpancmfhnaaGreatGb
/-
  The engine, part S: the functions over slices that a program wrote: their codes, their laws.
-/
set_option linter.unusedVariables false
set_option linter.unusedSimpArgs false
set_option maxRecDepth 100000
namespace Go.Eng
open Go.ChangeShapes Go.WideShapes Go.RowKit
def cSzLeaf : AF := ⟨2, 4, [.tmp 4], (.seq (.ops [.i (.mov 4 (.c (.val false [.int .i64 0])))]) (.seq (.ops [.i (.mov 5 (.s 1)), .i (.mov 6 (.s 0)), .i (.len 7 false (.s 6)), .i (.bin 8 .sub (.s 5) (.s 7)), .i (.mov 1 (.s 8))]) (.seq (.seq (.ops [.i (.mov 9 (.s 1)), .i (.bin 10 .lss (.s 9) (.c (.val false [.int .i64 0])))]) (.cond (.s 10) (.seq (.ops [.i (.mov 4 (.c (.val false [.int .i64 (-1)])))]) .ret) .skip)) (.seq (.ops [.i (.mov 11 (.s 1)), .i (.mov 4 (.s 11))]) .ret))))⟩
def cSzSl (e gE : Nat) (ag : Bool) : AF := ⟨2, 5, [.tmp 4], (.seq (.ops [.i (.mov 4 (.c (.val false [.int .i64 0])))]) (.seq (.ops [.i (.mov 6 (.s 1)), .i (.mov 7 (.s 0)), .i (.len 8 false (.s 7)), .i (.bin 9 .sub (.s 6) (.s 8)), .i (.mov 1 (.s 9))]) (.seq (.seq (.ops [.i (.mov 10 (.s 1)), .i (.bin 11 .lss (.s 10) (.c (.val false [.int .i64 0])))]) (.cond (.s 11) (.seq (.ops [.i (.mov 4 (.c (.val false [.int .i64 (-1)])))]) .ret) .skip)) (.seq (.seq (.ops [.i (.mov 5 (.c (.val false [.int .i64 0])))]) (.block 0 (.loop [25, 24, 23, 22, 21, 20, 19, 18, 17, 16, 15, 14, 13, 12] (.seq (.seq (.ops [.i (.mov 12 (.s 5)), .i (.mov 13 (.s 0)), .i (.len 14 false (.s 13)), .i (.bin 15 .lss (.s 12) (.s 14))]) (.cond (.s 15) .skip (.exit 0))) (.seq (.block 1 (.seq (.ops [.i (.mov 18 (.s 0)), .i (.mov 19 (.s 5)), .i (.iad 20 (.s 18) (.s 19) e), .i (.ldh 21 (.s 20) e ag), .i (.mov 22 (.s 1)), .i (.call 24 gE false [(.s 21), (.s 22)]), .i (.mov 1 (.s 23))]) (.seq (.ops [.i (.mov 24 (.s 1)), .i (.bin 25 .lss (.s 24) (.c (.val false [.int .i64 0])))]) (.cond (.s 25) (.seq (.ops [.i (.mov 4 (.c (.val false [.int .i64 (-1)])))]) .ret) .skip)))) (.ops [.i (.mov 16 (.s 5)), .i (.bin 17 .add (.s 16) (.c (.val false [.int .i64 1]))), .i (.mov 5 (.s 17))])))))) (.seq (.ops [.i (.mov 26 (.s 1)), .i (.mov 4 (.s 26))]) .ret)))))⟩
def cEqLeaf : AF := ⟨2, 5, [.tmp 4], (.seq (.ops [.i (.mov 4 (.c (.val false [.bool false])))]) (.seq (.seq (.ops [.i (.mov 6 (.s 0)), .i (.len 7 false (.s 6)), .i (.mov 8 (.s 1)), .i (.len 9 false (.s 8)), .i (.bin 10 .neq (.s 7) (.s 9))]) (.cond (.s 10) (.seq (.ops [.i (.mov 4 (.c (.val false [.bool false])))]) .ret) .skip)) (.seq (.seq (.ops [.i (.mov 5 (.c (.val false [.int .i64 0])))]) (.block 0 (.loop [25, 24, 23, 22, 21, 20, 19, 18, 17, 16, 15, 14, 13, 12, 11] (.seq (.seq (.ops [.i (.mov 11 (.s 5)), .i (.mov 12 (.s 0)), .i (.len 13 false (.s 12)), .i (.bin 14 .lss (.s 11) (.s 13))]) (.cond (.s 14) .skip (.exit 0))) (.seq (.block 1 (.seq (.ops [.i (.mov 17 (.s 0)), .i (.mov 18 (.s 5)), .i (.iad 19 (.s 17) (.s 18) 1), .i (.ldh 20 (.s 19) 1 false), .i (.mov 21 (.s 1)), .i (.mov 22 (.s 5)), .i (.iad 23 (.s 21) (.s 22) 1), .i (.ldh 24 (.s 23) 1 false), .i (.bin 25 .neq (.s 20) (.s 24))]) (.cond (.s 25) (.seq (.ops [.i (.mov 4 (.c (.val false [.bool false])))]) .ret) .skip))) (.ops [.i (.mov 15 (.s 5)), .i (.bin 16 .add (.s 15) (.c (.val false [.int .i64 1]))), .i (.mov 5 (.s 16))])))))) (.seq (.ops [.i (.mov 4 (.c (.val false [.bool true])))]) .ret))))⟩
def cEqSl (e gE : Nat) (ag : Bool) : AF := ⟨2, 5, [.tmp 4], (.seq (.ops [.i (.mov 4 (.c (.val false [.bool false])))]) (.seq (.seq (.ops [.i (.mov 6 (.s 0)), .i (.len 7 false (.s 6)), .i (.mov 8 (.s 1)), .i (.len 9 false (.s 8)), .i (.bin 10 .neq (.s 7) (.s 9))]) (.cond (.s 10) (.seq (.ops [.i (.mov 4 (.c (.val false [.bool false])))]) .ret) .skip)) (.seq (.seq (.ops [.i (.mov 5 (.c (.val false [.int .i64 0])))]) (.block 0 (.loop [26, 25, 24, 23, 22, 21, 20, 19, 18, 17, 16, 15, 14, 13, 12, 11] (.seq (.seq (.ops [.i (.mov 11 (.s 5)), .i (.mov 12 (.s 0)), .i (.len 13 false (.s 12)), .i (.bin 14 .lss (.s 11) (.s 13))]) (.cond (.s 14) .skip (.exit 0))) (.seq (.block 1 (.seq (.ops [.i (.mov 17 (.s 0)), .i (.mov 18 (.s 5)), .i (.iad 19 (.s 17) (.s 18) e), .i (.ldh 20 (.s 19) e ag), .i (.mov 21 (.s 1)), .i (.mov 22 (.s 5)), .i (.iad 23 (.s 21) (.s 22) e), .i (.ldh 24 (.s 23) e ag), .i (.call 26 gE false [(.s 20), (.s 24)]), .i (.not 26 (.s 25))]) (.cond (.s 26) (.seq (.ops [.i (.mov 4 (.c (.val false [.bool false])))]) .ret) .skip))) (.ops [.i (.mov 15 (.s 5)), .i (.bin 16 .add (.s 15) (.c (.val false [.int .i64 1]))), .i (.mov 5 (.s 16))])))))) (.seq (.ops [.i (.mov 4 (.c (.val false [.bool true])))]) .ret))))⟩
def cToLeaf (ty by_ : Nat) (z : C) : AF := ⟨1, 5, [.tmp 2], (.seq (.ops [.i (.mov 2 (.c (.val false [.nils])))]) (.seq (.ops [.i (.mov 5 (.s 0)), .i (.len 6 false (.s 5)), .i (.mks 7 ty 1 by_ [z] (.s 6)), .i (.mov 3 (.s 7))]) (.seq (.seq (.ops [.i (.mov 4 (.c (.val false [.int .i64 0])))]) (.block 0 (.loop [20, 19, 18, 17, 16, 15, 14, 13, 12, 11, 10, 9, 8] (.seq (.seq (.ops [.i (.mov 8 (.s 4)), .i (.mov 9 (.s 0)), .i (.len 10 false (.s 9)), .i (.bin 11 .lss (.s 8) (.s 10))]) (.cond (.s 11) .skip (.exit 0))) (.seq (.block 1 (.ops [.i (.mov 14 (.s 3)), .i (.mov 15 (.s 4)), .i (.mov 16 (.s 0)), .i (.mov 17 (.s 4)), .i (.iad 18 (.s 16) (.s 17) 1), .i (.ldh 19 (.s 18) 1 false), .i (.iad 20 (.s 14) (.s 15) 1), .i (.sth (.s 20) (.s 19) 1)])) (.ops [.i (.mov 12 (.s 4)), .i (.bin 13 .add (.s 12) (.c (.val false [.int .i64 1]))), .i (.mov 4 (.s 13))])))))) (.seq (.ops [.i (.mov 21 (.s 3)), .i (.mov 2 (.s 21))]) .ret))))⟩
def cToSl (ty e by_ gE : Nat) (z : List C) (ag : Bool) : AF := ⟨1, 5, [.tmp 2], (.seq (.ops [.i (.mov 2 (.c (.val false [.nils])))]) (.seq (.ops [.i (.mov 5 (.s 0)), .i (.len 6 false (.s 5)), .i (.mks 7 ty e by_ z (.s 6)), .i (.mov 3 (.s 7))]) (.seq (.seq (.ops [.i (.mov 4 (.c (.val false [.int .i64 0])))]) (.block 0 (.loop [21, 20, 19, 18, 17, 16, 15, 14, 13, 12, 11, 10, 9, 8] (.seq (.seq (.ops [.i (.mov 8 (.s 4)), .i (.mov 9 (.s 0)), .i (.len 10 false (.s 9)), .i (.bin 11 .lss (.s 8) (.s 10))]) (.cond (.s 11) .skip (.exit 0))) (.seq (.block 1 (.ops [.i (.mov 14 (.s 3)), .i (.mov 15 (.s 4)), .i (.mov 16 (.s 0)), .i (.mov 17 (.s 4)), .i (.iad 18 (.s 16) (.s 17) e), .i (.ldh 19 (.s 18) e ag), .i (.call 21 gE false [(.s 19)]), .i (.iad 21 (.s 14) (.s 15) e), .i (.sth (.s 21) (.s 20) e)])) (.ops [.i (.mov 12 (.s 4)), .i (.bin 13 .add (.s 12) (.c (.val false [.int .i64 1]))), .i (.mov 4 (.s 13))])))))) (.seq (.ops [.i (.mov 22 (.s 3)), .i (.mov 2 (.s 22))]) .ret))))⟩
def cMkLeaf (k : IntKind) : AF := ⟨2, 5, [.tmp 4], (.seq (.ops [.i (.mov 4 (.c (.val false [.int .i64 0])))]) (.seq (.seq (.ops [.i (.mov 5 (.c (.val false [.int .i64 0])))]) (.block 0 (.loop [18, 17, 16, 15, 14, 13, 12, 11, 10, 9, 8, 7, 6] (.seq (.seq (.ops [.i (.mov 6 (.s 5)), .i (.mov 7 (.s 0)), .i (.len 8 false (.s 7)), .i (.bin 9 .lss (.s 6) (.s 8))]) (.cond (.s 9) .skip (.exit 0))) (.seq (.block 1 (.seq (.ops [.i (.mov 12 (.s 0)), .i (.mov 13 (.s 5)), .i (.mov 14 (.s 1)), .i (.cvi 15 k (.s 14)), .i (.iad 16 (.s 12) (.s 13) 1), .i (.sth (.s 16) (.s 15) 1)]) (.ops [.i (.mov 17 (.s 1)), .i (.bin 18 .add (.s 17) (.c (.val false [.int .i64 1]))), .i (.mov 1 (.s 18))]))) (.ops [.i (.mov 10 (.s 5)), .i (.bin 11 .add (.s 10) (.c (.val false [.int .i64 1]))), .i (.mov 5 (.s 11))])))))) (.seq (.ops [.i (.mov 19 (.s 1)), .i (.mov 4 (.s 19))]) .ret)))⟩
def cHdLeaf (k : IntKind) : AF := ⟨2, 5, [.tmp 4], (.seq (.ops [.i (.mov 4 (.c (.val false [.int .i64 0])))]) (.seq (.seq (.ops [.i (.mov 5 (.c (.val false [.int .i64 0])))]) (.block 0 (.loop [20, 19, 18, 17, 16, 15, 14, 13, 12, 11, 10, 9, 8, 7, 6] (.seq (.seq (.ops [.i (.mov 6 (.s 5)), .i (.mov 7 (.s 0)), .i (.len 8 false (.s 7)), .i (.bin 9 .lss (.s 6) (.s 8))]) (.cond (.s 9) .skip (.exit 0))) (.seq (.block 1 (.seq (.seq (.ops [.i (.mov 12 (.s 0)), .i (.mov 13 (.s 5)), .i (.iad 14 (.s 12) (.s 13) 1), .i (.ldh 15 (.s 14) 1 false), .i (.mov 16 (.s 1)), .i (.cvi 17 k (.s 16)), .i (.bin 18 .neq (.s 15) (.s 17))]) (.cond (.s 18) (.seq (.ops [.i (.mov 4 (.c (.val false [.int .i64 (-1)])))]) .ret) .skip)) (.ops [.i (.mov 19 (.s 1)), .i (.bin 20 .add (.s 19) (.c (.val false [.int .i64 1]))), .i (.mov 1 (.s 20))]))) (.ops [.i (.mov 10 (.s 5)), .i (.bin 11 .add (.s 10) (.c (.val false [.int .i64 1]))), .i (.mov 5 (.s 11))])))))) (.seq (.ops [.i (.mov 21 (.s 1)), .i (.mov 4 (.s 21))]) .ret)))⟩
def cMkSl (gE : Nat) : AF := ⟨2, 5, [.tmp 4], (.seq (.ops [.i (.mov 4 (.c (.val false [.int .i64 0])))]) (.seq (.seq (.ops [.i (.mov 5 (.c (.val false [.int .i64 0])))]) (.block 0 (.loop [17, 16, 15, 14, 13, 12, 11, 10, 9, 8, 7, 6] (.seq (.seq (.ops [.i (.mov 6 (.s 5)), .i (.mov 7 (.s 0)), .i (.len 8 false (.s 7)), .i (.bin 9 .lss (.s 6) (.s 8))]) (.cond (.s 9) .skip (.exit 0))) (.seq (.block 1 (.ops [.i (.mov 12 (.s 0)), .i (.mov 13 (.s 5)), .i (.iad 14 (.s 12) (.s 13) 1), .i (.ldh 15 (.s 14) 1 false), .i (.mov 16 (.s 1)), .i (.call 18 gE false [(.s 15), (.s 16)]), .i (.mov 1 (.s 17))])) (.ops [.i (.mov 10 (.s 5)), .i (.bin 11 .add (.s 10) (.c (.val false [.int .i64 1]))), .i (.mov 5 (.s 11))])))))) (.seq (.ops [.i (.mov 18 (.s 1)), .i (.mov 4 (.s 18))]) .ret)))⟩
def cHdSl (gE : Nat) : AF := ⟨2, 5, [.tmp 4], (.seq (.ops [.i (.mov 4 (.c (.val false [.int .i64 0])))]) (.seq (.seq (.ops [.i (.mov 5 (.c (.val false [.int .i64 0])))]) (.block 0 (.loop [19, 18, 17, 16, 15, 14, 13, 12, 11, 10, 9, 8, 7, 6] (.seq (.seq (.ops [.i (.mov 6 (.s 5)), .i (.mov 7 (.s 0)), .i (.len 8 false (.s 7)), .i (.bin 9 .lss (.s 6) (.s 8))]) (.cond (.s 9) .skip (.exit 0))) (.seq (.block 1 (.seq (.ops [.i (.mov 12 (.s 0)), .i (.mov 13 (.s 5)), .i (.iad 14 (.s 12) (.s 13) 1), .i (.ldh 15 (.s 14) 1 false), .i (.mov 16 (.s 1)), .i (.call 18 gE false [(.s 15), (.s 16)]), .i (.mov 1 (.s 17))]) (.seq (.ops [.i (.mov 18 (.s 1)), .i (.bin 19 .lss (.s 18) (.c (.val false [.int .i64 0])))]) (.cond (.s 19) (.seq (.ops [.i (.mov 4 (.c (.val false [.int .i64 (-1)])))]) .ret) .skip)))) (.ops [.i (.mov 10 (.s 5)), .i (.bin 11 .add (.s 10) (.c (.val false [.int .i64 1]))), .i (.mov 5 (.s 11))])))))) (.seq (.ops [.i (.mov 20 (.s 1)), .i (.mov 4 (.s 20))]) .ret)))⟩
theorem wts_int {h : H} {k : IntKind} : ∀ {xs : List Tv} {cs : List C} {S : List Nat}, Elems (Rp h (.int k)) xs cs S → wts xs = 0 ∧ S = []
  | [], _, _, ⟨_, e⟩ => ⟨rfl, e⟩
  | x :: xs, _, _, ⟨c1, c2, S1, S2, _, h2, h3, h4⟩ => by
    obtain ⟨n, _, h5, h6, _⟩ := h3.int
    obtain ⟨h7, h8⟩ := wts_int h4
    exact ⟨by simp [wts, h5, wt, h7], by rw [h2, h6, h8]; rfl⟩
theorem sz_leaf {cd : Nat → Option AF} {g : Nat} (hg : cd g = some cSzLeaf) {kk : IntKind} : SzOk cd g (.sl (.int kk)) := by
  intro h cs v S k hv hk
  obtain ⟨c, xs, id, off, bs, S', rfl, rfl, hm, hl, hat, hce, hbs, hel, hS⟩ := hv.view
  have hw : wt (.l xs) = xs.length := by simp [wt, (wts_int hel).1]
  rw [hw]
  refine WS_enter hg rfl ?_
  simp (disch := omega) only [cSzLeaf, hl, w64, SQ, SU, SL, reduceCtorEq, Nat.reduceAdd, Nat.reduceLeDiff, reduceIte]
  refine BR_dec (fun hb => ?_) (fun hb => ?_)
  · simp (disch := omega) only [cSzLeaf, w64, SQ, SU, SL, reduceCtorEq, Nat.reduceAdd, Nat.reduceLeDiff, reduceIte]
    rw [if_neg (by omega)]
  · simp (disch := omega) only [cSzLeaf, w64, SQ, SU, SL, reduceCtorEq, Nat.reduceAdd, Nat.reduceLeDiff, reduceIte]
    rw [if_pos (by omega)]
theorem eq_leaf {cd : Nat → Option AF} {g : Nat} (hcd : cd g = some cEqLeaf) {kk : IntKind} : EqOk cd g (.sl (.int kk)) := by
  intro h ca cb va vb Sa Sb ha hb
  obtain ⟨c1, xs, id1, off1, bs1, S1, rfl, rfl, hm1, hl1, hat1, hce1, hbs1, hel1, hS1⟩ := ha.view
  obtain ⟨c2, ys, id2, off2, bs2, S2, rfl, rfl, hm2, hl2, hat2, hce2, hbs2, hel2, hS2⟩ := hb.view
  refine WS_enter hcd rfl ?_
  simp (disch := omega) only [cEqLeaf, hl1, hl2, w64, SQ, SU, SL, reduceCtorEq, Nat.reduceAdd, Nat.reduceLeDiff, reduceIte]
  refine BR_dec (fun hne => ?_) (fun hne => ?_)
  · simp (disch := omega) only [cEqLeaf, SQ, SU, SL, reduceCtorEq, Nat.reduceAdd, Nat.reduceLeDiff, reduceIte]
    have : ¬ xs = ys := fun e => hne (by rw [e])
    simp [this]
  · have hlen : xs.length = ys.length := by omega
    simp (disch := omega) only [cEqLeaf, SQ, SU, SL, reduceCtorEq, Nat.reduceAdd, Nat.reduceLeDiff, reduceIte]
    refine WS_loop2 (σ := Nat) (f1 := _) (by simp only [SQ, SU, SL, reduceCtorEq, Nat.reduceAdd, Nat.reduceLeDiff, reduceIte]; rfl) (fun i => [(5, .val false [.int .i64 i])]) (fun i g h' => g = xs.length - i ∧ i ≤ xs.length ∧ h' = h ∧ ∀ j, j < i → xs[j]? = ys[j]?) 0 xs.length (by simp only [SQ, SU, SL, reduceCtorEq, Nat.reduceAdd, Nat.reduceLeDiff, reduceIte]; rfl) ⟨by omega, by omega, rfl, fun j hj => by omega⟩ ?_
    rintro i g h' ⟨hg, hi, rfl, hall⟩
    simp (disch := omega) only [cEqLeaf, hl1, hl2, w64, SQ, SU, SL, reduceCtorEq, Nat.reduceAdd, Nat.reduceLeDiff, reduceIte]
    refine BR_dec (fun hlt => ?_) (fun hlt => ?_)
    · have hix : i < xs.length := by omega
      have hiy : i < ys.length := by omega
      obtain ⟨_, k1⟩ := hel1.at hix
      obtain ⟨a, k1, k2, _⟩ := k1.int
      obtain ⟨_, q1⟩ := hel2.at hiy
      obtain ⟨b, q1, q2, _⟩ := q1.int
      simp only [Ty.size, Nat.mul_one] at k1 q1 hat1 hat2 hbs1 hbs2
      simp (disch := omega) only [cEqLeaf, hl1, hl2, hat1 i hix, hat2 i hiy, (hce1 (by omega)).1, (hce2 (by omega)).1, k1, q1, ifT, w64, SQ, SU, SL, reduceCtorEq, Nat.reduceAdd, Nat.reduceLeDiff, reduceIte]
      refine BR_dec (fun hne => ?_) (fun hne => ?_)
      · simp (disch := omega) only [cEqLeaf, SQ, SU, SL, reduceCtorEq, Nat.reduceAdd, Nat.reduceLeDiff, reduceIte]
        have : ¬ xs = ys := fun e => by
          subst e
          rw [k2] at q2
          cases q2
          exact hne rfl
        simp [this]
      · simp (disch := omega) only [cEqLeaf, w64, SQ, SU, SL, reduceCtorEq, Nat.reduceAdd, Nat.reduceLeDiff, reduceIte]
        refine ⟨i + 1, xs.length - (i + 1), by omega, rfl, rfl, by omega, fun j hj => ?_⟩
        by_cases e : j = i
        · subst e
          rw [List.getElem?_eq_getElem hix, List.getElem?_eq_getElem hiy, k2, q2]
          have : a = b := by omega
          rw [this]
        · exact hall j (by omega)
    · simp (disch := omega) only [cEqLeaf, SQ, SU, SL, reduceCtorEq, Nat.reduceAdd, Nat.reduceLeDiff, reduceIte]
      have : xs = ys := List.ext_getElem? fun j => by
        by_cases hj : j < i
        · exact hall j hj
        · rw [List.getElem?_eq_none (by omega), List.getElem?_eq_none (by omega)]
      simp [this]
theorem to_leaf {cd : Nat → Option AF} {g ty by_ : Nat} {kk : IntKind} (hcd : cd g = some (cToLeaf ty by_ (.int kk 0))) (hby : by_ ≤ 8) : ToOk cd g (.sl (.int kk)) := by
  intro h cs v S hv hw
  obtain ⟨c, xs, id, off, bs, S', rfl, rfl, hm, hl, hat, hce, hbs, hel, hS⟩ := hv.view
  have hn : xs.length ≤ 1048576 := by simp only [wt] at hw; omega
  simp only [Ty.size, Nat.mul_one] at hat hbs hel
  have hsl : ((bs.drop off).take xs.length).length = xs.length := by simp; omega
  have hroom : inRoom (xs.length * by_ + xs.length) = true := room_of (by have := Nat.mul_le_mul hn hby; omega)
  refine WS_enter hcd rfl ?_
  simp (disch := omega) only [cToLeaf, hl, w64, Int.toNat_natCast, hroom, ifT, Int.natCast_nonneg, rep_one, SQ, SU, SL, reduceCtorEq, Nat.reduceAdd, Nat.reduceLeDiff, reduceIte]
  refine WS_loop2 (σ := Nat) (f1 := _) (by simp only [SQ, SU, SL, reduceCtorEq, Nat.reduceAdd, Nat.reduceLeDiff, reduceIte]; rfl) (fun i => [(4, .val false [.int .i64 i])])
    (fun i g h' => g = xs.length - i ∧ i ≤ xs.length ∧ h' = h ++ [.own ty (((bs.drop off).take xs.length).take i ++ List.replicate (xs.length - i) (.int kk 0))]) 0 xs.length (by simp only [SQ, SU, SL, reduceCtorEq, Nat.reduceAdd, Nat.reduceLeDiff, reduceIte]; rfl) ⟨by omega, by omega, by simp⟩ ?_
  rintro i g h' ⟨hg, hi, rfl⟩
  simp (disch := omega) only [cToLeaf, hl, w64, SQ, SU, SL, reduceCtorEq, Nat.reduceAdd, Nat.reduceLeDiff, reduceIte]
  refine BR_dec (fun hlt => ?_) (fun hlt => ?_)
  · have hix : i < xs.length := by omega
    have hcells := cells_more (hce (by omega)).1
    have hone := part_one (show off + i < bs.length by omega)
    have hset := set_next (l := (bs.drop off).take xs.length) (z := .int kk 0) hsl hix
    have hget : ((bs.drop off).take xs.length)[i]'(by omega) = bs[off + i]'(by omega) := by simp
    rw [hget] at hset
    simp (disch := omega) only [cToLeaf, hl, hat i hix, hcells, hone, hset, get_last, set_last, atC_sl, setL_one, ifT, w64, Int.toNat_natCast, List.length_append, List.length_take, List.length_replicate, List.length_drop, SQ, SU, SL, reduceCtorEq, Nat.reduceAdd, Nat.reduceLeDiff, reduceIte]
    exact ⟨i + 1, xs.length - (i + 1), by omega, rfl, rfl, by omega, rfl⟩
  · simp (disch := omega) only [cToLeaf, SQ, SU, SL, reduceCtorEq, Nat.reduceAdd, Nat.reduceLeDiff, reduceIte]
    have hi' : i = xs.length := by omega
    subst hi'
    refine ⟨_, [.sl h.length 0 xs.length 1], [h.length], rfl, rfl, ?_, ⟨by simp, fun j hj => ?_⟩, fun j hj => ?_⟩
    · refine ⟨xs, rfl, by simp only [maxLen]; omega, .inr ⟨h.length, 0, _, [], 1, rfl, cells_own (get_last h _ []), by simp [Ty.size]; omega, rfl, ?_, .inl rfl⟩⟩
      have e1 : (List.drop 0 (((bs.drop off).take xs.length).take xs.length ++ List.replicate (xs.length - xs.length) (C.int kk 0))).take (xs.length * (Ty.int kk).size) = (bs.drop off).take xs.length := by
        simp [Ty.size, List.take_take]
      rw [e1]
      have e2 := (wts_int hel).2
      subst e2
      exact hel.imp fun c x S' _ hx => hx.app
    · simp at hj
      subst hj
      exact ⟨_, _, get_last h _ []⟩
    · simp at hj; omega
theorem mkL_int {k : IntKind} : ∀ (xs : List Tv) (n : Nat), mkL (mkE (.int k)) (cnE (.int k)) xs n = (List.range xs.length).map fun j => Tv.i (k.wrap ((n + j : Nat) : Int))
  | [], n => rfl
  | x :: xs, n => by
    have e : mkL (mkE (.int k)) (cnE (.int k)) (x :: xs) n = Tv.i (k.wrap (n : Int)) :: mkL (mkE (.int k)) (cnE (.int k)) xs (n + 1) := rfl
    rw [e, mkL_int xs, List.length_cons, List.range_succ_eq_map, List.map_cons, List.map_map]
    congr 1
    apply List.map_congr_left
    intro j _
    simp only [Function.comp, Nat.succ_eq_add_one]
    congr 3
    omega
theorem cn_int {k : IntKind} : ∀ (xs : List Tv), (xs.map (cnE (.int k))).sum = xs.length
  | [] => rfl
  | x :: xs => by
    have e : ((x :: xs).map (cnE (.int k))).sum = 1 + (xs.map (cnE (.int k))).sum := rfl
    rw [e, cn_int xs, List.length_cons]
    omega
/-- Numbers side by side. -/
theorem elems_ints {h : H} {k : IntKind} : ∀ {ns : List Int} {cs : List C}, cs = ns.map (.int k) → (∀ n ∈ ns, k.min ≤ n ∧ n ≤ k.max) → Elems (Rp h (.int k)) (ns.map .i) cs []
  | [], cs, h, _ => ⟨by rw [h]; rfl, rfl⟩
  | n :: ns, cs, h, hr => ⟨[.int k n], ns.map (.int k), [], [], by rw [h]; rfl, rfl, ⟨n, rfl, rfl, rfl, (hr n (by simp)).1, (hr n (by simp)).2⟩, elems_ints rfl fun m hm => hr m (by simp [hm])⟩
theorem wrap_in (k : IntKind) (n : Int) : k.min ≤ k.wrap n ∧ k.wrap n ≤ k.max := by
  have := wf_wrap k n
  simpa [Lit.wf] using this
theorem mk_leaf {cd : Nat → Option AF} {g0 : Nat} {kk : IntKind} (hcd : cd g0 = some (cMkLeaf kk)) : MkOk cd g0 (.sl (.int kk)) := by
  intro h cs v S k hv ho hk
  obtain ⟨c, xs, id, off, bs, S', rfl, rfl, hm, hl, hat, hce, hbs, hel, hS⟩ := hv.view
  have hS' := (wts_int hel).2
  subst hS'
  have hcn : cnT (.sl (.int kk)) (.l xs) = xs.length := by simp only [cnT]; exact cn_int xs
  rw [hcn] at hk ⊢
  simp only [Ty.size, Nat.mul_one] at hat hbs hel
  -- the block, as it is at every round
  have hown : 0 < xs.length → ∃ ty, h[id]? = some (.own ty bs) := fun hp => by
    rcases hS with hS | ⟨e, _⟩
    · obtain ⟨ty, cs, e⟩ := ho.2 id (by rw [hS]; simp)
      have := (hce hp).1
      rw [cells_own e] at this
      cases this
      exact ⟨ty, e⟩
    · subst e; simp at hp
  obtain ⟨ty, hty⟩ : ∃ ty, 0 < xs.length → h[id]? = some (.own ty bs) := by
    by_cases hp : 0 < xs.length
    · obtain ⟨ty, e⟩ := hown hp
      exact ⟨ty, fun _ => e⟩
    · exact ⟨0, fun e => absurd e hp⟩
  refine WS_enter hcd rfl ?_
  simp (disch := omega) only [cMkLeaf, SQ, SU, SL, reduceCtorEq, Nat.reduceAdd, Nat.reduceLeDiff, reduceIte]
  refine WS_loop2 (σ := Nat) (f1 := _) (by simp only [SQ, SU, SL, reduceCtorEq, Nat.reduceAdd, Nat.reduceLeDiff, reduceIte]; rfl) (fun i => [(5, .val false [.int .i64 i]), (1, .val false [.int .i64 ((k + i : Nat) : Int)])])
    (fun i g h' => g = xs.length - i ∧ i ≤ xs.length ∧ (i = 0 → h' = h) ∧ (0 < i → h' = h.set id (.own ty (setL bs off ((List.range i).map fun j => C.int kk (kk.wrap ((k + j : Nat) : Int))))))) 0 xs.length (by simp only [SQ, SU, SL, reduceCtorEq, Nat.reduceAdd, Nat.reduceLeDiff, reduceIte]; rfl) ⟨by omega, by omega, fun _ => rfl, fun e => by omega⟩ ?_
  rintro i g h' ⟨hg, hi, h0, h1⟩
  simp (disch := omega) only [cMkLeaf, hl, w64, SQ, SU, SL, reduceCtorEq, Nat.reduceAdd, Nat.reduceLeDiff, reduceIte]
  refine BR_dec (fun hlt => ?_) (fun hlt => ?_)
  · have hix : i < xs.length := by omega
    have hidlt : id < h.length := lt_of_cells (hce (by omega)).1
    have hb : ∃ cs, h'[id]? = some (.own ty cs) ∧ cs = setL bs off ((List.range i).map fun j => C.int kk (kk.wrap ((k + j : Nat) : Int))) ∧ ∀ b, h'.set id b = h.set id b := by
      by_cases hi0 : i = 0
      · have := h0 hi0
        subst this
        subst hi0
        exact ⟨bs, hty (by omega), rfl, fun b => rfl⟩
      · have := h1 (by omega)
        subst this
        exact ⟨_, set_get hidlt, rfl, fun b => by rw [List.set_set]⟩
    obtain ⟨cs, hb1, hb2, hb3⟩ := hb
    have hcl : cs.length = bs.length := by rw [hb2, setL_length]
    simp (disch := omega) only [cMkLeaf, hl, hat i hix, hb1, hb3, setL_one, ifT, w64, hcl, SQ, SU, SL, reduceCtorEq, Nat.reduceAdd, Nat.reduceLeDiff, reduceIte]
    refine ⟨i + 1, xs.length - (i + 1), by omega, rfl, rfl, by omega, fun e => by omega, fun _ => ?_⟩
    have e1 := setL_snoc (C.int kk (kk.wrap ((k + i : Nat) : Int))) ((List.range i).map fun j => C.int kk (kk.wrap ((k + j : Nat) : Int))) bs off
    rw [List.length_map, List.length_range] at e1
    rw [hb2, List.range_succ, List.map_append, List.map_singleton, e1]
  · have hi' : i = xs.length := by omega
    subst hi'
    simp (disch := omega) only [cMkLeaf, SQ, SU, SL, reduceCtorEq, Nat.reduceAdd, Nat.reduceLeDiff, reduceIte]
    have hml : ((List.range xs.length).map fun j => C.int kk (kk.wrap ((k + j : Nat) : Int))).length = xs.length := by simp
    by_cases hp : 0 < xs.length
    · have hidlt : id < h.length := lt_of_cells (hce hp).1
      have hSid : S = [id] := by
        rcases hS with e | ⟨e, _⟩
        · exact e
        · subst e; simp at hp
      rw [h1 hp]
      subst hSid
      refine ⟨⟨by simp, fun j hj => set_get_ne (by simpa using hj), fun j hj => ?_⟩, ?_⟩
      · simp at hj
        subst hj
        exact ⟨_, _, set_get hidlt⟩
      · refine ⟨_, rfl, ?_, .inr ⟨id, off, _, [], 1, ?_, cells_own (set_get hidlt), ?_, rfl, ?_, .inl rfl⟩⟩
        · simp only [mkL_int, List.length_map, List.length_range, maxLen]; omega
        · rw [(hce hp).2]; simp [mkL_int, Ty.size]
        · simp only [mkL_int, List.length_map, List.length_range, setL_length, Ty.size]; omega
        · rw [mkL_int]
          simp only [List.length_map, List.length_range, Ty.size, Nat.mul_one]
          have e2 := setL_read (l := (List.range xs.length).map fun j => C.int kk (kk.wrap ((k + j : Nat) : Int))) (cs := bs) (o := off) (by rw [hml]; omega)
          rw [hml] at e2
          rw [e2]
          have e3 : ((List.range xs.length).map fun j => Tv.i (kk.wrap ((k + j : Nat) : Int))) = ((List.range xs.length).map fun j => kk.wrap ((k + j : Nat) : Int)).map .i := by rw [List.map_map]; rfl
          rw [e3]
          refine elems_ints (by rw [List.map_map]; rfl) fun n hn => ?_
          obtain ⟨j, _, rfl⟩ := List.mem_map.1 hn
          exact wrap_in _ _
    · have hx : xs = [] := List.eq_nil_of_length_eq_zero (by omega)
      subst hx
      rw [h0 rfl]
      exact ⟨⟨rfl, fun _ _ => rfl, ho.2⟩, hv⟩
theorem hd_leaf {cd : Nat → Option AF} {g0 : Nat} {kk : IntKind} (hcd : cd g0 = some (cHdLeaf kk)) : HdOk cd g0 (.sl (.int kk)) := by
  intro h cs v S k hT hv hk
  by_cases hsl : ∃ xs, v = .l xs
  case neg =>
    obtain ⟨xs, e, _⟩ := hv.sl
    cases v <;> simp [mkT] at e
    exact absurd ⟨_, rfl⟩ hsl
  obtain ⟨zs, rfl⟩ := hsl
  obtain ⟨c, xs, id, off, bs, S', rfl, hxs, hm, hl, hat, hce, hbs, hel, hS⟩ := hv.view
  have hcn : cnT (.sl (.int kk)) (.l zs) = zs.length := by simp only [cnT]; exact cn_int zs
  rw [hcn] at hk ⊢
  have hxs' : xs = (List.range zs.length).map fun j => Tv.i (kk.wrap ((k + j : Nat) : Int)) := by
    have e : mkT (.sl (.int kk)) (.l zs) k = .l (mkL (mkE (.int kk)) (cnE (.int kk)) zs k) := rfl
    rw [e, mkL_int] at hxs
    exact (by simpa using hxs.symm)
  have hlen : xs.length = zs.length := by rw [hxs']; simp
  have hel0 := hel
  simp only [Ty.size, Nat.mul_one] at hat hbs hel
  refine WS_enter hcd rfl ?_
  simp (disch := omega) only [cHdLeaf, SQ, SU, SL, reduceCtorEq, Nat.reduceAdd, Nat.reduceLeDiff, reduceIte]
  refine WS_loop2 (σ := Nat) (f1 := _) (by simp only [SQ, SU, SL, reduceCtorEq, Nat.reduceAdd, Nat.reduceLeDiff, reduceIte]; rfl) (fun i => [(5, .val false [.int .i64 i]), (1, .val false [.int .i64 ((k + i : Nat) : Int)])])
    (fun i g h' => g = xs.length - i ∧ i ≤ xs.length ∧ h' = h) 0 xs.length (by simp only [SQ, SU, SL, reduceCtorEq, Nat.reduceAdd, Nat.reduceLeDiff, reduceIte]; rfl) ⟨by omega, by omega, rfl⟩ ?_
  rintro i g h' ⟨hg, hi, rfl⟩
  simp (disch := omega) only [cHdLeaf, hl, w64, SQ, SU, SL, reduceCtorEq, Nat.reduceAdd, Nat.reduceLeDiff, reduceIte]
  refine BR_dec (fun hlt => ?_) (fun hlt => ?_)
  · have hix : i < xs.length := by omega
    obtain ⟨_, k1⟩ := hel0.at hix
    obtain ⟨a, k1, k2, _⟩ := k1.int
    have ha : a = kk.wrap ((k + i : Nat) : Int) := by
      have : xs[i]? = some (Tv.i (kk.wrap ((k + i : Nat) : Int))) := by
        rw [hxs', List.getElem?_map, List.getElem?_range (by omega)]; rfl
      rw [List.getElem?_eq_getElem hix, k2] at this
      simpa using this
    simp only [Ty.size, Nat.mul_one] at k1
    simp (disch := omega) only [cHdLeaf, hl, hat i hix, (hce (by omega)).1, k1, ifT, w64, SQ, SU, SL, reduceCtorEq, Nat.reduceAdd, Nat.reduceLeDiff, reduceIte]
    refine BR_dec (fun hne => ?_) (fun hne => ?_)
    · exact absurd ha hne
    · simp (disch := omega) only [cHdLeaf, w64, SQ, SU, SL, reduceCtorEq, Nat.reduceAdd, Nat.reduceLeDiff, reduceIte]
      exact ⟨i + 1, xs.length - (i + 1), by omega, rfl, rfl, by omega⟩
  · simp (disch := omega) only [cHdLeaf, SQ, SU, SL, reduceCtorEq, Nat.reduceAdd, Nat.reduceLeDiff, reduceIte]
    have : i = zs.length := by omega
    rw [this]

end Go.Eng
/-
  The engine, part T: the functions over slices of structs and of slices.
-/
set_option linter.unusedVariables false
set_option linter.unusedSimpArgs false
set_option maxRecDepth 100000
namespace Go.Eng
/-! ### Slices of what has functions of its own -/
theorem sz_sl {cd : Nat → Option AF} {g gE : Nat} {T : Ty} (hcd : cd g = some (cSzSl T.size gE T.agg)) (hE : SzOk cd gE T) : SzOk cd g (.sl T) := by
  intro h cs v S k hv hk
  obtain ⟨c, xs, id, off, bs, S', rfl, rfl, hm, hl, hat, hce, hbs, hel, hS⟩ := hv.view
  have hw : wt (.l xs) = xs.length + wts xs := by simp [wt]
  rw [hw]
  refine WS_enter hcd rfl ?_
  simp (disch := omega) only [cSzSl, hl, w64, SQ, SU, SL, reduceCtorEq, Nat.reduceAdd, Nat.reduceLeDiff, reduceIte]
  refine BR_dec (fun hb => ?_) (fun hb => ?_)
  · simp (disch := omega) only [cSzSl, w64, SQ, SU, SL, reduceCtorEq, Nat.reduceAdd, Nat.reduceLeDiff, reduceIte]
    rw [if_neg (by omega)]
  · simp (disch := omega) only [cSzSl, w64, SQ, SU, SL, reduceCtorEq, Nat.reduceAdd, Nat.reduceLeDiff, reduceIte]
    refine WS_loop2 (σ := Nat) (f1 := _) (by simp only [SQ, SU, SL, reduceCtorEq, Nat.reduceAdd, Nat.reduceLeDiff, reduceIte]; rfl) (fun i => [(5, .val false [.int .i64 i]), (1, .val false [.int .i64 ((k - xs.length - wts (xs.take i) : Nat) : Int)])])
      (fun i g h' => g = xs.length - i ∧ i ≤ xs.length ∧ h' = h ∧ xs.length + wts (xs.take i) ≤ k) 0 xs.length ?_ ⟨by omega, by omega, rfl, by simp [wts]; omega⟩ ?_
    · have : ((k - xs.length - wts (xs.take 0) : Nat) : Int) = (k : Int) - xs.length := by simp [wts]; omega
      rw [this]
      simp only [SQ, SU, SL, reduceCtorEq, Nat.reduceAdd, Nat.reduceLeDiff, reduceIte]; rfl
    rintro i g h' ⟨hg, hi, rfl, hle⟩
    simp (disch := omega) only [cSzSl, hl, w64, SQ, SU, SL, reduceCtorEq, Nat.reduceAdd, Nat.reduceLeDiff, reduceIte]
    refine BR_dec (fun hlt => ?_) (fun hlt => ?_)
    · have hix : i < xs.length := by omega
      obtain ⟨Si, hx⟩ := hel.at hix
      have hsz := hx.size
      have hb2 : off + i * T.size + T.size ≤ bs.length := by
        have := Nat.mul_le_mul_right T.size hix
        rw [Nat.succ_mul] at this
        omega
      simp (disch := omega) only [cSzSl, hl, hat i hix, (hce (by omega)).1, ifT, w64, SQ, SU, SL, reduceCtorEq, Nat.reduceAdd, Nat.reduceLeDiff, reduceIte]
      refine WC_call (hE hx (k := k - xs.length - wts (xs.take i)) (by omega)) ?_
      rintro r h'' ⟨rfl, rfl⟩
      have hwt := wts_take (List.getElem?_eq_getElem hix)
      have hwl := wts_le xs (i + 1)
      by_cases hf : wt xs[i] ≤ k - xs.length - wts (xs.take i)
      · rw [if_pos hf]
        simp (disch := omega) only [KC_eq, w64, SQ, SU, SL, reduceCtorEq, Nat.reduceAdd, Nat.reduceLeDiff, reduceIte]
        refine BR_dec (fun hn => ?_) (fun hn => ?_)
        · omega
        · simp (disch := omega) only [w64, SQ, SU, SL, reduceCtorEq, Nat.reduceAdd, Nat.reduceLeDiff, reduceIte]
          refine ⟨i + 1, xs.length - (i + 1), by omega, ?_, rfl, by omega, by omega⟩
          have : ((k - xs.length - wts (xs.take (i + 1)) : Nat) : Int) = ((k - xs.length - wts (xs.take i) : Nat) : Int) - (wt xs[i] : Int) := by omega
          rw [this]
          rfl
      · rw [if_neg hf]
        simp (disch := omega) only [KC_eq, w64, SQ, SU, SL, reduceCtorEq, Nat.reduceAdd, Nat.reduceLeDiff, reduceIte]
        refine BR_dec (fun hn => ?_) (fun hn => ?_)
        · simp (disch := omega) only [w64, SQ, SU, SL, reduceCtorEq, Nat.reduceAdd, Nat.reduceLeDiff, reduceIte]
          rw [if_neg (by omega)]
        · omega
    · simp (disch := omega) only [cSzSl, w64, SQ, SU, SL, reduceCtorEq, Nat.reduceAdd, Nat.reduceLeDiff, reduceIte]
      have : i = xs.length := by omega
      subst this
      rw [List.take_length] at hle ⊢
      rw [if_pos (by omega)]
      congr 3
      omega
theorem eq_sl {cd : Nat → Option AF} {g gE : Nat} {T : Ty} (hcd : cd g = some (cEqSl T.size gE T.agg)) (hE : EqOk cd gE T) : EqOk cd g (.sl T) := by
  intro h ca cb va vb Sa Sb ha hb
  obtain ⟨c1, xs, id1, off1, bs1, S1, rfl, rfl, hm1, hl1, hat1, hce1, hbs1, hel1, hS1⟩ := ha.view
  obtain ⟨c2, ys, id2, off2, bs2, S2, rfl, rfl, hm2, hl2, hat2, hce2, hbs2, hel2, hS2⟩ := hb.view
  refine WS_enter hcd rfl ?_
  simp (disch := omega) only [cEqSl, hl1, hl2, w64, SQ, SU, SL, reduceCtorEq, Nat.reduceAdd, Nat.reduceLeDiff, reduceIte]
  refine BR_dec (fun hne => ?_) (fun hne => ?_)
  · simp (disch := omega) only [cEqSl, SQ, SU, SL, reduceCtorEq, Nat.reduceAdd, Nat.reduceLeDiff, reduceIte]
    have : ¬ xs = ys := fun e => hne (by rw [e])
    simp [this]
  · have hlen : xs.length = ys.length := by omega
    simp (disch := omega) only [cEqSl, SQ, SU, SL, reduceCtorEq, Nat.reduceAdd, Nat.reduceLeDiff, reduceIte]
    refine WS_loop2 (σ := Nat) (f1 := _) (by simp only [SQ, SU, SL, reduceCtorEq, Nat.reduceAdd, Nat.reduceLeDiff, reduceIte]; rfl) (fun i => [(5, .val false [.int .i64 i])]) (fun i g h' => g = xs.length - i ∧ i ≤ xs.length ∧ h' = h ∧ ∀ j, j < i → xs[j]? = ys[j]?) 0 xs.length (by simp only [SQ, SU, SL, reduceCtorEq, Nat.reduceAdd, Nat.reduceLeDiff, reduceIte]; rfl) ⟨by omega, by omega, rfl, fun j hj => by omega⟩ ?_
    rintro i g h' ⟨hg, hi, rfl, hall⟩
    simp (disch := omega) only [cEqSl, hl1, hl2, w64, SQ, SU, SL, reduceCtorEq, Nat.reduceAdd, Nat.reduceLeDiff, reduceIte]
    refine BR_dec (fun hlt => ?_) (fun hlt => ?_)
    · have hix : i < xs.length := by omega
      have hiy : i < ys.length := by omega
      obtain ⟨_, k1⟩ := hel1.at hix
      obtain ⟨_, q1⟩ := hel2.at hiy
      have hb1 : off1 + i * T.size + T.size ≤ bs1.length := by
        have := Nat.mul_le_mul_right T.size hix
        rw [Nat.succ_mul] at this
        omega
      have hb2 : off2 + i * T.size + T.size ≤ bs2.length := by
        have := Nat.mul_le_mul_right T.size hiy
        rw [Nat.succ_mul] at this
        omega
      simp (disch := omega) only [cEqSl, hl1, hl2, hat1 i hix, hat2 i hiy, (hce1 (by omega)).1, (hce2 (by omega)).1, ifT, w64, SQ, SU, SL, reduceCtorEq, Nat.reduceAdd, Nat.reduceLeDiff, reduceIte]
      refine WC_call (hE k1 q1) ?_
      rintro r h'' ⟨rfl, rfl⟩
      simp (disch := omega) only [KC_eq, w64, SQ, SU, SL, reduceCtorEq, Nat.reduceAdd, Nat.reduceLeDiff, reduceIte]
      by_cases he : xs[i] = ys[i]
      · simp (disch := omega) only [he, w64, SQ, SU, SL, reduceCtorEq, Nat.reduceAdd, Nat.reduceLeDiff, reduceIte]
        refine ⟨i + 1, xs.length - (i + 1), by omega, rfl, rfl, by omega, fun j hj => ?_⟩
        by_cases e : j = i
        · subst e
          rw [List.getElem?_eq_getElem hix, List.getElem?_eq_getElem hiy, he]
        · exact hall j (by omega)
      · simp (disch := omega) only [he, w64, SQ, SU, SL, reduceCtorEq, Nat.reduceAdd, Nat.reduceLeDiff, reduceIte]
        have : ¬ xs = ys := fun e => by subst e; exact he rfl
        simp [this]
    · simp (disch := omega) only [cEqSl, SQ, SU, SL, reduceCtorEq, Nat.reduceAdd, Nat.reduceLeDiff, reduceIte]
      have : xs = ys := List.ext_getElem? fun j => by
        by_cases hj : j < i
        · exact hall j hj
        · rw [List.getElem?_eq_none (by omega), List.getElem?_eq_none (by omega)]
      simp [this]
theorem get_but {h : H} {b b' : Blk} {t : H} {i : Nat} (hi : i ≠ h.length) : (h ++ b' :: t)[i]? = (h ++ b :: t)[i]? := by
  by_cases hl : i < h.length
  · rw [List.getElem?_append_left hl, List.getElem?_append_left hl]
  · rw [List.getElem?_append_right (by omega), List.getElem?_append_right (by omega)]
    obtain ⟨j, e⟩ : ∃ j, i - h.length = j + 1 := ⟨i - h.length - 1, by omega⟩
    rw [e, List.getElem?_cons_succ, List.getElem?_cons_succ]
theorem Ownd.app {h t : H} {S : List Nat} (ho : Ownd h S) : Ownd (h ++ t) S := ⟨ho.1, fun i hi => by
  obtain ⟨ty, cs, e⟩ := ho.2 i hi
  exact ⟨ty, cs, by rw [List.getElem?_append_left (List.getElem?_eq_some_iff.1 e).1]; exact e⟩⟩
theorem Ownd.but {h : H} {b b' : Blk} {t : H} {S : List Nat} (ho : Ownd (h ++ b :: t) S) (hs : ∀ i ∈ S, i ≠ h.length) : Ownd (h ++ b' :: t) S := ⟨ho.1, fun i hi => by
  obtain ⟨ty, cs, e⟩ := ho.2 i hi
  exact ⟨ty, cs, by rw [get_but (b := b) (hs i hi)]; exact e⟩⟩
theorem Rp.but {h : H} {b b' : Blk} {t : H} {T : Ty} {cs : List C} {v : Tv} {S : List Nat} (hr : Rp (h ++ b :: t) T cs v S) (hs : ∀ i ∈ S, i ≠ h.length) : Rp (h ++ b' :: t) T cs v S := hr.frame fun i hi => cells_same (get_but (hs i hi))
theorem Elems.lt {h : H} {T : Ty} {xs : List Tv} {cs : List C} {S : List Nat} (hr : Elems (Rp h T) xs cs S) : ∀ i ∈ S, i < h.length := Elems.all (hr.imp fun c x S' _ hx => hx.lt)
theorem rep_len {z : List C} {e : Nat} (hz : z.length = e) (n : Nat) : (List.replicate n z).flatten.length = n * e := by simp [hz]
theorem setL_next {D cs z : List C} {e n i : Nat} (hD : D.length = i * e) (hz : z.length = e) (hc : cs.length = e) (hi : i < n) : setL (D ++ (List.replicate (n - i) z).flatten) (i * e) cs = (D ++ cs) ++ (List.replicate (n - (i + 1)) z).flatten := by
  have e1 : n - i = (n - (i + 1)) + 1 := by omega
  rw [setL_eq _ _ _ (by simp only [List.length_append, rep_len hz, hD, hc, e1, Nat.add_mul, Nat.one_mul]; omega), e1, List.replicate_succ, List.flatten_cons, ← hD, List.take_left, hc, List.drop_append, List.drop_eq_nil_of_le (by omega)]
  have e2 : D.length + e - D.length = e := by omega
  rw [e2, List.drop_append, List.drop_eq_nil_of_le (by omega), hz]
  simp
theorem to_sl {cd : Nat → Option AF} {g gE ty by_ : Nat} {z : List C} {T : Ty} (hcd : cd g = some (cToSl ty T.size by_ gE z T.agg)) (hby : by_ ≤ 4096) (hz : z.length = T.size) (hE : ToOk cd gE T) : ToOk cd g (.sl T) := by
  intro h cs v S hv hw
  obtain ⟨c, xs, id, off, bs, S', rfl, rfl, hm, hl, hat, hce, hbs, hel, hS⟩ := hv.view
  have hwx : xs.length + wts xs ≤ 1048576 := by simp only [wt] at hw; omega
  have hroom : inRoom (xs.length * by_ + xs.length) = true := room_of (by have := Nat.mul_le_mul (show xs.length ≤ 1048576 by omega) hby; omega)
  refine WS_enter hcd rfl ?_
  simp (disch := omega) only [cToSl, hl, w64, Int.toNat_natCast, hroom, ifT, Int.natCast_nonneg, SQ, SU, SL, reduceCtorEq, Nat.reduceAdd, Nat.reduceLeDiff, reduceIte]
  refine WS_loop2 (σ := Nat) (f1 := _) (by simp only [SQ, SU, SL, reduceCtorEq, Nat.reduceAdd, Nat.reduceLeDiff, reduceIte]; rfl) (fun i => [(4, .val false [.int .i64 i])])
    (fun i g h' => g = xs.length - i ∧ i ≤ xs.length ∧ ∃ D Sd t, h' = h ++ .own ty (D ++ (List.replicate (xs.length - i) z).flatten) :: t ∧ Elems (Rp h' T) (xs.take i) D Sd ∧ Ownd h' Sd ∧ ∀ j ∈ Sd, h.length < j) 0 xs.length (by simp only [SQ, SU, SL, reduceCtorEq, Nat.reduceAdd, Nat.reduceLeDiff, reduceIte]; rfl)
    ⟨by omega, by omega, [], [], [], by simp, by simp [Elems], ⟨by simp, by simp⟩, by simp⟩ ?_
  rintro i g h' ⟨hg, hi, D, Sd, t, rfl, hD, hO, hlo⟩
  simp (disch := omega) only [cToSl, hl, w64, SQ, SU, SL, reduceCtorEq, Nat.reduceAdd, Nat.reduceLeDiff, reduceIte]
  have hDl : D.length = i * T.size := by
    have := hD.len Rp.size'
    rw [List.length_take, Nat.min_eq_left hi] at this
    exact this
  refine BR_dec (fun hlt => ?_) (fun hlt => ?_)
  · have hix : i < xs.length := by omega
    obtain ⟨Si, hx⟩ := hel.at hix
    have hcells := cells_more (hce (by omega)).1
    have hb2 : off + i * T.size + T.size ≤ bs.length := by
      have := Nat.mul_le_mul_right T.size hix
      rw [Nat.succ_mul] at this
      omega
    simp (disch := omega) only [cToSl, hl, hat i hix, hcells, ifT, w64, SQ, SU, SL, reduceCtorEq, Nat.reduceAdd, Nat.reduceLeDiff, reduceIte]
    have hwt := wts_take (List.getElem?_eq_getElem hix)
    have hwl := wts_le xs (i + 1)
    refine WC_call (hE (hx.app (t := .own ty (D ++ (List.replicate (xs.length - i) z).flatten) :: t)) (by omega)) ?_
    rintro r h'' ⟨t', cs', S2, rfl, rfl, hr, hO2, hlo2⟩
    have hcl := hr.size
    have hfit : i * T.size + T.size ≤ (D ++ (List.replicate (xs.length - i) z).flatten).length := by
      have e1 : xs.length - i = (xs.length - (i + 1)) + 1 := by omega
      rw [List.length_append, rep_len hz, hDl, e1, Nat.add_mul, Nat.one_mul]
      omega
    have hset := setL_next hDl hz hcl hix
    simp (disch := omega) only [KC_eq, atC_sl, Int.toNat_natCast, List.append_assoc, List.cons_append, get_last, set_last, hcl, hset, hfit, ifT, w64, SQ, SU, SL, reduceCtorEq, Nat.reduceAdd, Nat.reduceLeDiff, reduceIte]
    have hd1 : ∀ j ∈ Sd, j ≠ h.length := fun j hj => by have := hlo j hj; omega
    have hd2 : ∀ j ∈ S2, j ≠ h.length := fun j hj => by have := hlo2 j hj; simp at this; omega
    have hdl : ∀ j ∈ Sd, j < (h ++ Blk.own ty (D ++ (List.replicate (xs.length - i) z).flatten) :: t).length := hD.lt
    refine ⟨i + 1, xs.length - (i + 1), by omega, rfl, rfl, by omega, D ++ cs', Sd ++ S2, t ++ t', by rw [List.append_assoc], ?_, ⟨?_, ?_⟩, ?_⟩
    · have e1 : xs.take (i + 1) = xs.take i ++ [xs[i]] := by rw [List.take_add_one, List.getElem?_eq_getElem hix]; rfl
      rw [e1]
      refine (hD.imp fun c x S' hs hx => ?_).join (Elems.one ?_)
      · have := hx.app (t := t')
        rw [List.append_assoc, List.cons_append] at this
        exact this.but fun j hj => hd1 j (hs j hj)
      · rw [List.append_assoc, List.cons_append] at hr
        exact hr.but hd2
    · rw [List.nodup_append]
      refine ⟨hO.1, hO2.1, fun a ha b hb e => ?_⟩
      have h1 := hdl a ha
      have h2 := hlo2 b hb
      omega
    · intro j hj
      rcases List.mem_append.1 hj with hj | hj
      · have := (hO.app (t := t'))
        rw [List.append_assoc, List.cons_append] at this
        exact (this.but (b' := .own ty (D ++ (cs' ++ (List.replicate (xs.length - (i + 1)) z).flatten))) hd1).2 j hj
      · have := hO2
        rw [List.append_assoc, List.cons_append] at this
        exact (this.but (b' := .own ty (D ++ (cs' ++ (List.replicate (xs.length - (i + 1)) z).flatten))) hd2).2 j hj
    · intro j hj
      rcases List.mem_append.1 hj with hj | hj
      · exact hlo j hj
      · have := hlo2 j hj
        simp at this
        omega
  · simp (disch := omega) only [cToSl, SQ, SU, SL, reduceCtorEq, Nat.reduceAdd, Nat.reduceLeDiff, reduceIte]
    have hi' : i = xs.length := by omega
    subst hi'
    refine ⟨_, [.sl h.length 0 xs.length T.size], h.length :: Sd, rfl, rfl, ?_, ⟨List.nodup_cons.2 ⟨fun hm => absurd (hlo _ hm) (by omega), hO.1⟩, fun j hj => ?_⟩, fun j hj => ?_⟩
    · refine ⟨xs, rfl, by simp only [maxLen]; omega, .inr ⟨h.length, 0, _, Sd, _, rfl, cells_own (get_last h _ t), ?_, rfl, ?_, .inl rfl⟩⟩
      · simp [hDl]
      · have e1 : (List.drop 0 (D ++ (List.replicate (xs.length - xs.length) z).flatten)).take (xs.length * T.size) = D := by
          simp [← hDl]
        rw [e1]
        rw [List.take_length] at hD
        exact hD
    · rcases List.mem_cons.1 hj with rfl | hj
      · exact ⟨_, _, get_last h _ t⟩
      · exact hO.2 j hj
    · rcases List.mem_cons.1 hj with rfl | hj
      · exact Nat.le_refl _
      · exact Nat.le_of_lt (hlo j hj)
/-! ### One element is turned -/
theorem Elems.turn {h : H} {T : Ty} : ∀ {xs : List Tv} {cs : List C} {S : List Nat}, Elems (Rp h T) xs cs S → S.Nodup → ∀ {i : Nat} {x : Tv}, xs[i]? = some x →
    ∃ Si, Rp h T ((cs.drop (i * T.size)).take T.size) x Si ∧ (∀ j ∈ Si, j ∈ S) ∧ Si.Nodup ∧
      ∀ (h' : H) (x' : Tv) (c' : List C), (∀ j ∈ S, j ∉ Si → h'.cells j = h.cells j) → Rp h' T c' x' Si → Elems (Rp h' T) (xs.set i x') (setL cs (i * T.size) c') S := by
  intro xs cs S hr hn i x hx
  obtain ⟨S1, Si, S2, k1, k2, k3, k4⟩ := hr.split Rp.size' hx
  rw [k1, List.nodup_append] at hn
  obtain ⟨n1, n2, n3⟩ := hn
  rw [List.nodup_append] at n2
  obtain ⟨n4, n5, n6⟩ := n2
  have hlt := (List.getElem?_eq_some_iff.1 hx).1
  have hlen := hr.len Rp.size'
  refine ⟨Si, k3, fun j hj => by rw [k1]; simp [hj], n4, fun h' x' c' hf hx' => ?_⟩
  have hcl := hx'.size
  have hle : (i + 1) * T.size ≤ xs.length * T.size := Nat.mul_le_mul_right _ hlt
  have e1 : (i + 1) * T.size = i * T.size + T.size := by rw [Nat.add_mul, Nat.one_mul]
  rw [setL_eq _ _ _ (by omega), List.set_eq_take_append_cons_drop, if_pos hlt, k1, hcl, ← e1]
  have a1 : Elems (Rp h' T) (xs.take i) (cs.take (i * T.size)) S1 := k2.imp fun c y S' hs hy => hy.frame fun j hj => hf j (by rw [k1]; simp [hs j hj]) (fun hm => n3 j (hs j hj) j (by simp [hm]) rfl)
  have a2 : Elems (Rp h' T) (xs.drop (i + 1)) (cs.drop ((i + 1) * T.size)) S2 := k4.imp fun c y S' hs hy => hy.frame fun j hj => hf j (by rw [k1]; simp [hs j hj]) (fun hm => n6 j hm j (hs j hj) rfl)
  rw [List.append_assoc]
  refine a1.join ?_
  exact (Elems.one hx').join a2
theorem setL_same {α : Type} {cs : List α} {o n : Nat} (h : o + n ≤ cs.length) : setL cs o ((cs.drop o).take n) = cs := by
  have hl : ((cs.drop o).take n).length = n := by simp; omega
  rw [setL_eq _ _ _ (by omega), hl, List.append_assoc]
  have : (cs.drop o).take n ++ cs.drop (o + n) = cs.drop o := by rw [← List.drop_drop, List.take_append_drop]
  rw [this, List.take_append_drop]
theorem mkL_app (f : Tv → Nat → Tv) (g : Tv → Nat) : ∀ (xs ys : List Tv) (n : Nat), mkL f g (xs ++ ys) n = mkL f g xs n ++ mkL f g ys (n + (xs.map g).sum)
  | [], ys, n => by simp [mkL]
  | x :: xs, ys, n => by
    simp only [List.cons_append, mkL, mkL_app f g xs, List.map_cons, List.sum_cons]
    congr 3
    omega
theorem mkL_len (f : Tv → Nat → Tv) (g : Tv → Nat) : ∀ (xs : List Tv) (n : Nat), (mkL f g xs n).length = xs.length
  | [], n => rfl
  | x :: xs, n => by simp [mkL, mkL_len f g xs]
/-- As many marks behind as were ahead. -/
theorem sum_take {g : Tv → Nat} {xs : List Tv} {i : Nat} {x : Tv} (h : xs[i]? = some x) : ((xs.take (i + 1)).map g).sum = ((xs.take i).map g).sum + g x := by
  rw [List.take_add_one, h]
  simp
theorem sum_le {g : Tv → Nat} (xs : List Tv) (i : Nat) : ((xs.take i).map g).sum ≤ (xs.map g).sum := by
  have := List.take_append_drop i xs
  have e : (xs.map g).sum = ((xs.take i).map g).sum + ((xs.drop i).map g).sum := by
    rw [← List.sum_append, ← List.map_append, this]
  omega
/-- The list, its first i members marked. -/
def mkd (T : Ty) (xs : List Tv) (n i : Nat) : List Tv := mkL (mkE T) (cnE T) (xs.take i) n ++ xs.drop i
theorem mkd_get {T : Ty} {xs : List Tv} {n i : Nat} (hi : i < xs.length) : (mkd T xs n i)[i]? = some xs[i] := by
  unfold mkd
  have hl : (mkL (mkE T) (cnE T) (xs.take i) n).length = i := by rw [mkL_len, List.length_take]; omega
  rw [List.getElem?_append_right (by omega), hl, Nat.sub_self, List.getElem?_drop, Nat.add_zero, List.getElem?_eq_getElem hi]
theorem mkd_next {T : Ty} {xs : List Tv} {n i : Nat} (hi : i < xs.length) : (mkd T xs n i).set i (mkE T xs[i] (n + ((xs.take i).map (cnE T)).sum)) = mkd T xs n (i + 1) := by
  unfold mkd
  have hl : (mkL (mkE T) (cnE T) (xs.take i) n).length = i := by rw [mkL_len, List.length_take]; omega
  have e1 : xs.take (i + 1) = xs.take i ++ [xs[i]] := by rw [List.take_add_one, List.getElem?_eq_getElem hi]; rfl
  rw [List.set_append_right _ _ (by omega), hl, Nat.sub_self, List.drop_eq_getElem_cons hi, List.set_cons_zero, e1, mkL_app]
  simp [mkL]
theorem mkd_all {T : Ty} {xs : List Tv} {n : Nat} : mkd T xs n xs.length = mkL (mkE T) (cnE T) xs n := by simp [mkd]
theorem mkd_zero {T : Ty} {xs : List Tv} {n : Nat} : mkd T xs n 0 = xs := by simp [mkd, mkL]
theorem mkd_len {T : Ty} {xs : List Tv} {n i : Nat} : (mkd T xs n i).length = xs.length := by simp [mkd, mkL_len]; omega
theorem Wrote.refl {h : H} {S : List Nat} (ho : ∀ i ∈ S, ∃ ty cs, h[i]? = some (.own ty cs)) : Wrote h h S := ⟨rfl, fun _ _ => rfl, ho⟩
theorem Wrote.more {h h1 h2 : H} {S S' : List Nat} (h0 : Wrote h h1 S) (h' : Wrote h1 h2 S') (hs : ∀ i ∈ S', i ∈ S) : Wrote h h2 S := by
  refine ⟨h'.1.trans h0.1, fun i hi => (h'.2.1 i (fun hm => hi (hs i hm))).trans (h0.2.1 i hi), fun i hi => ?_⟩
  by_cases hm : i ∈ S'
  · exact h'.2.2 i hm
  · rw [h'.2.1 i hm]; exact h0.2.2 i hi
theorem Wrote.ownd {h h' : H} {S S' : List Nat} (hw : Wrote h h' S) (ho : Ownd h S') : Ownd h' S' := ⟨ho.1, fun i hi => by
  by_cases hm : i ∈ S
  · exact hw.2.2 i hm
  · rw [hw.2.1 i hm]; exact ho.2 i hi⟩
/-- What is elsewhere is as it was. -/
theorem Rp.wrote {h h' : H} {S S' : List Nat} {T : Ty} {cs : List C} {v : Tv} (hr : Rp h T cs v S') (hw : Wrote h h' S) (hd : ∀ i ∈ S', i ∉ S) : Rp h' T cs v S' := hr.frame fun i hi => cells_same (hw.2.1 i (hd i hi))
theorem mkE_sl {t : Ty} {v : Tv} {n : Nat} : mkT (.sl t) v n = mkE (.sl t) v n := by cases v <;> rfl
theorem cnE_sl {t : Ty} {v : Tv} : cnT (.sl t) v = cnE (.sl t) v := by cases v <;> rfl
theorem mk_sl {cd : Nat → Option AF} {g0 gE : Nat} {t : Ty} (hcd : cd g0 = some (cMkSl gE)) (hE : MkOk cd gE (.sl t)) : MkOk cd g0 (.sl (.sl t)) := by
  intro h cs v S k hv ho hk
  obtain ⟨c, xs, id, off, bs, S', rfl, rfl, hm, hl, hat, hce, hbs, hel, hS⟩ := hv.view
  have hcn : cnT (.sl (.sl t)) (.l xs) = (xs.map (cnE (.sl t))).sum := rfl
  have hmk : mkT (.sl (.sl t)) (.l xs) k = .l (mkL (mkE (.sl t)) (cnE (.sl t)) xs k) := rfl
  rw [hcn] at hk ⊢
  rw [hmk]
  have hsub : ∀ j ∈ S', j ∈ S := fun j hj => by
    rcases hS with e | ⟨_, _, e⟩
    · rw [e]; simp [hj]
    · rw [e] at hj; cases hj
  have hnd : S'.Nodup := by
    rcases hS with e | ⟨_, _, e⟩
    · have := ho.1
      rw [e] at this
      exact (List.nodup_cons.1 this).2
    · rw [e]; simp
  have hid : 0 < xs.length → id ∉ S' ∧ id ∈ S := fun hp => by
    rcases hS with e | ⟨e, _, _⟩
    · have := ho.1
      rw [e] at this
      exact ⟨(List.nodup_cons.1 this).1, by rw [e]; simp⟩
    · rw [e] at hp; simp at hp
  have hs1 : (Ty.sl t).size = 1 := rfl
  refine WS_enter hcd rfl ?_
  simp (disch := omega) only [cMkSl, SQ, SU, SL, reduceCtorEq, Nat.reduceAdd, Nat.reduceLeDiff, reduceIte]
  refine WS_loop2 (σ := Nat) (f1 := _) (by simp only [SQ, SU, SL, reduceCtorEq, Nat.reduceAdd, Nat.reduceLeDiff, reduceIte]; rfl) (fun i => [(5, .val false [.int .i64 i]), (1, .val false [.int .i64 ((k + ((xs.take i).map (cnE (.sl t))).sum : Nat) : Int)])])
    (fun i g h' => g = xs.length - i ∧ i ≤ xs.length ∧ Wrote h h' S ∧ (∀ j, j ∉ S' → h'[j]? = h[j]?) ∧ Elems (Rp h' (.sl t)) (mkd (.sl t) xs k i) ((bs.drop off).take (xs.length * (Ty.sl t).size)) S') 0 xs.length (by simp only [SQ, SU, SL, List.map_nil, List.sum_nil, reduceCtorEq, Nat.reduceAdd, Nat.reduceLeDiff, reduceIte]; rfl)
    ⟨by omega, by omega, Wrote.refl ho.2, fun _ _ => rfl, by rw [mkd_zero]; exact hel⟩ ?_
  rintro i g h' ⟨hg, hi, hw, hsame, he⟩
  simp (disch := omega) only [cMkSl, hl, w64, SQ, SU, SL, reduceCtorEq, Nat.reduceAdd, Nat.reduceLeDiff, reduceIte]
  refine BR_dec (fun hlt => ?_) (fun hlt => ?_)
  · have hix : i < xs.length := by omega
    have hsi := sum_take (g := cnE (.sl t)) (List.getElem?_eq_getElem hix)
    have hsl := sum_le (g := cnE (.sl t)) xs (i + 1)
    obtain ⟨Si, k1, k2, k3, k4⟩ := he.turn hnd (mkd_get hix)
    rw [part_part hix] at k1
    have hcell : h'.cells id = some bs := by
      rw [cells_same (hsame id (hid (by omega)).1)]
      exact (hce (by omega)).1
    rw [hs1, Nat.mul_one] at k1
    have hat' := hat i hix
    rw [hs1, Nat.mul_one] at hat'
    have hbs' : off + xs.length ≤ bs.length := by rw [hs1, Nat.mul_one] at hbs; exact hbs
    simp (disch := omega) only [cMkSl, hl, hat', hcell, ifT, w64, SQ, SU, SL, reduceCtorEq, Nat.reduceAdd, Nat.reduceLeDiff, reduceIte]
    refine WC_call (hE k1 ⟨k3, fun j hj => (hw.ownd ho).2 j (hsub j (k2 j hj))⟩ (by rw [cnE_sl]; omega)) ?_
    rintro r h'' ⟨rfl, hw2, hr2⟩
    simp (disch := omega) only [KC_eq, w64, cnE_sl, SQ, SU, SL, reduceCtorEq, Nat.reduceAdd, Nat.reduceLeDiff, reduceIte]
    refine ⟨i + 1, xs.length - (i + 1), by omega, ?_, rfl, by omega, hw.more hw2 (fun j hj => hsub j (k2 j hj)), fun j hj => ?_, ?_⟩
    · have e1 : k + ((xs.take (i + 1)).map (cnE (.sl t))).sum = k + ((xs.take i).map (cnE (.sl t))).sum + cnE (.sl t) xs[i] := by omega
      rw [e1]
      rfl
    · rw [hw2.2.1 j (fun hm => hj (k2 j hm))]
      exact hsame j hj
    · rw [mkE_sl] at hr2
      have k5 := k4 h'' _ _ (fun j hj hn => cells_same (hw2.2.1 j hn)) hr2
      rw [mkd_next hix] at k5
      have e2 : setL ((bs.drop off).take (xs.length * (Ty.sl t).size)) (i * (Ty.sl t).size) ((bs.drop (off + i)).take 1) = (bs.drop off).take (xs.length * (Ty.sl t).size) := by
        have e3 : (bs.drop (off + i)).take 1 = (((bs.drop off).take (xs.length * (Ty.sl t).size)).drop (i * (Ty.sl t).size)).take (Ty.sl t).size := by
          rw [part_part hix, hs1, Nat.mul_one]
        rw [e3]
        refine setL_same ?_
        rw [hs1]
        simp
        omega
      rw [e2] at k5
      simpa only [hs1, Nat.mul_one] using k5
  · simp (disch := omega) only [cMkSl, SQ, SU, SL, reduceCtorEq, Nat.reduceAdd, Nat.reduceLeDiff, reduceIte]
    have hi' : i = xs.length := by omega
    subst hi'
    rw [mkd_all] at he
    rw [List.take_length]
    refine ⟨rfl, hw, ?_⟩
    by_cases hp : 0 < xs.length
    · refine ⟨_, rfl, ?_, .inr ⟨id, off, bs, S', (Ty.sl t).size, ?_, ?_, ?_, ?_, ?_, .inl rfl⟩⟩
      · rw [mkL_len]; simp only [maxLen]; omega
      · rw [mkL_len]; rw [(hce hp).2]
      · rw [cells_same (hsame id (hid hp).1)]; exact (hce hp).1
      · rw [mkL_len]; exact hbs
      · rcases hS with e | ⟨e, _⟩
        · exact e
        · rw [e] at hp; simp at hp
      · rw [mkL_len]; exact he
    · have hx : xs = [] := List.eq_nil_of_length_eq_zero (by omega)
      subst hx
      refine ⟨[], rfl, by simp, ?_⟩
      obtain ⟨zs, e1, _, e2⟩ := hv.sl
      simp at e1
      subst e1
      rcases e2 with e2 | ⟨id2, off2, bs2, S2, e3, f1, f2, f3, f4, f5, f6⟩
      · exact .inl e2
      · have hS2 : S2 = [] := by simp [Elems] at f5; exact f5
        refine .inr ⟨id2, off2, bs2, S2, e3, f1, ?_, f3, f4, by simp [Elems]; exact hS2, .inr rfl⟩
        have hid2 : id2 ∉ S' := fun hm => by
          rcases hS with e | ⟨_, e, _⟩
          · rw [f4, hS2] at e
            have : S' = [] := ((List.cons.inj e).2).symm
            rw [this] at hm; cases hm
          · rw [f4] at e; cases e
        rw [cells_same (hsame id2 hid2)]
        exact f2
theorem hd_sl {cd : Nat → Option AF} {g0 gE : Nat} {t : Ty} (hcd : cd g0 = some (cHdSl gE)) (hE : HdOk cd gE (.sl t)) : HdOk cd g0 (.sl (.sl t)) := by
  intro h cs v S k hT hv hk
  by_cases hsl : ∃ xs, v = .l xs
  case neg =>
    obtain ⟨xs, e, _⟩ := hv.sl
    cases v <;> simp [mkT] at e
    exact absurd ⟨_, rfl⟩ hsl
  obtain ⟨zs, rfl⟩ := hsl
  have hTe : ∀ i (hi : i < zs.length), Tvd (.sl t) zs[i] := fun i hi => by
    obtain ⟨h0, cs0, S0, hT⟩ := hT
    obtain ⟨_, ys, _, _, _, _, _, e, _, _, _, _, _, hel0, _⟩ := hT.view
    simp at e
    subst e
    obtain ⟨Si, hx⟩ := hel0.at hi
    exact ⟨_, _, _, hx⟩
  obtain ⟨c, xs, id, off, bs, S', rfl, hxs, hm, hl, hat, hce, hbs, hel, hS⟩ := hv.view
  have hcn : cnT (.sl (.sl t)) (.l zs) = (zs.map (cnE (.sl t))).sum := rfl
  rw [hcn] at hk ⊢
  have hxs' : xs = mkL (mkE (.sl t)) (cnE (.sl t)) zs k := by
    have e : mkT (.sl (.sl t)) (.l zs) k = .l (mkL (mkE (.sl t)) (cnE (.sl t)) zs k) := rfl
    rw [e] at hxs
    exact (by simpa using hxs.symm)
  have hlen : xs.length = zs.length := by rw [hxs', mkL_len]
  have hs1 : (Ty.sl t).size = 1 := rfl
  refine WS_enter hcd rfl ?_
  simp (disch := omega) only [cHdSl, SQ, SU, SL, reduceCtorEq, Nat.reduceAdd, Nat.reduceLeDiff, reduceIte]
  refine WS_loop2 (σ := Nat) (f1 := _) (by simp only [SQ, SU, SL, reduceCtorEq, Nat.reduceAdd, Nat.reduceLeDiff, reduceIte]; rfl) (fun i => [(5, .val false [.int .i64 i]), (1, .val false [.int .i64 ((k + ((zs.take i).map (cnE (.sl t))).sum : Nat) : Int)])])
    (fun i g h' => g = xs.length - i ∧ i ≤ xs.length ∧ h' = h) 0 xs.length (by simp only [SQ, SU, SL, List.map_nil, List.sum_nil, reduceCtorEq, Nat.reduceAdd, Nat.reduceLeDiff, reduceIte]; rfl) ⟨by omega, by omega, rfl⟩ ?_
  rintro i g h' ⟨hg, hi, rfl⟩
  simp (disch := omega) only [cHdSl, hl, w64, SQ, SU, SL, reduceCtorEq, Nat.reduceAdd, Nat.reduceLeDiff, reduceIte]
  refine BR_dec (fun hlt => ?_) (fun hlt => ?_)
  · have hix : i < xs.length := by omega
    have hiz : i < zs.length := by omega
    have hsi := sum_take (g := cnE (.sl t)) (List.getElem?_eq_getElem hiz)
    have hsl := sum_le (g := cnE (.sl t)) zs (i + 1)
    obtain ⟨Si, k1⟩ := hel.at hix
    have hxi : xs[i] = mkT (.sl t) zs[i] (k + ((zs.take i).map (cnE (.sl t))).sum) := by
      rw [mkE_sl]
      have e1 : xs[i]? = some (mkE (.sl t) zs[i] (k + ((zs.take i).map (cnE (.sl t))).sum)) := by
        rw [hxs']
        have e2 : zs = zs.take i ++ zs[i] :: zs.drop (i + 1) := by rw [← List.drop_eq_getElem_cons hiz, List.take_append_drop]
        conv => lhs; rw [e2, mkL_app, mkL]
        have hl2 : (mkL (mkE (.sl t)) (cnE (.sl t)) (zs.take i) k).length = i := by rw [mkL_len, List.length_take]; omega
        rw [List.getElem?_append_right (by omega), hl2, Nat.sub_self, List.getElem?_cons_zero]
      rw [List.getElem?_eq_getElem hix] at e1
      simpa using e1
    rw [hxi] at k1
    rw [hs1, Nat.mul_one] at k1
    have hat' := hat i hix
    rw [hs1, Nat.mul_one] at hat'
    have hbs' : off + xs.length ≤ bs.length := by rw [hs1, Nat.mul_one] at hbs; exact hbs
    simp (disch := omega) only [cHdSl, hl, hat', (hce (by omega)).1, ifT, w64, SQ, SU, SL, reduceCtorEq, Nat.reduceAdd, Nat.reduceLeDiff, reduceIte]
    refine WC_call (hE (hTe i hiz) k1 (by rw [cnE_sl]; omega)) ?_
    rintro r h'' ⟨rfl, rfl⟩
    simp (disch := omega) only [KC_eq, w64, cnE_sl, SQ, SU, SL, reduceCtorEq, Nat.reduceAdd, Nat.reduceLeDiff, reduceIte]
    refine BR_dec (fun hn => ?_) (fun hn => ?_)
    · omega
    · simp (disch := omega) only [w64, SQ, SU, SL, reduceCtorEq, Nat.reduceAdd, Nat.reduceLeDiff, reduceIte]
      refine ⟨i + 1, xs.length - (i + 1), by omega, ?_, rfl, by omega⟩
      have e1 : k + ((zs.take (i + 1)).map (cnE (.sl t))).sum = k + ((zs.take i).map (cnE (.sl t))).sum + cnE (.sl t) zs[i] := by omega
      rw [e1]
      rfl
  · simp (disch := omega) only [cHdSl, SQ, SU, SL, reduceCtorEq, Nat.reduceAdd, Nat.reduceLeDiff, reduceIte]
    have : i = zs.length := by omega
    rw [this, List.take_length]
/-! ### A call by what it answers -/
theorem SzOk.go {cd : Nat → Option AF} {g : Nat} {T : Ty} (hE : SzOk cd g T) {h : H} {cs : List C} {v : Tv} {S : List Nat} (hv : Rp h T cs v S) {k : Nat} (hk : k ≤ 1048576) {K : V → H → Prop}
    (h1 : wt v ≤ k → K (.val false [.int .i64 ((k - wt v : Nat) : Int)]) h) (h2 : ¬ wt v ≤ k → K (.val false [.int .i64 (-1)]) h) : WC cd g [(T.agg, cs), (false, [.int .i64 k])] h K := by
  refine WC_call (hE hv hk) ?_
  rintro r h' ⟨rfl, rfl⟩
  by_cases hf : wt v ≤ k
  · rw [if_pos hf]
    have : (k : Int) - wt v = ((k - wt v : Nat) : Int) := by omega
    rw [this]
    exact h1 hf
  · rw [if_neg hf]; exact h2 hf
theorem EqOk.go {cd : Nat → Option AF} {g : Nat} {T : Ty} (hE : EqOk cd g T) {h : H} {ca cb : List C} {va vb : Tv} {Sa Sb : List Nat} (ha : Rp h T ca va Sa) (hb : Rp h T cb vb Sb) {K : V → H → Prop}
    (h1 : va = vb → K (.val false [.bool true]) h) (h2 : ¬ va = vb → K (.val false [.bool false]) h) : WC cd g [(T.agg, ca), (T.agg, cb)] h K := by
  refine WC_call (hE ha hb) ?_
  rintro r h' ⟨rfl, rfl⟩
  by_cases hf : va = vb
  · simp only [hf, decide_true]; exact h1 hf
  · simp only [hf, decide_false]; exact h2 hf
/-! ### A struct's parts put together -/
theorem Rs.nil {h : H} : Rs h [] [] [] [] := ⟨rfl, rfl, rfl⟩
theorem Rs.mk {h : H} {t : Ty} {ts : List Ty} {c1 c2 : List C} {v : Tv} {vr : List Tv} {S1 S2 : List Nat} (h1 : Rp h t c1 v S1) (h2 : Rs h ts c2 vr S2) : Rs h (t :: ts) (c1 ++ c2) (v :: vr) (S1 ++ S2) := ⟨c1, c2, v, vr, S1, S2, rfl, rfl, rfl, h1, h2⟩
theorem Rp.mkInt {h : H} {k : IntKind} {n : Int} (h1 : k.min ≤ n) (h2 : n ≤ k.max) : Rp h (.int k) [.int k n] (.i n) [] := ⟨n, rfl, rfl, rfl, h1, h2⟩
/-- New and one's own, laid since h0. -/
def Fre (h0 h1 : H) (S : List Nat) : Prop := Ownd h1 S ∧ h0.length ≤ h1.length ∧ ∀ i ∈ S, h0.length ≤ i ∧ i < h1.length
theorem Fre.nil (h : H) : Fre h h [] := ⟨⟨by simp, by simp⟩, Nat.le_refl _, by simp⟩
theorem Fre.step {h0 h1 t : H} {S1 S2 : List Nat} (h : Fre h0 h1 S1) (hl : ∀ i ∈ S2, i < (h1 ++ t).length) (ho : Ownd (h1 ++ t) S2) (hg : ∀ i ∈ S2, h1.length ≤ i) : Fre h0 (h1 ++ t) (S1 ++ S2) := by
  refine ⟨⟨List.nodup_append.2 ⟨h.1.1, ho.1, fun a ha b hb e => ?_⟩, fun i hi => ?_⟩, by have := h.2.1; simp; omega, fun i hi => ?_⟩
  · have h1 := (h.2.2 a ha).2
    have h2 := hg b hb
    omega
  · rcases List.mem_append.1 hi with hi | hi
    · exact (h.1.app (t := t)).2 i hi
    · exact ho.2 i hi
  · rcases List.mem_append.1 hi with hi | hi
    · have := h.2.2 i hi
      simp
      omega
    · have := h.2.1
      have := hg i hi
      exact ⟨by omega, hl i hi⟩
theorem Fre.both {h0 h1 : H} {S : List Nat} (h : Fre h0 h1 S) : Ownd h1 S ∧ ∀ i ∈ S, h0.length ≤ i := ⟨h.1, fun i hi => (h.2.2 i hi).1⟩
theorem MkOk.go {cd : Nat → Option AF} {g : Nat} {T : Ty} (hE : MkOk cd g T) {h : H} {cs : List C} {v : Tv} {S : List Nat} {k : Nat} (hv : Rp h T cs v S) (ho : Ownd h S) (hk : k + cnT T v ≤ 1152921504606846976) {K : V → H → Prop}
    (h1 : ∀ h', Wrote h h' S → Rp h' T cs (mkT T v k) S → K (.val false [.int .i64 ((k + cnT T v : Nat) : Int)]) h') : WC cd g [(T.agg, cs), (false, [.int .i64 k])] h K := by
  refine WC_call (hE hv ho hk) ?_
  rintro r h' ⟨rfl, a, b⟩
  exact h1 h' a b
theorem HdOk.go {cd : Nat → Option AF} {g : Nat} {T : Ty} (hE : HdOk cd g T) {h : H} {cs : List C} {v : Tv} {S : List Nat} {k : Nat} (hT : Tvd T v) (hv : Rp h T cs (mkT T v k) S) (hk : k + cnT T v ≤ 1152921504606846976) {K : V → H → Prop}
    (h1 : K (.val false [.int .i64 ((k + cnT T v : Nat) : Int)]) h) : WC cd g [(T.agg, cs), (false, [.int .i64 k])] h K := by
  refine WC_call (hE hT hv hk) ?_
  rintro r h' ⟨rfl, rfl⟩
  exact h1
theorem Ownd.split {h : H} {A B : List Nat} (ho : Ownd h (A ++ B)) : Ownd h A ∧ Ownd h B ∧ (∀ i ∈ A, i ∉ B) ∧ ∀ i ∈ B, i ∉ A := by
  obtain ⟨h1, h2⟩ := ho
  rw [List.nodup_append] at h1
  exact ⟨⟨h1.1, fun i hi => h2 i (by simp [hi])⟩, ⟨h1.2.1, fun i hi => h2 i (by simp [hi])⟩, fun i hi hn => h1.2.2 i hi i hn rfl, fun i hi hn => h1.2.2 i hn i hi rfl⟩
theorem Rs.unstep {h : H} {t : Ty} {ts : List Ty} {cs : List C} {o : Nat} {v : Tv} {vr : List Tv} {S1 S2 : List Nat} (h1 : Rp h t ((cs.drop o).take t.size) v S1) (h2 : Rs h ts (cs.drop (o + t.size)) vr S2) : Rs h (t :: ts) (cs.drop o) (v :: vr) (S1 ++ S2) := by
  refine ⟨_, _, v, vr, S1, S2, ?_, rfl, rfl, h1, h2⟩
  rw [← List.drop_drop, List.take_append_drop]
theorem Rs.fin {h : H} {cs : List C} {o : Nat} (e : cs.length ≤ o) : Rs h [] (cs.drop o) [] [] := ⟨List.drop_eq_nil_of_le e, rfl, rfl⟩
theorem Rp.int_at {h : H} {k : IntKind} {cs : List C} {n : Int} (e : cs = [.int k n]) (h1 : k.min ≤ n) (h2 : n ≤ k.max) : Rp h (.int k) cs (.i n) [] := by subst e; exact Rp.mkInt h1 h2
theorem Rp.cs_at {h : H} {t : Ty} {cs ds : List C} {v : Tv} {S : List Nat} (e : cs = ds) (hr : Rp h t ds v S) : Rp h t cs v S := by subst e; exact hr
/-! ### Slices of structs, their members marked in place -/
theorem Rp.set {h : H} {id : Nat} {b : Blk} {T : Ty} {cs : List C} {v : Tv} {S : List Nat} (hr : Rp h T cs v S) (hn : id ∉ S) : Rp (h.set id b) T cs v S := hr.frame fun i hi => cells_same (set_get_ne (fun e => hn (e ▸ hi)))
theorem Ownd.set {h : H} {id ty : Nat} {cs : List C} {S : List Nat} (ho : Ownd h S) (hl : id < h.length) : Ownd (h.set id (.own ty cs)) S := ⟨ho.1, fun i hi => by
  by_cases e : i = id
  · subst e; exact ⟨ty, cs, set_get hl⟩
  · rw [set_get_ne e]; exact ho.2 i hi⟩
theorem Wrote.set {h h' : H} {id ty : Nat} {cs : List C} {S : List Nat} (hw : Wrote h h' S) (hi : id ∈ S) (hl : id < h'.length) : Wrote h (h'.set id (.own ty cs)) S := by
  refine ⟨by rw [List.length_set]; exact hw.1, fun i hn => ?_, fun i hm => ?_⟩
  · rw [set_get_ne (fun e => hn (by rw [e]; exact hi))]; exact hw.2.1 i hn
  · by_cases e : i = id
    · subst e; exact ⟨ty, cs, set_get hl⟩
    · rw [set_get_ne e]; exact hw.2.2 i hm
theorem pre_get (pre l : List C) (j n : Nat) : ((pre ++ l).drop (pre.length + j)).take n = (l.drop j).take n := by
  rw [List.drop_append, List.drop_eq_nil_of_le (by omega)]
  simp
theorem pre_get0 (pre l : List C) (n : Nat) : ((pre ++ l).drop pre.length).take n = l.take n := by simp
theorem pre_set (pre l : List C) (j : Nat) (x : C) : (pre ++ l).set (pre.length + j) x = pre ++ l.set j x := by
  rw [List.set_append_right _ _ (by omega)]
  simp
theorem pre_set0 (pre l : List C) (x : C) : (pre ++ l).set pre.length x = pre ++ l.set 0 x := by
  rw [List.set_append_right _ _ (by omega)]
  simp
/-- The block around an element. -/
theorem around {bs l : List C} {o e : Nat} (hx : (bs.drop o).take e = l) (hl : o + e ≤ bs.length) : ∃ pre post, pre.length = o ∧ bs = pre ++ (l ++ post) :=
  ⟨bs.take o, bs.drop (o + e), by simp; omega, by rw [← hx, ← List.drop_drop, List.take_append_drop, List.take_append_drop]⟩
theorem turned {pre l l' post : List C} {off a m : Nat} (hp : pre.length = off + a) (hl : l'.length = l.length) (ha : a + l.length ≤ m) : ((pre ++ (l' ++ post)).drop off).take m = setL (((pre ++ (l ++ post)).drop off).take m) a l' := by
  have hd : ∀ z : List C, (pre ++ z).drop off = pre.drop off ++ z := fun z => by rw [List.drop_append]; simp [show off - pre.length = 0 by omega]
  have hpl : (pre.drop off).length = a := by simp; omega
  rw [hd, hd]
  by_cases hm : a + l.length ≤ (pre.drop off ++ (l ++ post)).length ∧ True
  · rw [setL_eq _ _ _ (by simp only [List.length_take, List.length_append, hpl, hl]; omega)]
    rw [List.take_take, Nat.min_eq_left (by omega)]
    have e1 : (pre.drop off ++ (l ++ post)).take a = pre.drop off := by rw [← hpl, List.take_left]
    rw [e1, hl]
    have e2 : ((pre.drop off ++ (l ++ post)).take m).drop (a + l.length) = post.take (m - (a + l.length)) := by
      rw [List.drop_take]
      have : (pre.drop off ++ (l ++ post)).drop (a + l.length) = post := by
        rw [← List.append_assoc]
        have : a + l.length = (pre.drop off ++ l).length := by simp only [List.length_append, hpl]
        rw [this, List.drop_left]
      rw [this]
    rw [e2]
    have e3 : a + l.length = (pre.drop off ++ l').length := by simp only [List.length_append, hpl, hl]
    rw [← List.append_assoc, List.take_append]
    rw [List.take_of_length_le (by rw [← e3]; exact ha), ← e3]
  · exact absurd ⟨by simp only [List.length_append, hpl]; omega, trivial⟩ hm
theorem cast1 (n : Nat) : ((n : Int) + 1) = ((n + 1 : Nat) : Int) := rfl
theorem Rp.mkNat {h : H} {n : Nat} (hn : n < 9223372036854775808) : Rp h (.int .i64) [.int .i64 (n : Int)] (.i (IntKind.i64.wrap (n : Int))) [] := by
  rw [w64 (by omega) (by omega)]
  refine ⟨_, rfl, rfl, rfl, ?_, ?_⟩
  · have : IntKind.i64.min = -9223372036854775808 := by decide
    omega
  · have : IntKind.i64.max = 9223372036854775807 := by decide
    omega
theorem Rp.mkSt {h : H} {ts : List Ty} {cs : List C} {vs : List Tv} {S : List Nat} (hr : Rs h ts cs vs S) : Rp h (.st ts) cs (.r vs) S := ⟨vs, rfl, hr⟩
theorem pre_get2 (pre l : List C) (a b n : Nat) : ((pre ++ l).drop (pre.length + a + b)).take n = (l.drop (a + b)).take n := by rw [Nat.add_assoc, pre_get]
theorem pre_set2 (pre l : List C) (a b : Nat) (x : C) : (pre ++ l).set (pre.length + a + b) x = pre ++ l.set (a + b) x := by rw [Nat.add_assoc, pre_set]
theorem pre_get3 (pre l : List C) (a b c n : Nat) : ((pre ++ l).drop (pre.length + a + b + c)).take n = (l.drop (a + b + c)).take n := by rw [Nat.add_assoc, Nat.add_assoc, pre_get, Nat.add_assoc]
theorem pre_set3 (pre l : List C) (a b c : Nat) (x : C) : (pre ++ l).set (pre.length + a + b + c) x = pre ++ l.set (a + b + c) x := by rw [Nat.add_assoc, Nat.add_assoc, pre_set, Nat.add_assoc]
/-! ### Copies by append -/
theorem Rp.src {h : H} {t : Ty} {c : C} {v : Tv} {S : List Nat} (hr : Rp h (.sl t) [c] v S) :
    ∃ xs cells S', v = .l xs ∧ xs.length ≤ 9223372036854775807 ∧ srcC h t.size c = some (cells, xs.length) ∧ Elems (Rp h t) xs cells S' ∧ ∀ i ∈ S', i ∈ S := by
  obtain ⟨xs, h1, hm, hc⟩ := hr.sl
  rcases hc with ⟨rfl, h2, h3⟩ | ⟨id, off, bs, S', e0, h2, h3, h4, h5, h6, he0⟩
  · refine ⟨[], [], [], h1, by simp, ?_, ⟨rfl, rfl⟩, by simp⟩
    rcases h3 with h3 | h3 <;> simp at h3 <;> subst h3 <;> rfl
  · simp at h2
    subst h2
    have hle : xs.length * e0 = xs.length * t.size := by rcases he0 with rfl | rfl <;> simp
    refine ⟨xs, _, S', h1, hm, ?_, h6, fun i hi => by rw [h5]; simp [hi]⟩
    have hc2 : e0 = t.size ∨ xs.length = 0 := he0.imp (fun e => e) (fun e => by rw [e]; rfl)
    simp only [srcC, if_pos hc2, H.slice, h3, hle, if_pos h4]
def cCpLeaf (ty by_ : Nat) : AF := ⟨1, 3, [.tmp 2], (.seq (.ops [.i (.mov 2 (.c (.val false [.nils])))]) (.seq (.ops [.i (.bse 3), .i (.mov 4 (.s 0)), .i (.app 5 ty 1 by_ (.s 3) (.s 4)), .i (.mov 2 (.s 5))]) .ret))⟩
theorem cp_leaf {cd : Nat → Option AF} {g ty by_ : Nat} {kk : IntKind} (hcd : cd g = some (cCpLeaf ty by_)) (hby : by_ ≤ 8) : ToOk cd g (.sl (.int kk)) := by
  intro h cs v S hv hw
  obtain ⟨c, rfl⟩ := hv.one rfl
  obtain ⟨xs, cells, S', rfl, hm, hsrc, hel, hsub⟩ := hv.src
  have hn : xs.length ≤ 1048576 := by simp only [wt] at hw; omega
  have hroom : inRoom (xs.length * by_ + xs.length) = true := room_of (by have := Nat.mul_le_mul hn hby; omega)
  have hs1 : (Ty.int kk).size = 1 := rfl
  rw [hs1] at hsrc
  refine WS_enter hcd rfl ?_
  by_cases h0 : xs.length = 0
  · simp (disch := omega) only [cCpLeaf, srcOf, hsrc, h0, SQ, SU, SL, reduceCtorEq, Nat.reduceAdd, Nat.reduceLeDiff, reduceIte]
    have hx : xs = [] := List.eq_nil_of_length_eq_zero h0
    subst hx
    exact ⟨[], [.emp], [], by simp, rfl, ⟨[], rfl, by simp, .inl ⟨rfl, rfl, .inr rfl⟩⟩, ⟨by simp, by simp⟩, by simp⟩
  · simp (disch := omega) only [cCpLeaf, srcOf, hsrc, h0, hroom, SQ, SU, SL, reduceCtorEq, Nat.reduceAdd, Nat.reduceLeDiff, reduceIte]
    have e2 := (wts_int hel).2
    subst e2
    have hcl := hel.len Rp.size'
    rw [hs1, Nat.mul_one] at hcl
    refine ⟨_, [.sl h.length 0 xs.length 1], [h.length], rfl, rfl, ?_, ⟨by simp, fun j hj => ?_⟩, fun j hj => ?_⟩
    · refine ⟨xs, rfl, by simp only [maxLen]; omega, .inr ⟨h.length, 0, _, [], 1, rfl, cells_own (get_last h _ []), by simp [Ty.size, hcl], rfl, ?_, .inl rfl⟩⟩
      have e1 : (cells.drop 0).take (xs.length * (Ty.int kk).size) = cells := by simp [Ty.size, ← hcl]
      rw [e1]
      exact hel.imp fun c x S' _ hx => hx.app
    · simp at hj
      subst hj
      exact ⟨_, _, get_last h _ []⟩
    · simp at hj; omega
def cCpSl (ty by_ gE : Nat) : AF := ⟨1, 5, [.tmp 2], (.seq (.ops [.i (.mov 2 (.c (.val false [.nils])))]) (.seq (.ops [.i (.bse 6), .i (.mov 3 (.s 6))]) (.seq (.seq (.ops [.i (.mov 7 (.s 0)), .i (.len 8 false (.s 7)), .i (.mov 9 (.c (.val false [.int .i64 0])))]) (.block 0 (.loop [18, 17, 16, 15, 14, 13, 12, 11, 10, 5] (.seq (.ops [.i (.bin 10 .lss (.s 9) (.s 8))]) (.seq (.cond (.s 10) .skip (.exit 0)) (.seq (.block 1 (.seq (.ops [.i (.iad 11 (.s 7) (.s 9) 1), .i (.ldh 12 (.s 11) 1 false), .i (.mov 5 (.s 12))]) (.ops [.i (.mov 13 (.s 3)), .i (.mov 14 (.s 5)), .i (.call 16 gE false [(.s 14)]), .i (.lsl 16 1 1 [.nils] [(0, 1, (.s 15))]), .i (.app 17 ty 1 by_ (.s 13) (.s 16)), .i (.mov 3 (.s 17))]))) (.ops [.i (.bin 18 .add (.s 9) (.c (.val false [.int .i64 1]))), .i (.mov 9 (.s 18))]))))))) (.seq (.ops [.i (.mov 19 (.s 3)), .i (.mov 2 (.s 19))]) .ret))))⟩
theorem Ownd.setNot {h : H} {id : Nat} {b : Blk} {S : List Nat} (ho : Ownd h S) (hn : id ∉ S) : Ownd (h.set id b) S := ⟨ho.1, fun i hi => by
  rw [set_get_ne (fun e => hn (by rw [← e]; exact hi))]
  exact ho.2 i hi⟩
theorem cp_sl {cd : Nat → Option AF} {g gE ty by_ : Nat} {t0 : Ty} (hcd : cd g = some (cCpSl ty by_ gE)) (hby : by_ ≤ 4096) (hE : ToOk cd gE (.sl t0)) : ToOk cd g (.sl (.sl t0)) := by
  intro h cs v S hv hw
  obtain ⟨c, xs, id, off, bs, S', rfl, rfl, hm, hl, hat, hce, hbs, hel, hS⟩ := hv.view
  have hwx : xs.length + wts xs ≤ 1048576 := by simp only [wt] at hw; omega
  have hs1 : (Ty.sl t0).size = 1 := rfl
  refine WS_enter hcd rfl ?_
  simp (disch := omega) only [cCpSl, hl, w64, SQ, SU, SL, reduceCtorEq, Nat.reduceAdd, Nat.reduceLeDiff, reduceIte]
  refine WS_loop2 (σ := Nat × C) (f1 := _) (by simp only [SQ, SU, SL, reduceCtorEq, Nat.reduceAdd, Nat.reduceLeDiff, reduceIte]; rfl) (fun s => [(9, .val false [.int .i64 s.1]), (3, .val false [s.2])])
    (fun s g h' => g = xs.length - s.1 ∧ s.1 ≤ xs.length ∧ ∃ t D Sd, h' = h ++ t ∧ Elems (Rp h' (.sl t0)) (xs.take s.1) D Sd ∧ Ownd h' Sd ∧ (∀ j ∈ Sd, h.length ≤ j) ∧
      ((s.1 = 0 ∧ s.2 = .emp ∧ D = [] ∧ Sd = []) ∨ (0 < s.1 ∧ ∃ q, s.2 = .sl q 0 s.1 1 ∧ h.length ≤ q ∧ h'[q]? = some (.own ty D) ∧ q ∉ Sd))) (0, .emp) xs.length (by simp only [SQ, SU, SL, reduceCtorEq, Nat.reduceAdd, Nat.reduceLeDiff, reduceIte]; rfl)
    ⟨by omega, by omega, [], [], [], by simp, by simp [Elems], ⟨by simp, by simp⟩, by simp, .inl ⟨rfl, rfl, rfl, rfl⟩⟩ ?_
  rintro ⟨i, c3⟩ g h' ⟨hg, hi, t, D, Sd, rfl, hD, hO, hlo, hcase⟩
  simp only at hg hi hD hcase
  have hDl : D.length = i := by
    have := hD.len Rp.size'
    rw [List.length_take, Nat.min_eq_left hi, hs1, Nat.mul_one] at this
    exact this
  simp (disch := omega) only [cCpSl, hl, w64, SQ, SU, SL, reduceCtorEq, Nat.reduceAdd, Nat.reduceLeDiff, reduceIte]
  refine BR_dec (fun hlt => ?_) (fun hlt => ?_)
  · have hix : i < xs.length := by omega
    obtain ⟨Si, hx⟩ := hel.at hix
    have hcells := cells_more (hce (by omega)).1
    rw [hs1, Nat.mul_one] at hx
    have hat' := hat i hix
    rw [hs1, Nat.mul_one] at hat'
    have hb2 : off + i + 1 ≤ bs.length := by rw [hs1, Nat.mul_one] at hbs; omega
    simp (disch := omega) only [cCpSl, hl, hat', hcells, ifT, w64, SQ, SU, SL, reduceCtorEq, Nat.reduceAdd, Nat.reduceLeDiff, reduceIte]
    have hwt := wts_take (List.getElem?_eq_getElem hix)
    have hwl := wts_le xs (i + 1)
    refine WC_call (hE (hx.app (t := t)) (by omega)) ?_
    rintro r h'' ⟨t', cs', S2, rfl, rfl, hr, hO2, hlo2⟩
    obtain ⟨y, rfl⟩ := hr.one rfl
    have hroom : inRoom ((i + 1) * by_ + (i + 1)) = true := room_of (by have := Nat.mul_le_mul (show i + 1 ≤ 1048576 by omega) hby; omega)
    have hlen0 : h.length ≤ (h ++ t).length := by simp
    have hlo2' : ∀ j ∈ S2, h.length ≤ j := fun j hj => Nat.le_trans hlen0 (hlo2 j hj)
    have hjoin : ∀ h3 : H, (∀ j ∈ Sd ++ S2, h3.cells j = H.cells (h ++ t ++ t') j) → Elems (Rp h3 (.sl t0)) (xs.take (i + 1)) (D ++ [y]) (Sd ++ S2) := fun h3 hf => by
      have e1 : xs.take (i + 1) = xs.take i ++ [xs[i]] := by rw [List.take_add_one, List.getElem?_eq_getElem hix]; rfl
      rw [e1]
      refine (hD.imp fun c x S' hs hx => ?_).join (Elems.one ?_)
      · exact (hx.app (t := t')).frame fun j hj => hf j (by simp [hs j hj])
      · exact hr.frame fun j hj => hf j (by simp [hj])
    have hnd : (Sd ++ S2).Nodup := by
      rw [List.nodup_append]
      refine ⟨hO.1, hO2.1, fun a ha b hb e => ?_⟩
      have h1 := hD.lt a ha
      have h2 := hlo2 b hb
      omega
    have hown : Ownd (h ++ t ++ t') (Sd ++ S2) := ⟨hnd, fun j hj => by
      rcases List.mem_append.1 hj with hj | hj
      · exact (hO.app (t := t')).2 j hj
      · exact hO2.2 j hj⟩
    have hlt2 : ∀ j ∈ Sd ++ S2, j < (h ++ t ++ t').length := fun j hj => by
      rcases List.mem_append.1 hj with hj | hj
      · have := hD.lt j hj
        simp at this ⊢
        omega
      · exact hr.lt j hj
    have hlo3 : ∀ j ∈ Sd ++ S2, h.length ≤ j := fun j hj => by
      rcases List.mem_append.1 hj with hj | hj
      · exact hlo j hj
      · exact hlo2' j hj
    rcases hcase with ⟨rfl, rfl, rfl, rfl⟩ | ⟨hp, q, rfl, hq1, hq2, hq3⟩
    · have hroom1 : inRoom (1 * by_ + 1) = true := by simpa using hroom
      simp (disch := omega) only [KC_eq, cCpSl, srcOf, SQ, SU, SL, List.replicate_succ, List.replicate_zero, List.flatten_cons, List.flatten_nil, List.append_nil, List.cons_append, List.nil_append, hroom1, ifT, w64, reduceCtorEq, Nat.reduceAdd, Nat.reduceLeDiff, reduceIte]
      refine ⟨(1, .sl (h ++ t ++ t').length 0 1 1), xs.length - 1, by omega, rfl, rfl, by omega, t ++ t' ++ [.own ty [y]], [y], S2, by simp, ?_, ?_, hlo2', .inr ⟨by omega, _, rfl, by simp <;> omega, ?_, ?_⟩⟩
      · have := hjoin (h ++ t ++ t' ++ [.own ty [y]]) (fun j hj => cells_app (hlt2 j hj))
        simpa using this
      · exact hO2.app
      · exact get_last (h ++ t ++ t') _ []
      · intro hm
        have := hr.lt _ hm
        omega
    · have hqlt : q < (h ++ t).length := (List.getElem?_eq_some_iff.1 hq2).1
      have hq4 : (h ++ t ++ t')[q]? = some (.own ty D) := by rw [List.getElem?_append_left hqlt]; exact hq2
      have hq5 : q ∉ Sd ++ S2 := fun hm => by
        rcases List.mem_append.1 hm with hm | hm
        · exact hq3 hm
        · have := hlo2 q hm; omega
      have hD1 : D.length = i * 1 := by omega
      simp (disch := omega) only [KC_eq, cCpSl, srcOf, SQ, SU, SL, List.replicate_succ, List.replicate_zero, List.flatten_cons, List.flatten_nil, List.append_nil, List.cons_append, List.nil_append, hq4, hD1, hroom, ifT, w64, reduceCtorEq, Nat.reduceAdd, Nat.reduceLeDiff, reduceIte]
      have hset : (h ++ t ++ t').set q .dead = h ++ (t ++ t').set (q - h.length) .dead := by rw [List.append_assoc, List.set_append_right _ _ hq1]
      have hlen : ((h ++ t ++ t').set q .dead).length = (h ++ t ++ t').length := List.length_set
      refine ⟨(i + 1, .sl (h ++ t ++ t').length 0 (i + 1) 1), xs.length - (i + 1), by omega, rfl, rfl, by omega, (t ++ t').set (q - h.length) .dead ++ [.own ty (D ++ [y])], D ++ [y], Sd ++ S2, by rw [hset, List.append_assoc], ?_, ?_, hlo3, .inr ⟨by omega, _, rfl, by simp <;> omega, ?_, ?_⟩⟩
      · refine hjoin _ fun j hj => ?_
        have h1 := hlt2 j hj
        rw [cells_app (by rw [hlen]; exact h1)]
        exact cells_same (set_get_ne (fun e => hq5 (by rw [← e]; exact hj)))
      · exact (hown.setNot hq5).app
      · rw [← hlen]
        exact get_last _ _ []
      · intro hm
        have := hlt2 _ hm
        omega
  · simp (disch := omega) only [cCpSl, SQ, SU, SL, reduceCtorEq, Nat.reduceAdd, Nat.reduceLeDiff, reduceIte]
    have hi' : i = xs.length := by omega
    subst hi'
    rw [List.take_length] at hD
    rcases hcase with ⟨h0, rfl, rfl, rfl⟩ | ⟨hp, q, rfl, hq1, hq2, hq3⟩
    · have hx : xs = [] := List.eq_nil_of_length_eq_zero h0
      subst hx
      exact ⟨t, [.emp], [], rfl, rfl, ⟨[], rfl, by simp, .inl ⟨rfl, rfl, .inr rfl⟩⟩, ⟨by simp, by simp⟩, by simp⟩
    · refine ⟨t, [.sl q 0 xs.length 1], q :: Sd, rfl, rfl, ⟨xs, rfl, by simp only [maxLen]; omega, .inr ⟨q, 0, D, Sd, 1, rfl, cells_own hq2, by simp [hs1, hDl], rfl, ?_, .inl rfl⟩⟩, ⟨List.nodup_cons.2 ⟨hq3, hO.1⟩, fun j hj => ?_⟩, fun j hj => ?_⟩
      · have : (D.drop 0).take (xs.length * (Ty.sl t0).size) = D := by simp [hs1, ← hDl]
        rw [this]
        exact hD
      · rcases List.mem_cons.1 hj with rfl | hj
        · exact ⟨_, _, hq2⟩
        · exact hO.2 j hj
      · rcases List.mem_cons.1 hj with rfl | hj
        · exact hq1
        · exact hlo j hj
theorem Rp.mkNil {h : H} {t : Ty} : Rp h (.sl t) [.nils] (.l []) [] := ⟨[], rfl, by simp, .inl ⟨rfl, rfl, .inl rfl⟩⟩
theorem Rp.mk0 {h : H} {k : IntKind} : Rp h (.int k) [.int k 0] (.i 0) [] := Rp.mkInt (by cases k <;> decide) (by cases k <;> decide)
/-- A value of another type out of a value, of one's own. -/
def OfOk (cd : Nat → Option AF) (g : Nat) (T T' : Ty) (f : Tv → Tv) : Prop := ∀ {h : H} {cs : List C} {v : Tv} {S : List Nat}, Rp h T cs v S → wt v ≤ 1048576 → WC cd g [(T.agg, cs)] h (Fresh h T' (f v))
theorem Rp.app' {h h' t : H} {T : Ty} {cs : List C} {v : Tv} {S : List Nat} (e : h' = h ++ t) (hr : Rp h T cs v S) : Rp h' T cs v S := by subst e; exact hr.app
theorem Ownd.app' {h h' t : H} {S : List Nat} (e : h' = h ++ t) (ho : Ownd h S) : Ownd h' S := by subst e; exact ho.app
theorem len_app' {h h' t : H} (e : h' = h ++ t) : h.length ≤ h'.length := by subst e; simp
theorem setL_all {cs vs : List C} (h : vs.length = cs.length) : setL cs 0 vs = vs := by rw [setL_eq _ _ _ (by omega)]; simp [h]
/-! ### How many marks at most -/
mutual
def lv : Ty → Nat
  | .st ts => lvs ts
  | .sl t => lv t
  | _ => 1
def lvs : List Ty → Nat
  | [] => 0
  | t :: ts => lv t + lvs ts
end
mutual
theorem cnE_le : ∀ (T : Ty) (v : Tv), cnE T v ≤ lv T * (1 + wt v)
  | .int k, v => by
    have : cnE (.int k) v = 1 := rfl
    rw [this]
    show 1 ≤ 1 * (1 + wt v)
    omega
  | .bool, v => Nat.zero_le _
  | .str, v => Nat.zero_le _
  | .sl t, .l xs => by
    show (xs.map (cnE t)).sum ≤ lv t * (1 + (xs.length + wts xs))
    have key : ∀ ys : List Tv, (ys.map (cnE t)).sum ≤ lv t * (ys.length + wts ys) := by
      intro ys
      induction ys with
      | nil => simp
      | cons y ys ih =>
        have h1 := cnE_le t y
        simp only [List.map_cons, List.sum_cons, List.length_cons, wts]
        have e : lv t * (ys.length + 1 + (wt y + wts ys)) = lv t * (1 + wt y) + lv t * (ys.length + wts ys) := by rw [← Nat.mul_add]; congr 1; omega
        omega
    exact Nat.le_trans (key xs) (Nat.mul_le_mul_left _ (by omega))
  | .st ts, .r vs => by
    show cnS ts vs ≤ lvs ts * (1 + wts vs)
    exact cnS_le ts vs
  | .sl t, .i _ => Nat.zero_le _
  | .sl t, .b _ => Nat.zero_le _
  | .sl t, .s _ => Nat.zero_le _
  | .sl t, .r _ => Nat.zero_le _
  | .st t, .i _ => Nat.zero_le _
  | .st t, .b _ => Nat.zero_le _
  | .st t, .s _ => Nat.zero_le _
  | .st t, .l _ => Nat.zero_le _
theorem cnS_le : ∀ (ts : List Ty) (vs : List Tv), cnS ts vs ≤ lvs ts * (1 + wts vs)
  | [], vs => by cases vs <;> exact Nat.zero_le _
  | t :: ts, [] => Nat.zero_le _
  | t :: ts, v :: vs => by
    have h1 := cnE_le t v
    have h2 := cnS_le ts vs
    show cnE t v + cnS ts vs ≤ (lv t + lvs ts) * (1 + (wt v + wts vs))
    rw [Nat.add_mul]
    have h3 : lv t * (1 + wt v) ≤ lv t * (1 + (wt v + wts vs)) := Nat.mul_le_mul_left _ (by omega)
    have h4 : lvs ts * (1 + wts vs) ≤ lvs ts * (1 + (wt v + wts vs)) := Nat.mul_le_mul_left _ (by omega)
    omega
end
mutual
theorem cnT_le : ∀ (T : Ty) (v : Tv), cnT T v ≤ cnE T v
  | .int k, v => Nat.zero_le _
  | .bool, v => Nat.zero_le _
  | .str, v => Nat.zero_le _
  | .sl t, v => by rw [cnE_sl]; exact Nat.le_refl _
  | .st ts, .r vs => cnTs_le ts vs
  | .st t, .i _ => Nat.zero_le _
  | .st t, .b _ => Nat.zero_le _
  | .st t, .s _ => Nat.zero_le _
  | .st t, .l _ => Nat.zero_le _
theorem cnTs_le : ∀ (ts : List Ty) (vs : List Tv), cnTs ts vs ≤ cnS ts vs
  | [], vs => by cases vs <;> exact Nat.zero_le _
  | t :: ts, [] => Nat.zero_le _
  | t :: ts, v :: vs => Nat.add_le_add (cnT_le t v) (cnTs_le ts vs)
end

end Go.Eng
