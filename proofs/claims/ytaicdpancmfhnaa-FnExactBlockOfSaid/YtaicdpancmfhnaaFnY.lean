/-
  Functions: blocks.
-/
import Derived.Test.YtaicdpancmfhnaaFnX
import Derived.Test.YtaicdpancmfhnaaFnH
set_option maxRecDepth 100000
set_option linter.unusedSimpArgs false
set_option linter.unusedVariables false
namespace Go.Eng.F
open Go.Eng.U (TQc THead TLimits TProof TMsg TBlock)
def txsOk (l : Lim) (t : List Bytes) : Bool := t.all fun x => decide ((x.length : Int) ≤ l.tx)
theorem txsOk_of {l : Lim} {t : List Bytes} (h : ∀ x ∈ t.take t.length, (x.length : Int) ≤ l.tx) : txsOk l t = true := by
  rw [List.take_length] at h
  simpa [txsOk] using h
theorem txsOk_no {l : Lim} {t : List Bytes} {i : Nat} (hi : i < t.length) (h : l.tx < (t[i].length : Int)) : txsOk l t = false := by
  simp only [txsOk, List.all_eq_false]
  exact ⟨t[i], List.getElem_mem hi, by simp; omega⟩
def blockOk (l : Lim) (x : Block) : Bool := headOk l x.head && decide ((x.txs.length : Int) ≤ l.txs) && txsOk l x.txs && decide (x.head.root = treeRoot x.txs)
abbrev n_impl_BlockOk : Nat := 91
def c_impl_BlockOk : AF := ⟨2, 6, [.tmp 4], (.seq (.ops [.i (.lbox 2 (.s 0)), .i (.lbox 3 (.s 1)), .i (.mov 4 (.c (.val false [.bool false])))]) (.seq (.seq (.ops [.i (.fad 7 (.s 3) 10), .i (.ldl 8 3 (.s 7) 1 false), .i (.len 9 false (.s 8)), .i (.mov 10 (.c (.val false [.int .i64 0])))]) (.block 0 (.loop [19, 18, 17, 16, 15, 14, 13, 12, 11, 6] (.seq (.ops [.i (.bin 11 .lss (.s 10) (.s 9))]) (.seq (.cond (.s 11) .skip (.exit 0)) (.seq (.block 1 (.seq (.ops [.i (.iad 12 (.s 8) (.s 10) 1), .i (.ldh 13 (.s 12) 1 false), .i (.mov 6 (.s 13))]) (.seq (.ops [.i (.mov 14 (.s 6)), .i (.len 15 false (.s 14)), .i (.fad 16 (.s 2) 1), .i (.ldl 17 2 (.s 16) 1 false), .i (.bin 18 .gtr (.s 15) (.s 17))]) (.cond (.s 18) (.seq (.ops [.i (.mov 4 (.c (.val false [.bool false])))]) .ret) .skip)))) (.ops [.i (.bin 19 .add (.s 10) (.c (.val false [.int .i64 1]))), .i (.mov 10 (.s 19))]))))))) (.seq (.ops [.i (.ldl 20 2 (.s 2) 5 true), .i (.fad 21 (.s 3) 0), .i (.ldl 22 3 (.s 21) 10 true), .i (.call 24 139 false [(.s 20), (.s 22)]), .i (.mov 24 (.s 23)), .g 24 true 26 (.fad 25 (.s 3) 10), .g 24 true 27 (.ldl 26 3 (.s 25) 1 false), .g 24 true 28 (.len 27 false (.s 26)), .g 24 true 29 (.fad 28 (.s 2) 2), .g 24 true 30 (.ldl 29 2 (.s 28) 1 false), .g 24 true 31 (.bin 30 .leq (.s 27) (.s 29)), .i (.pick 31 (.s 24) (.s 30) (.c (.val false [.bool false]))), .i (.mov 32 (.s 31)), .g 32 true 34 (.fad 33 (.s 3) 0), .g 32 true 35 (.fad 34 (.s 33) 4), .g 32 true 36 (.ldl 35 3 (.s 34) 1 false), .g 32 true 37 (.fad 36 (.s 3) 10), .g 32 true 38 (.ldl 37 3 (.s 36) 1 false), .g 32 true 39 (.call 39 90 false [(.s 37)]), .g 32 true 40 (.call 40 114 false [(.s 35), (.s 38)]), .i (.pick 40 (.s 32) (.s 39) (.c (.val false [.bool false]))), .i (.mov 4 (.s 40))]) .ret)))⟩
theorem k_impl_BlockOk : cd n_impl_BlockOk = some c_impl_BlockOk := by kernel_rfl
theorem impl_BlockOk_ok (l : Lim) (x : Block) (hw : x.wc) (hx : ∀ t ∈ x.txs, t.length ≤ 1073741823) : VC cd n_impl_BlockOk (mkP [(true, l.c), (true, x.c)]) (fun rs _ => rs = bl (blockOk l x)) := by
  obtain ⟨⟨w1, _⟩, w2, w3⟩ := hw
  simp only [Sz] at w2
  refine VC_enter k_impl_BlockOk rfl ?_
  simp (disch := omega) [c_impl_BlockOk, Lim.c, Block.c, Head.c, bss_len, VE, VXR, VP, VB, kof, bl, it]
  refine VX_loop3 (σ := Nat) (f1 := _) (es0 := _) (by simp (disch := omega) [VE, VXR, VP, VB, kof, bl, it]; rfl) (by simp (disch := omega) [VE, VXR, VP, VB, kof, bl, it]; rfl) (fun i => [(10, .val false [.int .i64 i])]) (fun _ => []) (fun i g => g + i = x.txs.length ∧ ∀ t ∈ x.txs.take i, (t.length : Int) ≤ l.tx) 0 x.txs.length (by simp (disch := omega) [VE, VXR, VP, VB, kof, bl, it]) (by simp (disch := omega) [VE, VXR, VP, VB, kof, bl, it]) ⟨by omega, by simp⟩ ?_
  rintro i n g ⟨hg, hi⟩
  simp (disch := omega) [VE, VXR, VP, VB, kof, bl, it]
  refine VXB_dec (fun h1 => ?_) (fun h1 => ?_)
  · have hix : i < x.txs.length := by omega
    have w4 := hx _ (List.getElem_mem hix)
    simp (disch := omega) [bss_get hix, bytes_len, VE, VXR, VP, VB, kof, bl, it]
    refine VXB_dec (fun h2 => ?_) (fun h2 => ?_)
    · simp (disch := omega) [VE, VXR, VP, VB, kof, bl, it]
      simp [blockOk, txsOk_no hix (by omega)]
    · simp (disch := omega) [VE, VXR, VP, VB, kof, bl, it]
      exact ⟨i + 1, g - 1, by omega, ⟨by omega, take_all hi hix (by omega)⟩, by simp⟩
  · have hl : i = x.txs.length := by omega
    subst hl
    have ht := txsOk_of hi
    simp (disch := omega) [VE, VXR, VP, VB, kof, bl, it]
    refine VXC_e (impl_HeadOk_ok l x.head w1) rfl rfl ?_
    simp (disch := omega) [bss_len, VE, VXR, VP, VB, kof, bl, it]
    refine VXB_b (fun h2 => ?_) (fun h2 => ?_) <;> simp (disch := omega) [h2, bss_len, blockOk, VE, VXR, VP, VB, kof, bl, it]
    refine VXB_dec (fun h3 => ?_) (fun h3 => ?_) <;> simp (disch := omega) [h2, h3, ht, bss_len, VE, VXR, VP, VB, kof, bl, it]
    refine VXC_e (impl_TreeRoot_ok _ x.txs rfl (by omega) hx) rfl rfl ?_
    simp (disch := omega) [h2, h3, ht, VE, VXR, VP, VB, kof, bl, it]
    refine VXC_e (impl_SameBytes_ok x.head.root (treeRoot x.txs)) (by simp [argsD, argDs, argD, St.slc, lk_cons, lk] <;> first | rfl | exact ⟨rfl, rfl⟩ | exact ⟨rfl, rfl, rfl⟩) rfl ?_
    simp (disch := omega) [h2, h3, ht, VE, VXR, VP, VB, kof, bl, it]
abbrev n_spec_BlockOk : Nat := 86
def c_spec_BlockOk : AF := ⟨2, 6, [.tmp 4], (.seq (.ops [.i (.lbox 2 (.s 0)), .i (.lbox 3 (.s 1)), .i (.mov 4 (.c (.val false [.bool false])))]) (.seq (.seq (.ops [.i (.ldl 7 2 (.s 2) 5 true), .i (.fad 8 (.s 3) 0), .i (.ldl 9 3 (.s 8) 10 true), .i (.call 11 99 false [(.s 7), (.s 9)]), .i (.not 11 (.s 10)), .i (.mov 12 (.s 11)), .g 12 false 14 (.fad 13 (.s 3) 10), .g 12 false 15 (.ldl 14 3 (.s 13) 1 false), .g 12 false 16 (.len 15 false (.s 14)), .g 12 false 17 (.fad 16 (.s 2) 2), .g 12 false 18 (.ldl 17 2 (.s 16) 1 false), .g 12 false 19 (.bin 18 .gtr (.s 15) (.s 17)), .i (.pick 19 (.s 12) (.c (.val false [.bool true])) (.s 18))]) (.cond (.s 19) (.seq (.ops [.i (.mov 4 (.c (.val false [.bool false])))]) .ret) .skip)) (.seq (.seq (.ops [.i (.fad 20 (.s 3) 10), .i (.ldl 21 3 (.s 20) 1 false), .i (.len 22 false (.s 21)), .i (.mov 23 (.c (.val false [.int .i64 0])))]) (.block 0 (.loop [32, 31, 30, 29, 28, 27, 26, 25, 24, 6] (.seq (.ops [.i (.bin 24 .lss (.s 23) (.s 22))]) (.seq (.cond (.s 24) .skip (.exit 0)) (.seq (.block 1 (.seq (.ops [.i (.iad 25 (.s 21) (.s 23) 1), .i (.ldh 26 (.s 25) 1 false), .i (.mov 6 (.s 26))]) (.seq (.ops [.i (.mov 27 (.s 6)), .i (.len 28 false (.s 27)), .i (.fad 29 (.s 2) 1), .i (.ldl 30 2 (.s 29) 1 false), .i (.bin 31 .gtr (.s 28) (.s 30))]) (.cond (.s 31) (.seq (.ops [.i (.mov 4 (.c (.val false [.bool false])))]) .ret) .skip)))) (.ops [.i (.bin 32 .add (.s 23) (.c (.val false [.int .i64 1]))), .i (.mov 23 (.s 32))]))))))) (.seq (.ops [.i (.fad 33 (.s 3) 0), .i (.fad 34 (.s 33) 4), .i (.ldl 35 3 (.s 34) 1 false), .i (.fad 36 (.s 3) 10), .i (.ldl 37 3 (.s 36) 1 false), .i (.call 39 85 false [(.s 37)]), .i (.call 40 112 false [(.s 35), (.s 38)]), .i (.mov 4 (.s 39))]) .ret))))⟩
theorem k_spec_BlockOk : cd n_spec_BlockOk = some c_spec_BlockOk := by kernel_rfl
theorem spec_BlockOk_ok (l : Lim) (x : Block) (hw : x.wc) (hx : ∀ t ∈ x.txs, t.length ≤ 1073741823) : VC cd n_spec_BlockOk (mkP [(true, l.c), (true, x.c)]) (fun rs _ => rs = bl (blockOk l x)) := by
  obtain ⟨⟨w1, _⟩, w2, w3⟩ := hw
  simp only [Sz] at w2
  refine VC_enter k_spec_BlockOk rfl ?_
  simp (disch := omega) [c_spec_BlockOk, Lim.c, Block.c, Head.c, VE, VXR, VP, VB, kof, bl, it]
  refine VXC_e (spec_HeadOk_ok l x.head w1) rfl rfl ?_
  simp (disch := omega) [bss_len, VE, VXR, VP, VB, kof, bl, it]
  refine VXB_b (fun h2 => ?_) (fun h2 => ?_)
  case refine_2 => simp (disch := omega) [h2, blockOk, VE, VXR, VP, VB, kof, bl, it]
  simp (disch := omega) [h2, bss_len, VE, VXR, VP, VB, kof, bl, it]
  refine VXB_dec (fun h3 => ?_) (fun h3 => ?_)
  · simp (disch := omega) [h2, h3, blockOk, show ¬ (x.txs.length : Int) ≤ l.txs by omega, VE, VXR, VP, VB, kof, bl, it]
  simp (disch := omega) [h2, h3, bss_len, VE, VXR, VP, VB, kof, bl, it]
  refine VX_loop3 (σ := Nat) (f1 := _) (es0 := _) (by simp (disch := omega) [VE, VXR, VP, VB, kof, bl, it]; rfl) (by simp (disch := omega) [VE, VXR, VP, VB, kof, bl, it]; rfl) (fun i => [(23, .val false [.int .i64 i])]) (fun _ => []) (fun i g => g + i = x.txs.length ∧ ∀ t ∈ x.txs.take i, (t.length : Int) ≤ l.tx) 0 x.txs.length (by simp (disch := omega) [VE, VXR, VP, VB, kof, bl, it]) (by simp (disch := omega) [VE, VXR, VP, VB, kof, bl, it]) ⟨by omega, by simp⟩ ?_
  rintro i n g ⟨hg, hi⟩
  simp (disch := omega) [VE, VXR, VP, VB, kof, bl, it]
  refine VXB_dec (fun h1 => ?_) (fun h1 => ?_)
  · have hix : i < x.txs.length := by omega
    have w4 := hx _ (List.getElem_mem hix)
    simp (disch := omega) [bss_get hix, bytes_len, VE, VXR, VP, VB, kof, bl, it]
    refine VXB_dec (fun h4 => ?_) (fun h4 => ?_)
    · simp (disch := omega) [VE, VXR, VP, VB, kof, bl, it]
      simp [blockOk, txsOk_no hix (by omega)]
    · simp (disch := omega) [VE, VXR, VP, VB, kof, bl, it]
      exact ⟨i + 1, g - 1, by omega, ⟨by omega, take_all hi hix (by omega)⟩, by simp⟩
  · have hl : i = x.txs.length := by omega
    subst hl
    have ht := txsOk_of hi
    simp (disch := omega) [VE, VXR, VP, VB, kof, bl, it]
    refine VXC_e (spec_TreeRoot_ok _ x.txs rfl (by omega) hx) rfl rfl ?_
    simp (disch := omega) [h2, h3, ht, VE, VXR, VP, VB, kof, bl, it]
    refine VXC_e (spec_SameBytes_ok x.head.root (treeRoot x.txs)) (by simp [argsD, argDs, argD, St.slc, lk_cons, lk] <;> first | rfl | exact ⟨rfl, rfl⟩ | exact ⟨rfl, rfl, rfl⟩) rfl ?_
    simp (disch := omega) [h2, h3, ht, blockOk, show (x.txs.length : Int) ≤ l.txs by omega, VE, VXR, VP, VB, kof, bl, it]
def withRoot (h : Head) (t : List Bytes) : Block := ⟨⟨h.view, h.height, h.proposer, h.parent, treeRoot t, h.qc⟩, t⟩
def blockOfE (l : Lim) (h : Head) (t : List Bytes) : List (Bool × List E) :=
  if blockOk l (withRoot h t) then [(true, [.p (.int .i64 h.view), .p (.int .i64 h.height), .p (.int .i64 h.proposer), .o true (some (5, 1)) (bytes h.parent), .o true (some (5, 1)) (bytes (treeRoot t)), .p (.int .i64 h.qc.view), .p (.int .i64 h.qc.height), .o true (some (5, 1)) (bytes h.qc.block), .o true (some (5, 1)) (bytes h.qc.bits), .o true (some (22, 1)) (bss h.qc.tags), .o true (some (22, 1)) (bss t)]), (false, [.p (.bool true)])]
  else [(true, [.p (.int .i64 0), .p (.int .i64 0), .p (.int .i64 0), .p .nils, .p .nils, .p (.int .i64 0), .p (.int .i64 0), .p .nils, .p .nils, .p .nils, .p .nils]), (false, [.p (.bool false)])]
theorem blockOk_few {l : Lim} {x : Block} (h : blockOk l x = true) : x.txs.length ≤ 8 := by
  simp only [blockOk, Bool.and_eq_true, decide_eq_true_eq] at h
  have h1 := h.1.1.1
  simp only [headOk, Bool.and_eq_true] at h1
  have h2 := qcOk_lim h1.1.1.1.1.1.1
  simp only [Lim.ok, Bool.and_eq_true] at h2
  have h3 := inn_t h2.1.1.2
  omega
theorem withRoot_wc {h : Head} {t : List Bytes} (hw : h.wc) (ht : BssWf t) : (withRoot h t).wc := by
  obtain ⟨⟨w1, w2, w3, w4, w5, w6⟩, w7⟩ := hw
  exact ⟨⟨⟨w1, w2, w3, w4, by show (treeRoot t).length ≤ _; rw [treeRoot_len]; omega, w6⟩, w7⟩, ht⟩
abbrev n_spec_BlockOf : Nat := 23
def c_spec_BlockOf : AF := ⟨3, 5, [.cell 6 11 true, .tmp 7], (.seq (.ops [.i (.lbox 3 (.s 0)), .i (.lbox 4 (.s 1)), .i (.lal 6 [.int .i64 0, .int .i64 0, .int .i64 0, .nils, .nils, .int .i64 0, .int .i64 0, .nils, .nils, .nils, .nils]), .i (.mov 7 (.c (.val false [.bool false])))]) (.seq (.ops [.i (.ldl 9 4 (.s 4) 10 true), .i (.call 11 83 false [(.s 9)]), .i (.mov 11 (.s 2)), .i (.call 13 84 false [(.s 11)]), .i (.bld 13 [.int .i64 0, .int .i64 0, .int .i64 0, .nils, .nils, .int .i64 0, .int .i64 0, .nils, .nils, .nils, .nils] [(0, 10, (.s 10)), (10, 1, (.s 12))]), .i (.lal 8 [.int .i64 0, .int .i64 0, .int .i64 0, .nils, .nils, .int .i64 0, .int .i64 0, .nils, .nils, .nils, .nils]), .i (.stl 8 (.s 8) (.s 13) 11)]) (.seq (.ops [.i (.mov 14 (.s 2)), .i (.call 16 85 false [(.s 14)]), .i (.fad 16 (.s 8) 0), .i (.fad 17 (.s 16) 4), .i (.stl 8 (.s 17) (.s 15) 1)]) (.seq (.seq (.ops [.i (.ldl 18 3 (.s 3) 5 true), .i (.ldl 19 8 (.s 8) 11 true), .i (.call 21 86 false [(.s 18), (.s 19)]), .i (.not 21 (.s 20))]) (.cond (.s 21) (.seq (.ops [.i (.bld 22 [.int .i64 0, .int .i64 0, .int .i64 0, .nils, .nils, .int .i64 0, .int .i64 0, .nils, .nils, .nils, .nils] []), .i (.stl 6 (.s 6) (.s 22) 11), .i (.mov 7 (.c (.val false [.bool false])))]) .ret) .skip)) (.seq (.ops [.i (.ldl 23 8 (.s 8) 11 true), .i (.stl 6 (.s 6) (.s 23) 11), .i (.mov 7 (.c (.val false [.bool true])))]) .ret)))))⟩
theorem k_spec_BlockOf : cd n_spec_BlockOf = some c_spec_BlockOf := by kernel_rfl
theorem spec_BlockOf_ok (l : Lim) (h : Head) (t : List Bytes) (hw : h.wc) (ht : BssWf t) (hx : ∀ x ∈ t, x.length ≤ 1073741823) : VC cd n_spec_BlockOf (mkP [(true, l.c), (true, h.c), (false, [.sl (bss t)])]) (fun rs _ => rs = blockOfE l h t) := by
  have hl := ht.1
  simp only [Sz] at hl
  refine VC_enter k_spec_BlockOf rfl ?_
  simp (disch := omega) [c_spec_BlockOf, Lim.c, Head.c, VE, VXR, VP, VB, kof, bl, it]
  refine VXC_e (l13Copy_ok h hw) rfl rfl ?_
  simp (disch := omega) [Head.o, VE, VXR, VP, VB, kof, bl, it]
  refine VXC_e (l06Copy_ok t ht) rfl rfl ?_
  simp (disch := omega) [VE, VXR, VP, VB, kof, bl, it]
  refine VXC_e (spec_TreeRoot_ok _ t rfl (by omega) hx) rfl rfl ?_
  simp (disch := omega) [VE, VXR, VP, VB, kof, bl, it]
  have hq := withRoot_wc hw ht
  refine VXC_e (spec_BlockOk_ok l (withRoot h t) hq hx) (by simp [argsD, argDs, argD, St.slc, lk_cons, lk] <;> first | rfl | exact ⟨rfl, rfl⟩ | exact ⟨rfl, rfl, rfl⟩) rfl ?_
  simp (disch := omega) [VE, VXR, VP, VB, kof, bl, it]
  refine VXB_b (fun h1 => ?_) (fun h1 => ?_) <;> simp (disch := omega) [h1, blockOfE, VE, VXR, VP, VB, kof, bl, it]
abbrev n_impl_BlockOf : Nat := 27
def c_impl_BlockOf : AF := ⟨3, 5, [.cell 6 11 true, .tmp 7], (.seq (.ops [.i (.lbox 3 (.s 0)), .i (.lbox 4 (.s 1)), .i (.lal 6 [.int .i64 0, .int .i64 0, .int .i64 0, .nils, .nils, .int .i64 0, .int .i64 0, .nils, .nils, .nils, .nils]), .i (.mov 7 (.c (.val false [.bool false])))]) (.seq (.ops [.i (.ldl 9 4 (.s 4) 10 true), .i (.call 11 88 false [(.s 9)]), .i (.mov 11 (.s 2)), .i (.call 13 89 false [(.s 11)]), .i (.bld 13 [.int .i64 0, .int .i64 0, .int .i64 0, .nils, .nils, .int .i64 0, .int .i64 0, .nils, .nils, .nils, .nils] [(0, 10, (.s 10)), (10, 1, (.s 12))]), .i (.lal 8 [.int .i64 0, .int .i64 0, .int .i64 0, .nils, .nils, .int .i64 0, .int .i64 0, .nils, .nils, .nils, .nils]), .i (.stl 8 (.s 8) (.s 13) 11)]) (.seq (.seq (.ops [.i (.mov 14 (.s 2)), .i (.len 15 false (.s 14)), .i (.bin 16 .leq (.s 15) (.c (.val false [.int .i64 8])))]) (.cond (.s 16) (.ops [.i (.mov 17 (.s 2)), .i (.call 19 90 false [(.s 17)]), .i (.fad 19 (.s 8) 0), .i (.fad 20 (.s 19) 4), .i (.stl 8 (.s 20) (.s 18) 1)]) .skip)) (.seq (.seq (.ops [.i (.ldl 21 3 (.s 3) 5 true), .i (.ldl 22 8 (.s 8) 11 true), .i (.call 24 91 false [(.s 21), (.s 22)]), .i (.not 24 (.s 23))]) (.cond (.s 24) (.seq (.ops [.i (.bld 25 [.int .i64 0, .int .i64 0, .int .i64 0, .nils, .nils, .int .i64 0, .int .i64 0, .nils, .nils, .nils, .nils] []), .i (.stl 6 (.s 6) (.s 25) 11), .i (.mov 7 (.c (.val false [.bool false])))]) .ret) .skip)) (.seq (.ops [.i (.ldl 26 8 (.s 8) 11 true), .i (.stl 6 (.s 6) (.s 26) 11), .i (.mov 7 (.c (.val false [.bool true])))]) .ret)))))⟩
theorem k_impl_BlockOf : cd n_impl_BlockOf = some c_impl_BlockOf := by kernel_rfl
theorem impl_BlockOf_ok (l : Lim) (h : Head) (t : List Bytes) (hw : h.wc) (ht : BssWf t) (hx : ∀ x ∈ t, x.length ≤ 1073741823) : VC cd n_impl_BlockOf (mkP [(true, l.c), (true, h.c), (false, [.sl (bss t)])]) (fun rs _ => rs = blockOfE l h t) := by
  have hl := ht.1
  simp only [Sz] at hl
  refine VC_enter k_impl_BlockOf rfl ?_
  simp (disch := omega) [c_impl_BlockOf, Lim.c, Head.c, VE, VXR, VP, VB, kof, bl, it]
  refine VXC_e (Head_copied_ok h hw) rfl rfl ?_
  simp (disch := omega) [Head.o, VE, VXR, VP, VB, kof, bl, it]
  refine VXC_e (copyList_ok t ht) rfl rfl ?_
  simp (disch := omega) [bss_len, VE, VXR, VP, VB, kof, bl, it]
  refine VXB_dec (fun h2 => ?_) (fun h2 => ?_)
  · simp (disch := omega) [VE, VXR, VP, VB, kof, bl, it]
    refine VXC_e (impl_TreeRoot_ok _ t rfl (by omega) hx) rfl rfl ?_
    simp (disch := omega) [VE, VXR, VP, VB, kof, bl, it]
    have hq := withRoot_wc hw ht
    refine VXC_e (impl_BlockOk_ok l (withRoot h t) hq hx) (by simp [argsD, argDs, argD, St.slc, lk_cons, lk] <;> first | rfl | exact ⟨rfl, rfl⟩ | exact ⟨rfl, rfl, rfl⟩) rfl ?_
    simp (disch := omega) [VE, VXR, VP, VB, kof, bl, it]
    refine VXB_b (fun h1 => ?_) (fun h1 => ?_) <;> simp (disch := omega) [h1, blockOfE, VE, VXR, VP, VB, kof, bl, it]
  · have h3 : blockOk l ⟨h, t⟩ = false := by
      cases hb : blockOk l ⟨h, t⟩ with
      | false => rfl
      | true => have := blockOk_few hb; simp only at this; omega
    have h4 : blockOk l (withRoot h t) = false := by
      cases hb : blockOk l (withRoot h t) with
      | false => rfl
      | true => have := blockOk_few hb; simp only [withRoot] at this; omega
    simp (disch := omega) [VE, VXR, VP, VB, kof, bl, it]
    refine VXC_e (impl_BlockOk_ok l ⟨h, t⟩ ⟨hw, ht⟩ hx) (by simp [argsD, argDs, argD, St.slc, lk_cons, lk] <;> first | rfl | exact ⟨rfl, rfl⟩ | exact ⟨rfl, rfl, rfl⟩) rfl ?_
    simp (disch := omega) [h3, h4, blockOfE, VE, VXR, VP, VB, kof, bl, it]
/-! ### At the program's types -/
def zeroBlockT : Tv := .r [.r [.i 0, .i 0, .i 0, .l [], .l [], .r [.i 0, .i 0, .l [], .l [], .l []]], .l []]
def blockOfT (l : Lim) (h : Head) (t : List Bytes) : Tv := if blockOk l (withRoot h t) then (withRoot h t).tv else zeroBlockT
theorem blockOf_wt (l : Lim) (h : Head) (t : List Bytes) : wt (blockOfT l h t) ≤ wt h.tv + wt (bssT t) + 32 := by
  unfold blockOfT
  split
  · simp only [withRoot, Block.tv, Head.tv, wt, wts, wt_bs, treeRoot_len]; omega
  · simp [zeroBlockT, wt, wts]
theorem blockOf_rs {l : Lim} {h : Head} {t : List Bytes} (hw : h.wc) (ht : BssWf t) : RsE (blockOfE l h t) [(TBlock, blockOfT l h t), (.bool, .b (blockOk l (withRoot h t)))] := by
  have hb := (withRoot_wc hw ht).tok
  cases hx : blockOk l (withRoot h t) with
  | true =>
    simp only [blockOfE, blockOfT, hx, if_true]
    refine ⟨rfl, ?_, hb, rfl, ?_, trivial, trivial⟩
    · rw [Block.enc]; simp only [Block.c, Head.c, withRoot, List.cons_append, List.nil_append, EEq, D.leaf, and_self]
    · simp only [enc_bool, EEq, D.leaf, and_self]
  | false =>
    simp only [blockOfE, blockOfT, hx, Bool.false_eq_true, if_false]
    refine ⟨rfl, ?_, ?_, rfl, ?_, trivial, trivial⟩
    · simp only [zeroBlockT, enc_st, encS_cons, encS_nil, enc_int, enc_nil, List.cons_append, List.nil_append, EEq, D.leaf, and_self]
    · simp only [zeroBlockT, ok_st, okS_cons, okS_nil, okN, ok0, and_true, true_and]
    · simp only [enc_bool, EEq, D.leaf, and_self]
theorem io_impl_BlockOf {h0 : H} {l : Lim} {h : Head} {t : List Bytes} {ms : List (Bool × List C)} (ha : ArgsRp h0 [(TLimits, l.tv), (THead, h.tv), (.sl (.sl (.int .u8)), bssT t)] ms) (hp : wt h.tv ≤ 1048576) (hp2 : wt (bssT t) ≤ 1048576) :
    WC cd n_impl_BlockOf ms h0 (Ans h0 [(TBlock, blockOfT l h t), (.bool, .b (blockOk l (withRoot h t)))]) := by
  obtain ⟨k1, mr, ha2⟩ := ArgsRp.ok1 ha
  obtain ⟨k2, mr2, ha3⟩ := ArgsRp.ok1 ha2
  have hw := Head.of k2 hp
  have hb := bss_of hp2
  have ht : BssWf t := hb
  have hx : ∀ x ∈ t, x.length ≤ 1073741823 := fun x hx => by have := (wt_bss t).2 x hx; omega
  have hc := impl_BlockOf_ok l h t hw ht hx
  have e : encA [(TLimits, l.tv), (THead, h.tv), (.sl (.sl (.int .u8)), bssT t)] = [(true, l.c), (true, h.c), (false, [.sl (bss t)])] := by simp only [encA, List.map, Lim.enc, Head.enc, enc_bss', Ty.agg]
  rw [← e] at hc
  exact hc.wc ha fun rs q => by rw [q]; exact blockOf_rs hw ht
theorem io_spec_BlockOf {h0 : H} {l : Lim} {h : Head} {t : List Bytes} {ms : List (Bool × List C)} (ha : ArgsRp h0 [(TLimits, l.tv), (THead, h.tv), (.sl (.sl (.int .u8)), bssT t)] ms) (hp : wt h.tv ≤ 1048576) (hp2 : wt (bssT t) ≤ 1048576) :
    WC cd n_spec_BlockOf ms h0 (Ans h0 [(TBlock, blockOfT l h t), (.bool, .b (blockOk l (withRoot h t)))]) := by
  obtain ⟨k1, mr, ha2⟩ := ArgsRp.ok1 ha
  obtain ⟨k2, mr2, ha3⟩ := ArgsRp.ok1 ha2
  have hw := Head.of k2 hp
  have hb := bss_of hp2
  have ht : BssWf t := hb
  have hx : ∀ x ∈ t, x.length ≤ 1073741823 := fun x hx => by have := (wt_bss t).2 x hx; omega
  have hc := spec_BlockOf_ok l h t hw ht hx
  have e : encA [(TLimits, l.tv), (THead, h.tv), (.sl (.sl (.int .u8)), bssT t)] = [(true, l.c), (true, h.c), (false, [.sl (bss t)])] := by simp only [encA, List.map, Lim.enc, Head.enc, enc_bss', Ty.agg]
  rw [← e] at hc
  exact hc.wc ha fun rs q => by rw [q]; exact blockOf_rs hw ht
end Go.Eng.F
