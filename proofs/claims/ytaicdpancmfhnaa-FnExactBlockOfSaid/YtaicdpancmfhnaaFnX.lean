/-
  Functions: trees.
-/
import Derived.Test.YtaicdpancmfhnaaFnW
set_option maxRecDepth 100000
set_option linter.unusedSimpArgs false
set_option linter.unusedVariables false
namespace Go.Eng.F
abbrev n_impl_LeafHash : Nat := 136
def c_impl_LeafHash : AF := ⟨1, 3, [.tmp 2], (.seq (.ops [.i (.mov 2 (.c (.val false [.nils])))]) (.seq (.ops [.i (.bsl 3 5 1 1 [.int .u8 0] [(0, 1, (.c (.val false [.int .u8 0])))]), .i (.mov 4 (.s 0)), .i (.app 5 5 1 1 (.s 3) (.s 4)), .i (.call 7 135 false [(.s 5)]), .i (.mov 2 (.s 6))]) .ret))⟩
theorem k_impl_LeafHash : cd n_impl_LeafHash = some c_impl_LeafHash := by kernel_rfl
theorem impl_LeafHash_ok (x : Bytes) (hx : x.length ≤ 1073741823) : VC cd n_impl_LeafHash (mkP [(false, [.sl (bytes x)])]) (fun rs _ => rs = [(false, [.o true (some (5, 1)) (bytes (sha (0 :: x)))])]) := by
  have e : [[D.int .u8 0]] ++ bytes x = bytes (0 :: x) := rfl
  refine VC_enter k_impl_LeafHash rfl ?_
  simp (disch := omega) [c_impl_LeafHash, e, bytes_len, VE, VXR, VP, VB, kof, bl, it]
  refine VXC_e (impl_Sha_ok (0 :: x) (by simp; omega)) rfl rfl ?_
  simp (disch := omega) [VE, VXR, VP, VB, kof, bl, it]
abbrev n_spec_LeafHash : Nat := 130
def c_spec_LeafHash : AF := ⟨1, 3, [.tmp 2], (.seq (.ops [.i (.mov 2 (.c (.val false [.nils])))]) (.seq (.ops [.i (.bsl 3 5 1 1 [.int .u8 0] [(0, 1, (.c (.val false [.int .u8 0])))]), .i (.mov 4 (.s 0)), .i (.app 5 5 1 1 (.s 3) (.s 4)), .i (.call 7 129 false [(.s 5)]), .i (.mov 2 (.s 6))]) .ret))⟩
theorem k_spec_LeafHash : cd n_spec_LeafHash = some c_spec_LeafHash := by kernel_rfl
theorem spec_LeafHash_ok (x : Bytes) (hx : x.length ≤ 1073741823) : VC cd n_spec_LeafHash (mkP [(false, [.sl (bytes x)])]) (fun rs _ => rs = [(false, [.o true (some (5, 1)) (bytes (sha (0 :: x)))])]) := by
  have e : [[D.int .u8 0]] ++ bytes x = bytes (0 :: x) := rfl
  refine VC_enter k_spec_LeafHash rfl ?_
  simp (disch := omega) [c_spec_LeafHash, e, bytes_len, VE, VXR, VP, VB, kof, bl, it]
  refine VXC_e (spec_Sha_ok (0 :: x) (by simp; omega)) rfl rfl ?_
  simp (disch := omega) [VE, VXR, VP, VB, kof, bl, it]
abbrev n_impl_NodeHash : Nat := 138
def c_impl_NodeHash : AF := ⟨2, 4, [.tmp 4], (.seq (.ops [.i (.mov 4 (.c (.val false [.nils])))]) (.seq (.ops [.i (.bsl 5 5 1 1 [.int .u8 0] [(0, 1, (.c (.val false [.int .u8 1])))]), .i (.mov 6 (.s 0)), .i (.app 7 5 1 1 (.s 5) (.s 6)), .i (.mov 8 (.s 1)), .i (.app 9 5 1 1 (.s 7) (.s 8)), .i (.call 11 135 false [(.s 9)]), .i (.mov 4 (.s 10))]) .ret))⟩
theorem k_impl_NodeHash : cd n_impl_NodeHash = some c_impl_NodeHash := by kernel_rfl
theorem impl_NodeHash_ok (x y : Bytes) (hx : x.length ≤ 1000) (hy : y.length ≤ 1000) : VC cd n_impl_NodeHash (mkP [(false, [.sl (bytes x)]), (false, [.sl (bytes y)])]) (fun rs _ => rs = [(false, [.o true (some (5, 1)) (bytes (sha (1 :: x ++ y)))])]) := by
  have e : [[D.int .u8 1]] ++ bytes x = bytes (1 :: x) := rfl
  have e2 : bytes (1 :: x) ++ bytes y = bytes (1 :: x ++ y) := by simp [bytes]
  refine VC_enter k_impl_NodeHash rfl ?_
  simp (disch := omega) [c_impl_NodeHash, e, e2, bytes_len, VE, VXR, VP, VB, kof, bl, it]
  refine VXC_e (impl_Sha_ok (1 :: x ++ y) (by simp; omega)) rfl rfl ?_
  simp (disch := omega) [VE, VXR, VP, VB, kof, bl, it]
abbrev n_spec_NodeHash : Nat := 132
def c_spec_NodeHash : AF := ⟨2, 4, [.tmp 4], (.seq (.ops [.i (.mov 4 (.c (.val false [.nils])))]) (.seq (.ops [.i (.bsl 6 5 1 1 [.int .u8 0] [(0, 1, (.c (.val false [.int .u8 1])))]), .i (.mov 7 (.s 0)), .i (.app 8 5 1 1 (.s 6) (.s 7)), .i (.mov 5 (.s 8))]) (.seq (.ops [.i (.mov 9 (.s 5)), .i (.mov 10 (.s 1)), .i (.app 11 5 1 1 (.s 9) (.s 10)), .i (.call 13 129 false [(.s 11)]), .i (.mov 4 (.s 12))]) .ret)))⟩
theorem k_spec_NodeHash : cd n_spec_NodeHash = some c_spec_NodeHash := by kernel_rfl
theorem spec_NodeHash_ok (x y : Bytes) (hx : x.length ≤ 1000) (hy : y.length ≤ 1000) : VC cd n_spec_NodeHash (mkP [(false, [.sl (bytes x)]), (false, [.sl (bytes y)])]) (fun rs _ => rs = [(false, [.o true (some (5, 1)) (bytes (sha (1 :: x ++ y)))])]) := by
  have e : [[D.int .u8 1]] ++ bytes x = bytes (1 :: x) := rfl
  have e2 : bytes (1 :: x) ++ bytes y = bytes (1 :: x ++ y) := by simp [bytes]
  refine VC_enter k_spec_NodeHash rfl ?_
  simp (disch := omega) [c_spec_NodeHash, e, e2, bytes_len, VE, VXR, VP, VB, kof, bl, it]
  refine VXC_e (spec_Sha_ok (1 :: x ++ y) (by simp; omega)) rfl rfl ?_
  simp (disch := omega) [VE, VXR, VP, VB, kof, bl, it]
/-! ### Where a tree is split -/
def spl (n k : Nat) : Nat := if h : 0 < k ∧ k < n - k then spl n (2 * k) else k
termination_by n - k
decreasing_by omega
def splitAt (n : Nat) : Nat := if n < 2 then 0 else spl n 1
abbrev n_impl_SplitAt : Nat := 137
def c_impl_SplitAt : AF := ⟨1, 4, [.tmp 2], (.seq (.ops [.i (.mov 2 (.c (.val false [.int .i64 0])))]) (.seq (.seq (.ops [.i (.mov 4 (.s 0)), .i (.bin 5 .lss (.s 4) (.c (.val false [.int .i64 2])))]) (.cond (.s 5) (.seq (.ops [.i (.mov 2 (.c (.val false [.int .i64 0])))]) .ret) .skip)) (.seq (.ops [.i (.mov 3 (.c (.val false [.int .i64 1])))]) (.seq (.block 0 (.loop [12, 11, 10, 9, 8, 7, 6] (.seq (.seq (.ops [.i (.mov 6 (.s 3)), .i (.mov 7 (.s 0)), .i (.mov 8 (.s 3)), .i (.bin 9 .sub (.s 7) (.s 8)), .i (.bin 10 .lss (.s 6) (.s 9))]) (.cond (.s 10) .skip (.exit 0))) (.block 1 (.ops [.i (.mov 11 (.s 3)), .i (.bin 12 .mul (.s 11) (.c (.val false [.int .i64 2]))), .i (.mov 3 (.s 12))]))))) (.seq (.ops [.i (.mov 13 (.s 3)), .i (.mov 2 (.s 13))]) .ret)))))⟩
theorem k_impl_SplitAt : cd n_impl_SplitAt = some c_impl_SplitAt := by kernel_rfl
theorem impl_SplitAt_ok (n : Nat) (hn : n ≤ 1073741824) : VC cd n_impl_SplitAt (mkP [(false, [.int .i64 (n : Int)])]) (fun rs _ => rs = it (splitAt n)) := by
  refine VC_enter k_impl_SplitAt rfl ?_
  simp (disch := omega) [c_impl_SplitAt, VE, VXR, VP, VB, kof, bl, it]
  refine VXB_dec (fun h1 => ?_) (fun h1 => ?_)
  · have h2 : n < 2 := by omega
    simp (disch := omega) [splitAt, h2, VE, VXR, VP, VB, kof, bl, it]
  · have h2 : ¬ n < 2 := by omega
    simp (disch := omega) [VE, VXR, VP, VB, kof, bl, it]
    refine VX_loop3 (σ := Nat) (f1 := _) (es0 := _) (by simp (disch := omega) [VE, VXR, VP, VB, kof, bl, it]; rfl) (by simp (disch := omega) [VE, VXR, VP, VB, kof, bl, it]; rfl) (fun k => [(3, .val false [.int .i64 k])]) (fun _ => []) (fun k g => g + k = n ∧ 0 < k ∧ spl n k = splitAt n) 1 (n - 1) (by simp (disch := omega) [VE, VXR, VP, VB, kof, bl, it]) (by simp (disch := omega) [VE, VXR, VP, VB, kof, bl, it]) ⟨by omega, by omega, by rw [splitAt, if_neg h2]⟩ ?_
    rintro k v g ⟨hg, h0, hk⟩
    simp (disch := omega) [VE, VXR, VP, VB, kof, bl, it]
    refine VXB_dec (fun h3 => ?_) (fun h3 => ?_)
    · simp (disch := omega) [VE, VXR, VP, VB, kof, bl, it]
      exact ⟨2 * k, n - 2 * k, by omega, ⟨by omega, by omega, by rw [← hk]; conv => rhs; rw [spl, dif_pos ⟨h0, by omega⟩]⟩, by omega⟩
    · simp (disch := omega) [VE, VXR, VP, VB, kof, bl, it]
      rw [spl, dif_neg (by omega)] at hk
      rw [hk]
abbrev n_spec_SplitAt : Nat := 131
def c_spec_SplitAt : AF := ⟨1, 4, [.tmp 2], (.seq (.ops [.i (.mov 2 (.c (.val false [.int .i64 0])))]) (.seq (.seq (.ops [.i (.mov 4 (.s 0)), .i (.bin 5 .lss (.s 4) (.c (.val false [.int .i64 2])))]) (.cond (.s 5) (.seq (.ops [.i (.mov 2 (.c (.val false [.int .i64 0])))]) .ret) .skip)) (.seq (.ops [.i (.mov 3 (.c (.val false [.int .i64 1])))]) (.seq (.block 0 (.loop [12, 11, 10, 9, 8, 7, 6] (.seq (.seq (.ops [.i (.mov 6 (.s 3)), .i (.mov 7 (.s 0)), .i (.mov 8 (.s 3)), .i (.bin 9 .sub (.s 7) (.s 8)), .i (.bin 10 .lss (.s 6) (.s 9))]) (.cond (.s 10) .skip (.exit 0))) (.block 1 (.ops [.i (.mov 11 (.s 3)), .i (.bin 12 .mul (.c (.val false [.int .i64 2])) (.s 11)), .i (.mov 3 (.s 12))]))))) (.seq (.ops [.i (.mov 13 (.s 3)), .i (.mov 2 (.s 13))]) .ret)))))⟩
theorem k_spec_SplitAt : cd n_spec_SplitAt = some c_spec_SplitAt := by kernel_rfl
theorem spec_SplitAt_ok (n : Nat) (hn : n ≤ 1073741824) : VC cd n_spec_SplitAt (mkP [(false, [.int .i64 (n : Int)])]) (fun rs _ => rs = it (splitAt n)) := by
  refine VC_enter k_spec_SplitAt rfl ?_
  simp (disch := omega) [c_spec_SplitAt, VE, VXR, VP, VB, kof, bl, it]
  refine VXB_dec (fun h1 => ?_) (fun h1 => ?_)
  · have h2 : n < 2 := by omega
    simp (disch := omega) [splitAt, h2, VE, VXR, VP, VB, kof, bl, it]
  · have h2 : ¬ n < 2 := by omega
    simp (disch := omega) [VE, VXR, VP, VB, kof, bl, it]
    refine VX_loop3 (σ := Nat) (f1 := _) (es0 := _) (by simp (disch := omega) [VE, VXR, VP, VB, kof, bl, it]; rfl) (by simp (disch := omega) [VE, VXR, VP, VB, kof, bl, it]; rfl) (fun k => [(3, .val false [.int .i64 k])]) (fun _ => []) (fun k g => g + k = n ∧ 0 < k ∧ spl n k = splitAt n) 1 (n - 1) (by simp (disch := omega) [VE, VXR, VP, VB, kof, bl, it]) (by simp (disch := omega) [VE, VXR, VP, VB, kof, bl, it]) ⟨by omega, by omega, by rw [splitAt, if_neg h2]⟩ ?_
    rintro k v g ⟨hg, h0, hk⟩
    simp (disch := omega) [VE, VXR, VP, VB, kof, bl, it]
    refine VXB_dec (fun h3 => ?_) (fun h3 => ?_)
    · simp (disch := omega) [VE, VXR, VP, VB, kof, bl, it]
      exact ⟨2 * k, n - 2 * k, by omega, ⟨by omega, by omega, by rw [← hk]; conv => rhs; rw [spl, dif_pos ⟨h0, by omega⟩]⟩, by omega⟩
    · simp (disch := omega) [VE, VXR, VP, VB, kof, bl, it]
      rw [spl, dif_neg (by omega)] at hk
      rw [hk]
theorem spl_in (n : Nat) : ∀ (g k : Nat), g = n - k → 0 < k → k < n → k ≤ spl n k ∧ spl n k < n := by
  intro g
  induction g using Nat.strongRecOn with
  | ind g ih =>
  intro k hg h0 hk
  rw [spl]
  split
  · rename_i h
    have := ih (n - 2 * k) (by omega) (2 * k) rfl (by omega) (by omega)
    omega
  · omega
theorem splitAt_in {n : Nat} (h : 2 ≤ n) : 0 < splitAt n ∧ splitAt n < n := by
  rw [splitAt, if_neg (by omega)]
  have := spl_in n _ 1 rfl (by omega) (by omega)
  omega
/-! ### The root -/
def treeRoot (l : List Bytes) : Bytes := match l with
  | [] => sha []
  | [x] => sha (0 :: x)
  | a :: b :: r => sha (1 :: treeRoot ((a :: b :: r).take (splitAt (a :: b :: r).length)) ++ treeRoot ((a :: b :: r).drop (splitAt (a :: b :: r).length)))
termination_by l.length
decreasing_by
  all_goals
    have := splitAt_in (n := (a :: b :: r).length) (by simp)
    simp only [List.length_take, List.length_drop, List.length_cons] at *
    omega
theorem sha_len (b : Bytes) : (sha b).length = 32 := by
  have h := fm_len (hs b ((pad b).length / 64)) 8 (by rw [hs_len]; omega)
  rw [List.take_of_length_le (by rw [hs_len]; omega)] at h
  exact h
theorem treeRoot_nil : treeRoot [] = sha [] := by rw [treeRoot]
theorem treeRoot_one {l : List Bytes} (h : l.length = 1) : treeRoot l = sha (0 :: l[0]) := by
  match l, h with
  | [x], _ => rw [treeRoot]; rfl
theorem treeRoot_more {l : List Bytes} (h : 2 ≤ l.length) : treeRoot l = sha (1 :: treeRoot (l.take (splitAt l.length)) ++ treeRoot (l.drop (splitAt l.length))) := by
  match l, h with
  | a :: b :: r, _ => rw [treeRoot]
theorem treeRoot_len (l : List Bytes) : (treeRoot l).length = 32 := by
  match l with
  | [] => rw [treeRoot]; exact sha_len _
  | [x] => rw [treeRoot]; exact sha_len _
  | a :: b :: r => rw [treeRoot]; exact sha_len _
abbrev n_impl_TreeRoot : Nat := 90
def c_impl_TreeRoot : AF := ⟨1, 5, [.tmp 2], (.seq (.ops [.i (.mov 2 (.c (.val false [.nils])))]) (.seq (.seq (.ops [.i (.mov 4 (.s 0)), .i (.len 5 false (.s 4))]) (.block 0 (.seq (.ops [.i (.bin 7 .eql (.s 5) (.c (.val false [.int .i64 0]))), .i (.mov 6 (.s 7))]) (.cond (.s 6) (.seq (.ops [.i (.call 9 135 false [(.c (.val false [.nils]))]), .i (.mov 2 (.s 8))]) .ret) (.seq (.ops [.i (.bin 10 .eql (.s 5) (.c (.val false [.int .i64 1]))), .i (.mov 9 (.s 10))]) (.cond (.s 9) (.seq (.ops [.i (.mov 11 (.s 0)), .i (.iad 12 (.s 11) (.c (.val false [.int .i64 0])) 1), .i (.ldh 13 (.s 12) 1 false), .i (.call 15 136 false [(.s 13)]), .i (.mov 2 (.s 14))]) .ret) .skip)))))) (.seq (.ops [.i (.mov 15 (.s 0)), .i (.len 16 false (.s 15)), .i (.call 18 137 false [(.s 16)]), .i (.mov 3 (.s 17))]) (.seq (.ops [.i (.mov 18 (.s 0)), .i (.mov 19 (.s 3)), .i (.slc 20 1 (.s 18) none (some (.s 19))), .i (.call 22 90 false [(.s 20)]), .i (.mov 22 (.s 0)), .i (.mov 23 (.s 3)), .i (.slc 24 1 (.s 22) (some (.s 23)) none), .i (.call 26 90 false [(.s 24)]), .i (.call 27 138 false [(.s 21), (.s 25)]), .i (.mov 2 (.s 26))]) .ret))))⟩
theorem k_impl_TreeRoot : cd n_impl_TreeRoot = some c_impl_TreeRoot := by kernel_rfl
theorem impl_TreeRoot_ok : ∀ (n : Nat) (l : List Bytes), l.length = n → l.length ≤ 1073741824 → (∀ x ∈ l, x.length ≤ 1073741823) → VC cd n_impl_TreeRoot (mkP [(false, [.sl (bss l)])]) (fun rs _ => rs = [(false, [.o true (some (5, 1)) (bytes (treeRoot l))])]) := by
  intro n
  induction n using Nat.strongRecOn with
  | ind n ih =>
  intro l hn hl hx
  refine VC_enter k_impl_TreeRoot rfl ?_
  simp (disch := omega) [c_impl_TreeRoot, bss_len, VE, VXR, VP, VB, kof, bl, it]
  refine VXB_dec (fun h1 => ?_) (fun h1 => ?_)
  · have h2 : l = [] := h1
    subst h2
    simp (disch := omega) [VE, VXR, VP, VB, kof, bl, it]
    refine VXC_e (impl_Sha_ok [] (by simp)) rfl rfl ?_
    simp (disch := omega) [treeRoot_nil, VE, VXR, VP, VB, kof, bl, it]
  · have h0 : 0 < l.length := List.length_pos_iff.2 h1
    simp (disch := omega) [bss_len, VE, VXR, VP, VB, kof, bl, it]
    refine VXB_dec (fun h2 => ?_) (fun h2 => ?_)
    · have h3 : 0 < l.length := by omega
      simp (disch := omega) [bss_get h3, bss_len, VE, VXR, VP, VB, kof, bl, it]
      refine VXC_e (impl_LeafHash_ok l[0] (hx _ (List.getElem_mem h3))) rfl rfl ?_
      simp (disch := omega) [VE, VXR, VP, VB, kof, bl, it]
      rw [treeRoot_one (by omega)]
    · have h3 : 2 ≤ l.length := by omega
      obtain ⟨k1, k2⟩ := splitAt_in h3
      simp (disch := omega) [bss_len, VE, VXR, VP, VB, kof, bl, it]
      refine VXC_e (impl_SplitAt_ok l.length (by omega)) rfl rfl ?_
      have t1 : (bss l).take (splitAt l.length) = bss (l.take (splitAt l.length)) := by simp [bss]
      have t2 : (bss l).drop (splitAt l.length) = bss (l.drop (splitAt l.length)) := by simp [bss]
      have t3 : ((splitAt l.length : Nat) : Int) ≤ (l.length : Int) := by omega
      have t4 : splitAt l.length ≤ l.length := by omega
      have t5 : ((l.length : Int) - (splitAt l.length : Int)).toNat = l.length - splitAt l.length := by omega
      have t6 : (bss (l.drop (splitAt l.length))).take (l.length - splitAt l.length) = bss (l.drop (splitAt l.length)) := List.take_of_length_le (by rw [bss_len]; simp)
      simp (disch := omega) [bss_len, wid_bss, t1, t2, t3, t4, t5, t6, VE, VXR, VP, VB, kof, bl, it]
      refine VXC_e (ih (splitAt l.length) (by omega) (l.take (splitAt l.length)) (by simp; omega) (by simp; omega) (fun x h => hx x (List.mem_of_mem_take h))) rfl rfl ?_
      simp (disch := omega) [bss_len, wid_bss, t1, t2, t3, t4, t5, t6, VE, VXR, VP, VB, kof, bl, it]
      refine VXC_e (ih (l.length - splitAt l.length) (by omega) (l.drop (splitAt l.length)) (by simp) (by simp; omega) (fun x h => hx x (List.mem_of_mem_drop h))) rfl rfl ?_
      simp (disch := omega) [VE, VXR, VP, VB, kof, bl, it]
      refine VXC_e (impl_NodeHash_ok (treeRoot (l.take (splitAt l.length))) (treeRoot (l.drop (splitAt l.length))) (by rw [treeRoot_len]; omega) (by rw [treeRoot_len]; omega)) rfl rfl ?_
      simp (disch := omega) [VE, VXR, VP, VB, kof, bl, it]
      rw [treeRoot_more h3]
      rfl
abbrev n_spec_TreeRoot : Nat := 85
def c_spec_TreeRoot : AF := ⟨1, 5, [.tmp 2], (.seq (.ops [.i (.mov 2 (.c (.val false [.nils])))]) (.seq (.seq (.ops [.i (.mov 4 (.s 0)), .i (.len 5 false (.s 4)), .i (.bin 6 .eql (.s 5) (.c (.val false [.int .i64 0])))]) (.cond (.s 6) (.seq (.ops [.i (.call 8 129 false [(.c (.val false [.nils]))]), .i (.mov 2 (.s 7))]) .ret) .skip)) (.seq (.seq (.ops [.i (.mov 8 (.s 0)), .i (.len 9 false (.s 8)), .i (.bin 10 .eql (.s 9) (.c (.val false [.int .i64 1])))]) (.cond (.s 10) (.seq (.ops [.i (.mov 11 (.s 0)), .i (.iad 12 (.s 11) (.c (.val false [.int .i64 0])) 1), .i (.ldh 13 (.s 12) 1 false), .i (.call 15 130 false [(.s 13)]), .i (.mov 2 (.s 14))]) .ret) .skip)) (.seq (.ops [.i (.mov 15 (.s 0)), .i (.len 16 false (.s 15)), .i (.call 18 131 false [(.s 16)]), .i (.mov 3 (.s 17))]) (.seq (.ops [.i (.mov 18 (.s 0)), .i (.mov 19 (.s 3)), .i (.slc 20 1 (.s 18) none (some (.s 19))), .i (.call 22 85 false [(.s 20)]), .i (.mov 22 (.s 0)), .i (.mov 23 (.s 3)), .i (.slc 24 1 (.s 22) (some (.s 23)) none), .i (.call 26 85 false [(.s 24)]), .i (.call 27 132 false [(.s 21), (.s 25)]), .i (.mov 2 (.s 26))]) .ret)))))⟩
theorem k_spec_TreeRoot : cd n_spec_TreeRoot = some c_spec_TreeRoot := by kernel_rfl
theorem spec_TreeRoot_ok : ∀ (n : Nat) (l : List Bytes), l.length = n → l.length ≤ 1073741824 → (∀ x ∈ l, x.length ≤ 1073741823) → VC cd n_spec_TreeRoot (mkP [(false, [.sl (bss l)])]) (fun rs _ => rs = [(false, [.o true (some (5, 1)) (bytes (treeRoot l))])]) := by
  intro n
  induction n using Nat.strongRecOn with
  | ind n ih =>
  intro l hn hl hx
  refine VC_enter k_spec_TreeRoot rfl ?_
  simp (disch := omega) [c_spec_TreeRoot, bss_len, VE, VXR, VP, VB, kof, bl, it]
  refine VXB_dec (fun h1 => ?_) (fun h1 => ?_)
  · have h2 : l = [] := h1
    subst h2
    simp (disch := omega) [VE, VXR, VP, VB, kof, bl, it]
    refine VXC_e (spec_Sha_ok [] (by simp)) rfl rfl ?_
    simp (disch := omega) [treeRoot_nil, VE, VXR, VP, VB, kof, bl, it]
  · have h0 : 0 < l.length := List.length_pos_iff.2 h1
    simp (disch := omega) [bss_len, VE, VXR, VP, VB, kof, bl, it]
    refine VXB_dec (fun h2 => ?_) (fun h2 => ?_)
    · have h3 : 0 < l.length := by omega
      simp (disch := omega) [bss_get h3, bss_len, VE, VXR, VP, VB, kof, bl, it]
      refine VXC_e (spec_LeafHash_ok l[0] (hx _ (List.getElem_mem h3))) rfl rfl ?_
      simp (disch := omega) [VE, VXR, VP, VB, kof, bl, it]
      rw [treeRoot_one (by omega)]
    · have h3 : 2 ≤ l.length := by omega
      obtain ⟨k1, k2⟩ := splitAt_in h3
      simp (disch := omega) [bss_len, VE, VXR, VP, VB, kof, bl, it]
      refine VXC_e (spec_SplitAt_ok l.length (by omega)) rfl rfl ?_
      have t1 : (bss l).take (splitAt l.length) = bss (l.take (splitAt l.length)) := by simp [bss]
      have t2 : (bss l).drop (splitAt l.length) = bss (l.drop (splitAt l.length)) := by simp [bss]
      have t3 : ((splitAt l.length : Nat) : Int) ≤ (l.length : Int) := by omega
      have t4 : splitAt l.length ≤ l.length := by omega
      have t5 : ((l.length : Int) - (splitAt l.length : Int)).toNat = l.length - splitAt l.length := by omega
      have t6 : (bss (l.drop (splitAt l.length))).take (l.length - splitAt l.length) = bss (l.drop (splitAt l.length)) := List.take_of_length_le (by rw [bss_len]; simp)
      simp (disch := omega) [bss_len, wid_bss, t1, t2, t3, t4, t5, t6, VE, VXR, VP, VB, kof, bl, it]
      refine VXC_e (ih (splitAt l.length) (by omega) (l.take (splitAt l.length)) (by simp; omega) (by simp; omega) (fun x h => hx x (List.mem_of_mem_take h))) rfl rfl ?_
      simp (disch := omega) [bss_len, wid_bss, t1, t2, t3, t4, t5, t6, VE, VXR, VP, VB, kof, bl, it]
      refine VXC_e (ih (l.length - splitAt l.length) (by omega) (l.drop (splitAt l.length)) (by simp) (by simp; omega) (fun x h => hx x (List.mem_of_mem_drop h))) rfl rfl ?_
      simp (disch := omega) [VE, VXR, VP, VB, kof, bl, it]
      refine VXC_e (spec_NodeHash_ok (treeRoot (l.take (splitAt l.length))) (treeRoot (l.drop (splitAt l.length))) (by rw [treeRoot_len]; omega) (by rw [treeRoot_len]; omega)) rfl rfl ?_
      simp (disch := omega) [VE, VXR, VP, VB, kof, bl, it]
      rw [treeRoot_more h3]
      rfl
end Go.Eng.F
