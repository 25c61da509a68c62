import Derived.Test.YtlhapfligolmcaaGreatGh
set_option maxRecDepth 100000
set_option linter.unusedSimpArgs false
set_option linter.unusedVariables false
namespace Go.Eng.F
def textB (x : Bytes) : Bytes := varB x.length ++ x
abbrev n_impl_PutText : Nat := 245
def c_impl_PutText : AF := ⟨2, 5, [.tmp 4], (.seq (.ops [.i (.mov 4 (.c (.val false [.nils])))]) (.seq (.ops [qm 8 0, qm 9 1, .i (.len 10 false (.s 9)), .i (.call 12 278 false [(.s 8), (.s 10)]), qm 7 11, .i (.ext 12 (.s 7) 0), .i (.ext 13 (.s 7) 1), qm 5 12, qm 6 13]) (.seq (.ops [qm 14 5, qm 15 1, .i (.app 16 5 1 1 (.s 14) (.s 15)), qm 4 16]) .ret)))⟩
theorem k_impl_PutText : cd n_impl_PutText = some c_impl_PutText := by kernel_rfl
theorem impl_PutText_ok (b x : Bytes) (hb : b.length ≤ 900000000) (hx : x.length ≤ 100000000) : VC cd n_impl_PutText (mkP [(false, [.sl (bytes b)]), (false, [.sl (bytes x)])]) (fun rs _ => rs = [(false, [.o true (some (5, 1)) (bytes (b ++ textB x))])]) := by
 have h1 := varB_nine (n := x.length) (by omega)
 refine VC_enter k_impl_PutText rfl ?_
 simp (disch := omega) [c_impl_PutText, bytes_len, VY]
 refine VXC_e (impl_PutVar_t b x.length (by omega) (by omega)) (by first | rfl | (simp [argsD, argDs, argD, St.slc, lk_cons, lk] <;> repeat' constructor)) rfl ?_
 simp (disch := omega) [bytes_len, bytes_app, VY]
 simp (disch := omega) [textB, VY]
abbrev n_spec_PutText : Nat := 235
def c_spec_PutText : AF := ⟨2, 5, [.tmp 4], (.seq (.ops [.i (.mov 4 (.c (.val false [.nils])))]) (.seq (.ops [qm 8 0, qm 9 1, .i (.len 10 false (.s 9)), .i (.call 12 274 false [(.s 8), (.s 10)]), qm 7 11, .i (.ext 12 (.s 7) 0), .i (.ext 13 (.s 7) 1), qm 5 12, qm 6 13]) (.seq (.ops [qm 14 5, qm 15 1, .i (.app 16 5 1 1 (.s 14) (.s 15)), qm 4 16]) .ret)))⟩
theorem k_spec_PutText : cd n_spec_PutText = some c_spec_PutText := by kernel_rfl
theorem spec_PutText_ok (b x : Bytes) (hb : b.length ≤ 900000000) (hx : x.length ≤ 100000000) : VC cd n_spec_PutText (mkP [(false, [.sl (bytes b)]), (false, [.sl (bytes x)])]) (fun rs _ => rs = [(false, [.o true (some (5, 1)) (bytes (b ++ textB x))])]) := by
 have h1 := varB_nine (n := x.length) (by omega)
 refine VC_enter k_spec_PutText rfl ?_
 simp (disch := omega) [c_spec_PutText, bytes_len, VY]
 refine VXC_e (spec_PutVar_t b x.length (by omega) (by omega)) (by first | rfl | (simp [argsD, argDs, argD, St.slc, lk_cons, lk] <;> repeat' constructor)) rfl ?_
 simp (disch := omega) [bytes_len, bytes_app, VY]
 simp (disch := omega) [textB, VY]
def vtOk (l : Lim) (v : Vote) : Bool := l.ok && isNum v.view && isNum v.height && hash v.block && hash v.tag && inn v.who 0 (l.n - 1)
def vtB (v : Vote) : Bytes := varB v.view.toNat ++ (varB v.height.toNat ++ (v.block ++ (varB v.who.toNat ++ v.tag)))
structure VtSz (v : Vote) : Prop where
 view : isNum v.view = true
 height : isNum v.height = true
 block : v.block.length = 32
 who : isNum v.who = true
 tag : v.tag.length = 32
theorem vtOk_sz {l : Lim} {v : Vote} (h : vtOk l v = true) : VtSz v := by
 simp only [vtOk, Bool.and_eq_true] at h
 have h1 := lim_n h.1.1.1.1.1
 have h2 := inn_t h.2
 exact ⟨h.1.1.1.1.2, h.1.1.1.2, hash_len h.1.1.2, by simp [isNum, inn]; omega, hash_len h.1.2⟩
abbrev n_impl_VoteOk : Nat := 240
def c_impl_VoteOk : AF := ⟨2, 6, [.tmp 4], (.seq (.ops [.i (.lbox 2 (.s 0)), .i (.lbox 3 (.s 1)), .i (.mov 4 (qb false))]) (.seq (.ops [ql 5 2 2 5 true, .i (.call 7 134 false [(.s 5)]), qm 7 6, .g 7 true 9 (.fad 8 (.s 3) 0), .g 7 true 10 (.ldl 9 3 (.s 8) 1 false), .g 7 true 11 (.call 11 213 false [(.s 9)]), .i (.pick 11 (.s 7) (.s 10) (qb false)), qm 12 11, .g 12 true 14 (.fad 13 (.s 3) 1), .g 12 true 15 (.ldl 14 3 (.s 13) 1 false), .g 12 true 16 (.call 16 213 false [(.s 14)]), .i (.pick 16 (.s 12) (.s 15) (qb false)), qm 17 16, .g 17 true 19 (.fad 18 (.s 3) 2), .g 17 true 20 (.ldl 19 3 (.s 18) 1 false), .g 17 true 21 (.fad 20 (.s 3) 4), .g 17 true 22 (.ldl 21 3 (.s 20) 1 false), .g 17 true 23 (.bsl 22 22 1 2 [.nils] [(0, 1, (.s 19)), (1, 1, (.s 21))]), .g 17 true 24 (.call 24 214 false [(.s 22)]), .i (.pick 24 (.s 17) (.s 23) (qb false)), qm 25 24, .g 25 true 27 (.fad 26 (.s 3) 3), .g 25 true 28 (.ldl 27 3 (.s 26) 1 false), .g 25 true 29 (.fad 28 (.s 2) 0), .g 25 true 30 (.ldl 29 2 (.s 28) 1 false), .g 25 true 31 (.bin 30 .sub (.s 29) (qi 1)), .g 25 true 32 (.call 32 62 false [(.s 27), (qi 0), (.s 30)]), .i (.pick 32 (.s 25) (.s 31) (qb false)), qm 4 32]) .ret))⟩
theorem k_impl_VoteOk : cd n_impl_VoteOk = some c_impl_VoteOk := by kernel_rfl
theorem impl_VoteOk_ok (l : Lim) (v : Vote) : VC cd n_impl_VoteOk (mkP [(true, l.c), (true, v.c)]) (fun rs _ => rs = bl (vtOk l v)) := by
 refine VC_enter k_impl_VoteOk rfl ?_
 simp (disch := omega) [c_impl_VoteOk, Lim.c, Vote.c, VY]
 refine VXC_e (impl_LimitsOk_ok l) (by first | rfl | (simp [Lim.c, argsD, argDs, argD, St.slc, lk_cons, lk] <;> repeat' constructor)) rfl ?_
 simp (disch := omega) [VY]
 refine VXB_b (fun h1 => ?_) (fun h1 => ?_) <;> simp (disch := omega) [h1, vtOk, VY]
 have hn := lim_n h1
 refine VXC_e (isNum_ok v.view) (by first | rfl | (simp [argsD, argDs, argD, St.slc, lk_cons, lk] <;> repeat' constructor)) rfl ?_
 simp (disch := omega) [h1, VY]
 refine VXB_b (fun h2 => ?_) (fun h2 => ?_) <;> simp (disch := omega) [h1, h2, VY]
 refine VXC_e (isNum_ok v.height) (by first | rfl | (simp [argsD, argDs, argD, St.slc, lk_cons, lk] <;> repeat' constructor)) rfl ?_
 simp (disch := omega) [h1, h2, VY]
 refine VXB_b (fun h3 => ?_) (fun h3 => ?_) <;> simp (disch := omega) [h1, h2, h3, VY]
 refine VXC_e (areHashes_ok [v.block, v.tag] (by simp)) (by first | rfl | (simp [bss, argsD, argDs, argD, St.slc, lk_cons, lk] <;> repeat' constructor)) rfl ?_
 simp (disch := omega) [h1, h2, h3, hashes_two, VY]
 refine VXB_b (fun h4 => ?_) (fun h4 => ?_)
 ·have h5 : hash v.block = true ∧ hash v.tag = true := by simpa using h4
  simp (disch := omega) [h1, h2, h3, h5.1, h5.2, VY]
  refine VXC_e (within_ok v.who 0 (l.n - 1)) (by first | rfl | (simp [argsD, argDs, argD, St.slc, lk_cons, lk] <;> repeat' constructor)) rfl ?_
  simp (disch := omega) [h1, h2, h3, h5.1, h5.2, VY]
 ·simp (disch := omega) [h1, h2, h3, h4, VY]
abbrev n_spec_VoteOk : Nat := 232
def c_spec_VoteOk : AF := ⟨2, 6, [.tmp 4], (.seq (.ops [.i (.lbox 2 (.s 0)), .i (.lbox 3 (.s 1)), .i (.mov 4 (qb false))]) (.seq (.ops [ql 5 2 2 5 true, .i (.call 7 142 false [(.s 5)]), qm 7 6, .g 7 true 9 (.fad 8 (.s 3) 0), .g 7 true 10 (.ldl 9 3 (.s 8) 1 false), .g 7 true 11 (.call 11 201 false [(.s 9)]), .i (.pick 11 (.s 7) (.s 10) (qb false)), qm 12 11, .g 12 true 14 (.fad 13 (.s 3) 1), .g 12 true 15 (.ldl 14 3 (.s 13) 1 false), .g 12 true 16 (.call 16 201 false [(.s 14)]), .i (.pick 16 (.s 12) (.s 15) (qb false)), qm 17 16, .g 17 true 19 (.fad 18 (.s 3) 2), .g 17 true 20 (.ldl 19 3 (.s 18) 1 false), .g 17 true 21 (.call 21 202 false [(.s 19)]), .i (.pick 21 (.s 17) (.s 20) (qb false)), qm 22 21, .g 22 true 24 (.fad 23 (.s 3) 4), .g 22 true 25 (.ldl 24 3 (.s 23) 1 false), .g 22 true 26 (.call 26 202 false [(.s 24)]), .i (.pick 26 (.s 22) (.s 25) (qb false)), qm 27 26, .g 27 true 29 (.fad 28 (.s 3) 3), .g 27 true 30 (.ldl 29 3 (.s 28) 1 false), .g 27 true 31 (.fad 30 (.s 2) 0), .g 27 true 32 (.ldl 31 2 (.s 30) 1 false), .g 27 true 33 (.bin 32 .sub (.s 31) (qi 1)), .g 27 true 34 (.call 34 152 false [(.s 29), (qi 0), (.s 32)]), .i (.pick 34 (.s 27) (.s 33) (qb false)), qm 4 34]) .ret))⟩
theorem k_spec_VoteOk : cd n_spec_VoteOk = some c_spec_VoteOk := by kernel_rfl
theorem spec_VoteOk_ok (l : Lim) (v : Vote) : VC cd n_spec_VoteOk (mkP [(true, l.c), (true, v.c)]) (fun rs _ => rs = bl (vtOk l v)) := by
 refine VC_enter k_spec_VoteOk rfl ?_
 simp (disch := omega) [c_spec_VoteOk, Lim.c, Vote.c, VY]
 refine VXC_e (spec_LimitsOk_ok l) (by first | rfl | (simp [Lim.c, argsD, argDs, argD, St.slc, lk_cons, lk] <;> repeat' constructor)) rfl ?_
 simp (disch := omega) [VY]
 refine VXB_b (fun h1 => ?_) (fun h1 => ?_) <;> simp (disch := omega) [h1, vtOk, VY]
 have hn := lim_n h1
 refine VXC_e (l01Num_ok v.view) (by first | rfl | (simp [argsD, argDs, argD, St.slc, lk_cons, lk] <;> repeat' constructor)) rfl ?_
 simp (disch := omega) [h1, VY]
 refine VXB_b (fun h2 => ?_) (fun h2 => ?_) <;> simp (disch := omega) [h1, h2, VY]
 refine VXC_e (l01Num_ok v.height) (by first | rfl | (simp [argsD, argDs, argD, St.slc, lk_cons, lk] <;> repeat' constructor)) rfl ?_
 simp (disch := omega) [h1, h2, VY]
 refine VXB_b (fun h3 => ?_) (fun h3 => ?_) <;> simp (disch := omega) [h1, h2, h3, VY]
 refine VXC_e (l07Hash_ok v.block) (by first | rfl | (simp [argsD, argDs, argD, St.slc, lk_cons, lk] <;> repeat' constructor)) rfl ?_
 simp (disch := omega) [h1, h2, h3, VY]
 refine VXB_b (fun h4 => ?_) (fun h4 => ?_) <;> simp (disch := omega) [h1, h2, h3, h4, VY]
 refine VXC_e (l07Hash_ok v.tag) (by first | rfl | (simp [argsD, argDs, argD, St.slc, lk_cons, lk] <;> repeat' constructor)) rfl ?_
 simp (disch := omega) [h1, h2, h3, h4, VY]
 refine VXB_b (fun h5 => ?_) (fun h5 => ?_) <;> simp (disch := omega) [h1, h2, h3, h4, h5, VY]
 refine VXC_e (l01In_ok v.who 0 (l.n - 1)) (by first | rfl | (simp [argsD, argDs, argD, St.slc, lk_cons, lk] <;> repeat' constructor)) rfl ?_
 simp (disch := omega) [h1, h2, h3, h4, h5, VY]
abbrev n_impl_PutVote : Nat := 177
def c_impl_PutVote : AF := ⟨3, 6, [.tmp 6, .tmp 7], (.seq (.ops [.i (.lbox 3 (.s 0)), .i (.lbox 5 (.s 2)), .i (.mov 6 (.c (.val false [.nils]))), .i (.mov 7 (qb false))]) (.seq (.seq (.ops [ql 9 3 3 5 true, ql 10 5 5 5 true, .i (.call 12 240 false [(.s 9), (.s 10)]), .i (.not 12 (.s 11))]) (.cond (.s 12) (.seq (.ops [.i (.mov 6 (.c (.val false [.nils]))), .i (.mov 7 (qb false))]) .ret) .skip)) (.seq (.ops [qm 13 1, .i (.call 15 60 false [(.s 13)]), .i (.bld 15 [.nils] [(0, 1, (.s 14))]), .i (.hbox 16 228 (.s 15)), qm 8 16]) (.seq (.ops [qm 17 8, qf 18 5 0, ql 19 5 18 1 false, .i (.call 21 241 false [(.s 17), (.s 19)])]) (.seq (.ops [qm 21 8, qf 22 5 1, ql 23 5 22 1 false, .i (.call 25 241 false [(.s 21), (.s 23)])]) (.seq (.ops [qm 25 8, qf 26 5 2, ql 27 5 26 1 false, .i (.call 29 242 false [(.s 25), (.s 27)])]) (.seq (.ops [qm 29 8, qf 30 5 3, ql 31 5 30 1 false, .i (.call 33 241 false [(.s 29), (.s 31)])]) (.seq (.ops [qm 33 8, qf 34 5 4, ql 35 5 34 1 false, .i (.call 37 242 false [(.s 33), (.s 35)])]) (.seq (.ops [qm 37 8, .i (.nch 38 (.s 37)), qf 39 38 0, .i (.ldh 40 (.s 39) 1 false), qm 6 40, .i (.mov 7 (qb true))]) .ret)))))))))⟩
theorem k_impl_PutVote : cd n_impl_PutVote = some c_impl_PutVote := by kernel_rfl
theorem impl_PutVote_ok (l : Lim) (b : Bytes) (v : Vote) (hb : b.length ≤ 900000000) : VC cd n_impl_PutVote (mkP [(true, l.c), (false, [.sl (bytes b)]), (true, v.c)]) (fun rs _ => rs = putE (vtOk l v) (b ++ vtB v)) := by
 refine VC_enter k_impl_PutVote rfl ?_
 simp (disch := omega) [c_impl_PutVote, Vote.c, Lim.c, VY]
 refine VXC_e (impl_VoteOk_ok l v) (by first | rfl | (simp [Vote.c, Lim.c, argsD, argDs, argD, St.slc, lk_cons, lk] <;> repeat' constructor)) rfl ?_
 simp (disch := omega) [VY]
 refine VXB_b (fun h0 => ?_) (fun h0 => ?_)
 case refine_2 => simp (disch := omega) [h0, putE, VY]
 have hs := vtOk_sz h0
 have h1 := varB_num hs.view
 have h2 := varB_num hs.height
 have h3 := varB_num hs.who
 have h4 := hs.block
 have h5 := hs.tag
 simp (disch := omega) [h0, VY]
 refine VXC_e (copyBytes_ok b (by omega)) rfl rfl ?_
 simp (disch := omega) [VY, VQ, expR, expE, exp0]
 refine VXC_p (writer_num_ok _ v.view hs.view ?_) (by simp (disch := omega) [VY, VQ, expR, expE, exp0]; exact ⟨rfl, rfl⟩) rfl rfl (by simp (disch := omega) [VY, VQ, expR, expE, exp0]; exact ⟨rfl, rfl⟩) (by simp (disch := omega) [VY, VQ, expR, expE, exp0]) (by simp (disch := omega) [VY, VQ, expR, expE, exp0]) (by simp (disch := omega) [VY, VQ, expR, expE, exp0]) (by omega) (by simp (disch := omega) [VY, VQ, expR, expE, exp0]) ?_
 ·(try simp only [List.length_append]); omega
 simp (disch := omega) [VY, VQ, expR, expE, exp0]
 refine VXC_p (writer_num_ok _ v.height hs.height ?_) (by simp (disch := omega) [VY, VQ, expR, expE, exp0]; exact ⟨rfl, rfl⟩) rfl rfl (by simp (disch := omega) [VY, VQ, expR, expE, exp0]; exact ⟨rfl, rfl⟩) (by simp (disch := omega) [VY, VQ, expR, expE, exp0]) (by simp (disch := omega) [VY, VQ, expR, expE, exp0]) (by simp (disch := omega) [VY, VQ, expR, expE, exp0]) (by omega) (by simp (disch := omega) [VY, VQ, expR, expE, exp0]) ?_
 ·(try simp only [List.length_append]); omega
 simp (disch := omega) [VY, VQ, expR, expE, exp0]
 refine VXC_p (writer_raw_ok _ v.block (by omega) ?_) (by simp (disch := omega) [VY, VQ, expR, expE, exp0]; exact ⟨rfl, rfl⟩) rfl rfl (by simp (disch := omega) [VY, VQ, expR, expE, exp0]; exact ⟨rfl, rfl⟩) (by simp (disch := omega) [VY, VQ, expR, expE, exp0]) (by simp (disch := omega) [VY, VQ, expR, expE, exp0]) (by simp (disch := omega) [VY, VQ, expR, expE, exp0]) (by omega) (by simp (disch := omega) [VY, VQ, expR, expE, exp0]) ?_
 ·(try simp only [List.length_append]); omega
 simp (disch := omega) [VY, VQ, expR, expE, exp0]
 refine VXC_p (writer_num_ok _ v.who hs.who ?_) (by simp (disch := omega) [VY, VQ, expR, expE, exp0]; exact ⟨rfl, rfl⟩) rfl rfl (by simp (disch := omega) [VY, VQ, expR, expE, exp0]; exact ⟨rfl, rfl⟩) (by simp (disch := omega) [VY, VQ, expR, expE, exp0]) (by simp (disch := omega) [VY, VQ, expR, expE, exp0]) (by simp (disch := omega) [VY, VQ, expR, expE, exp0]) (by omega) (by simp (disch := omega) [VY, VQ, expR, expE, exp0]) ?_
 ·(try simp only [List.length_append]); omega
 simp (disch := omega) [VY, VQ, expR, expE, exp0]
 refine VXC_p (writer_raw_ok _ v.tag (by omega) ?_) (by simp (disch := omega) [VY, VQ, expR, expE, exp0]; exact ⟨rfl, rfl⟩) rfl rfl (by simp (disch := omega) [VY, VQ, expR, expE, exp0]; exact ⟨rfl, rfl⟩) (by simp (disch := omega) [VY, VQ, expR, expE, exp0]) (by simp (disch := omega) [VY, VQ, expR, expE, exp0]) (by simp (disch := omega) [VY, VQ, expR, expE, exp0]) (by omega) (by simp (disch := omega) [VY, VQ, expR, expE, exp0]) ?_
 ·(try simp only [List.length_append]); omega
 simp (disch := omega) [putE, h0, vtB, VY, VQ, expR, expE, exp0]
abbrev n_spec_PutVote : Nat := 167
def c_spec_PutVote : AF := ⟨3, 5, [.tmp 6, .tmp 7], (.seq (.ops [.i (.lbox 3 (.s 0)), .i (.lbox 5 (.s 2)), .i (.mov 6 (.c (.val false [.nils]))), .i (.mov 7 (qb false))]) (.seq (.seq (.ops [ql 9 3 3 5 true, ql 10 5 5 5 true, .i (.call 12 232 false [(.s 9), (.s 10)]), .i (.not 12 (.s 11))]) (.cond (.s 12) (.seq (.ops [.i (.mov 6 (.c (.val false [.nils]))), .i (.mov 7 (qb false))]) .ret) .skip)) (.seq (.ops [qm 13 1, qf 14 5 0, ql 15 5 14 1 false, .i (.call 17 233 false [(.s 13), (.s 15)]), qf 17 5 1, ql 18 5 17 1 false, .i (.call 20 233 false [(.s 16), (.s 18)]), qf 20 5 2, ql 21 5 20 1 false, .i (.app 22 5 1 1 (.s 19) (.s 21)), qm 8 22]) (.seq (.ops [qm 23 8, qf 24 5 3, ql 25 5 24 1 false, .i (.call 27 233 false [(.s 23), (.s 25)]), qf 27 5 4, ql 28 5 27 1 false, .i (.app 29 5 1 1 (.s 26) (.s 28)), qm 6 29, .i (.mov 7 (qb true))]) .ret))))⟩
theorem k_spec_PutVote : cd n_spec_PutVote = some c_spec_PutVote := by kernel_rfl
theorem spec_PutVote_ok (l : Lim) (b : Bytes) (v : Vote) (hb : b.length ≤ 900000000) : VC cd n_spec_PutVote (mkP [(true, l.c), (false, [.sl (bytes b)]), (true, v.c)]) (fun rs _ => rs = putE (vtOk l v) (b ++ vtB v)) := by
 refine VC_enter k_spec_PutVote rfl ?_
 simp (disch := omega) [c_spec_PutVote, Vote.c, Lim.c, VY]
 refine VXC_e (spec_VoteOk_ok l v) (by first | rfl | (simp [Vote.c, Lim.c, argsD, argDs, argD, St.slc, lk_cons, lk] <;> repeat' constructor)) rfl ?_
 simp (disch := omega) [VY]
 refine VXB_b (fun h0 => ?_) (fun h0 => ?_)
 case refine_2 => simp (disch := omega) [h0, putE, VY]
 have hs := vtOk_sz h0
 have h1 := varB_num hs.view
 have h2 := varB_num hs.height
 have h3 := varB_num hs.who
 have h4 := hs.block
 have h5 := hs.tag
 simp (disch := omega) [h0, VY]
 refine VXC_e (l11Num_ok b v.view hs.view (by omega)) (by first | rfl | (simp [argsD, argDs, argD, St.slc, lk_cons, lk] <;> repeat' constructor)) rfl ?_
 simp (disch := omega) [VY]
 refine VXC_e (l11Num_ok (b ++ varB v.view.toNat) v.height hs.height (by simp only [List.length_append]; omega)) (by first | rfl | (simp [argsD, argDs, argD, St.slc, lk_cons, lk] <;> repeat' constructor)) rfl ?_
 simp (disch := omega) [bytes_app, bytes_len, VY]
 refine VXC_e (l11Num_ok (b ++ (varB v.view.toNat ++ (varB v.height.toNat ++ v.block))) v.who hs.who (by simp only [List.length_append]; omega)) (by first | rfl | (simp [argsD, argDs, argD, St.slc, lk_cons, lk] <;> repeat' constructor)) rfl ?_
 simp (disch := omega) [bytes_app, bytes_len, putE, h0, vtB, VY]
def pathLen (i n : Nat) : Nat := if h : n < 2 then 0 else
 have := splitAt_in (n := n) (by omega)
 if i < splitAt n then 1 + pathLen i (splitAt n) else 1 + pathLen (i - splitAt n) (n - splitAt n)
termination_by n
theorem pathLen_lo {i n : Nat} (h : n < 2) : pathLen i n = 0 := by rw [pathLen, dif_pos h]
theorem pathLen_l {i n : Nat} (h : 2 ≤ n) (hi : i < splitAt n) : pathLen i n = 1 + pathLen i (splitAt n) := by rw [pathLen, dif_neg (by omega), if_pos hi]
theorem pathLen_r {i n : Nat} (h : 2 ≤ n) (hi : ¬ i < splitAt n) : pathLen i n = 1 + pathLen (i - splitAt n) (n - splitAt n) := by rw [pathLen, dif_neg (by omega), if_neg hi]
theorem pathLen_le : ∀ (n i : Nat), pathLen i n ≤ n := by
 intro n
 induction n using Nat.strongRecOn with
 | ind n ih =>
 intro i
 rcases Nat.lt_or_ge n 2 with h | h
 ·rw [pathLen_lo h]; omega
 ·have h1 := splitAt_in h
  by_cases hi : i < splitAt n
  ·rw [pathLen_l h hi]; have := ih (splitAt n) h1.2 i; omega
  ·rw [pathLen_r h hi]; have := ih (n - splitAt n) (by omega) (i - splitAt n); omega
abbrev n_impl_PathLen : Nat := 280
def c_impl_PathLen : AF := ⟨2, 6, [.tmp 4], (.seq (.ops [.i (.mov 4 (qi 0))]) (.seq (.seq (.ops [qm 6 1, .i (.bin 7 .lss (.s 6) (qi 2)), qm 8 7, .g 8 false 10 (.mov 9 (.s 1)), .g 8 false 11 (.bin 10 .gtr (.s 9) (qi 1048576)), .i (.pick 11 (.s 8) (qb true) (.s 10)), qm 12 11, .g 12 false 14 (.mov 13 (.s 0)), .g 12 false 15 (.mov 14 (.s 1)), .g 12 false 16 (.bin 15 .sub (.s 14) (qi 1)), .g 12 false 17 (.call 17 62 false [(.s 13), (qi 0), (.s 15)]), .g 12 false 18 (.not 17 (.s 16)), .i (.pick 18 (.s 12) (qb true) (.s 17))]) (.cond (.s 18) (.seq (.ops [.i (.mov 4 (qi 0))]) .ret) .skip)) (.seq (.ops [qm 19 1, .i (.call 21 292 false [(.s 19)]), qm 5 20]) (.seq (.seq (.ops [qm 21 0, qm 22 5, .i (.bin 23 .lss (.s 21) (.s 22))]) (.cond (.s 23) (.seq (.ops [qm 24 0, qm 25 5, .i (.call 27 280 false [(.s 24), (.s 25)]), .i (.bin 27 .add (qi 1) (.s 26)), qm 4 27]) .ret) .skip)) (.seq (.ops [qm 28 0, qm 29 5, .i (.bin 30 .sub (.s 28) (.s 29)), qm 31 1, qm 32 5, .i (.bin 33 .sub (.s 31) (.s 32)), .i (.call 35 280 false [(.s 30), (.s 33)]), .i (.bin 35 .add (qi 1) (.s 34)), qm 4 35]) .ret)))))⟩
theorem k_impl_PathLen : cd n_impl_PathLen = some c_impl_PathLen := by kernel_rfl
theorem impl_PathLen_ok : ∀ (n i : Nat), i < n → n ≤ 1048576 → VC cd n_impl_PathLen (mkP [(false, [.int .i64 (i : Int)]), (false, [.int .i64 (n : Int)])]) (fun rs _ => rs = it (pathLen i n)) := by
 intro n
 induction n using Nat.strongRecOn with
 | ind n ih =>
 intro i hi hn
 have hp := pathLen_le n i
 have he : inn (i : Int) 0 ((n : Int) - 1) = true := by simp only [inn, decide_eq_true_eq]; omega
 refine VC_enter k_impl_PathLen rfl ?_
 simp (disch := omega) [c_impl_PathLen, VY]
 refine VXB_dec (fun h1 => ?_) (fun h1 => ?_)
 ·simp (disch := omega) [h1, pathLen_lo (i := i) (n := n) (by omega), VY]
 have h2 : 2 ≤ n := by omega
 obtain ⟨k1, k2⟩ := splitAt_in h2
 simp (disch := omega) [h1, VY]
 refine VXB_dec (fun h3 => ?_) (fun h3 => ?_)
 ·omega
 simp (disch := omega) [h1, h3, VY]
 refine VXC_e (within_ok (i : Int) 0 ((n : Int) - 1)) (by first | rfl | (simp [argsD, argDs, argD, St.slc, lk_cons, lk] <;> repeat' constructor)) rfl ?_
 simp (disch := omega) [h1, h3, he, VY]
 refine VXC_e (impl_SplitAt_ok n (by omega)) (by first | rfl | (simp [argsD, argDs, argD, St.slc, lk_cons, lk] <;> repeat' constructor)) rfl ?_
 simp (disch := omega) [VY]
 refine VXB_dec (fun h4 => ?_) (fun h4 => ?_)
 ·have h5 : i < splitAt n := by omega
  have h6 := pathLen_l h2 h5
  simp (disch := omega) [h4, VY]
  refine VXC_e (ih (splitAt n) k2 i h5 (by omega)) (by first | rfl | (simp [argsD, argDs, argD, St.slc, lk_cons, lk] <;> repeat' constructor)) rfl ?_
  have h7 := pathLen_le (splitAt n) i
  simp (disch := omega) [h6, VY]
 ·have h5 : ¬ i < splitAt n := by omega
  have h6 := pathLen_r h2 h5
  have t1 : (i : Int) - (splitAt n : Int) = ((i - splitAt n : Nat) : Int) := by omega
  have t2 : (n : Int) - (splitAt n : Int) = ((n - splitAt n : Nat) : Int) := by omega
  simp (disch := omega) [h4, t1, t2, VY]
  refine VXC_e (ih (n - splitAt n) (by omega) (i - splitAt n) (by omega) (by omega)) (by first | rfl | (simp [argsD, argDs, argD, St.slc, lk_cons, lk] <;> repeat' constructor)) rfl ?_
  have h7 := pathLen_le (n - splitAt n) (i - splitAt n)
  simp (disch := omega) [h6, VY]
abbrev n_spec_l08In : Nat := 290
def c_spec_l08In : AF := ⟨2, 4, [.tmp 4], (.seq (.ops [.i (.mov 4 (qb false))]) (.seq (.ops [qm 5 1, .i (.call 7 152 false [(.s 5), (qi 1), (qi 1048576)]), qm 7 6, .g 7 true 9 (.mov 8 (.s 0)), .g 7 true 10 (.mov 9 (.s 1)), .g 7 true 11 (.bin 10 .sub (.s 9) (qi 1)), .g 7 true 12 (.call 12 152 false [(.s 8), (qi 0), (.s 10)]), .i (.pick 12 (.s 7) (.s 11) (qb false)), qm 4 12]) .ret))⟩
theorem k_spec_l08In : cd n_spec_l08In = some c_spec_l08In := by kernel_rfl
theorem l08In_ok (i n : Nat) (hn : n ≤ 1048576) : VC cd n_spec_l08In (mkP [(false, [.int .i64 (i : Int)]), (false, [.int .i64 (n : Int)])]) (fun rs _ => rs = bl (inn (n : Int) 1 1048576 && inn (i : Int) 0 ((n : Int) - 1))) := by
 refine VC_enter k_spec_l08In rfl ?_
 simp (disch := omega) [c_spec_l08In, VY]
 refine VXC_e (l01In_ok (n : Int) 1 1048576) (by first | rfl | (simp [argsD, argDs, argD, St.slc, lk_cons, lk] <;> repeat' constructor)) rfl ?_
 simp (disch := omega) [VY]
 refine VXB_b (fun h1 => ?_) (fun h1 => ?_) <;> simp (disch := omega) [h1, VY]
 refine VXC_e (l01In_ok (i : Int) 0 ((n : Int) - 1)) (by first | rfl | (simp [argsD, argDs, argD, St.slc, lk_cons, lk] <;> repeat' constructor)) rfl ?_
 simp (disch := omega) [h1, VY]
abbrev n_spec_PathLen : Nat := 277
def c_spec_PathLen : AF := ⟨2, 5, [.tmp 4], (.seq (.ops [.i (.mov 4 (qi 0))]) (.seq (.seq (.ops [qm 6 0, qm 7 1, .i (.call 9 290 false [(.s 6), (.s 7)]), .i (.not 9 (.s 8)), qm 10 9, .g 10 false 12 (.mov 11 (.s 1)), .g 10 false 13 (.bin 12 .eql (.s 11) (qi 1)), .i (.pick 13 (.s 10) (qb true) (.s 12))]) (.cond (.s 13) (.seq (.ops [.i (.mov 4 (qi 0))]) .ret) .skip)) (.seq (.ops [qm 14 1, .i (.call 16 288 false [(.s 14)]), qm 5 15]) (.seq (.seq (.ops [qm 16 0, qm 17 5, .i (.bin 18 .lss (.s 16) (.s 17))]) (.cond (.s 18) (.seq (.ops [qm 19 0, qm 20 5, .i (.call 22 277 false [(.s 19), (.s 20)]), .i (.bin 22 .add (qi 1) (.s 21)), qm 4 22]) .ret) .skip)) (.seq (.ops [qm 23 0, qm 24 5, .i (.bin 25 .sub (.s 23) (.s 24)), qm 26 1, qm 27 5, .i (.bin 28 .sub (.s 26) (.s 27)), .i (.call 30 277 false [(.s 25), (.s 28)]), .i (.bin 30 .add (qi 1) (.s 29)), qm 4 30]) .ret)))))⟩
theorem k_spec_PathLen : cd n_spec_PathLen = some c_spec_PathLen := by kernel_rfl
theorem spec_PathLen_ok : ∀ (n i : Nat), i < n → n ≤ 1048576 → VC cd n_spec_PathLen (mkP [(false, [.int .i64 (i : Int)]), (false, [.int .i64 (n : Int)])]) (fun rs _ => rs = it (pathLen i n)) := by
 intro n
 induction n using Nat.strongRecOn with
 | ind n ih =>
 intro i hi hn
 have hp := pathLen_le n i
 have he : inn (i : Int) 0 ((n : Int) - 1) = true := by simp only [inn, decide_eq_true_eq]; omega
 have he2 : inn (n : Int) 1 1048576 = true := by simp only [inn, decide_eq_true_eq]; omega
 refine VC_enter k_spec_PathLen rfl ?_
 simp (disch := omega) [c_spec_PathLen, VY]
 refine VXC_e (l08In_ok i n hn) (by first | rfl | (simp [argsD, argDs, argD, St.slc, lk_cons, lk] <;> repeat' constructor)) rfl ?_
 simp (disch := omega) [he, he2, VY]
 refine VXB_dec (fun h1 => ?_) (fun h1 => ?_)
 ·simp (disch := omega) [h1, pathLen_lo (i := i) (n := n) (by omega), VY]
 have h2 : 2 ≤ n := by omega
 obtain ⟨k1, k2⟩ := splitAt_in h2
 simp (disch := omega) [h1, VY]
 refine VXC_e (spec_SplitAt_ok n (by omega)) (by first | rfl | (simp [argsD, argDs, argD, St.slc, lk_cons, lk] <;> repeat' constructor)) rfl ?_
 simp (disch := omega) [VY]
 refine VXB_dec (fun h4 => ?_) (fun h4 => ?_)
 ·have h5 : i < splitAt n := by omega
  have h6 := pathLen_l h2 h5
  simp (disch := omega) [h4, VY]
  refine VXC_e (ih (splitAt n) k2 i h5 (by omega)) (by first | rfl | (simp [argsD, argDs, argD, St.slc, lk_cons, lk] <;> repeat' constructor)) rfl ?_
  have h7 := pathLen_le (splitAt n) i
  simp (disch := omega) [h6, VY]
 ·have h5 : ¬ i < splitAt n := by omega
  have h6 := pathLen_r h2 h5
  have t1 : (i : Int) - (splitAt n : Int) = ((i - splitAt n : Nat) : Int) := by omega
  have t2 : (n : Int) - (splitAt n : Int) = ((n - splitAt n : Nat) : Int) := by omega
  simp (disch := omega) [h4, t1, t2, VY]
  refine VXC_e (ih (n - splitAt n) (by omega) (i - splitAt n) (by omega) (by omega)) (by first | rfl | (simp [argsD, argDs, argD, St.slc, lk_cons, lk] <;> repeat' constructor)) rfl ?_
  have h7 := pathLen_le (n - splitAt n) (i - splitAt n)
  simp (disch := omega) [h6, VY]
theorem lim_txs {l : Lim} (h : l.ok = true) : 0 ≤ l.tx ∧ l.tx ≤ 40 ∧ l.txs ≤ 8 := by
 simp only [Lim.ok, Bool.and_eq_true] at h
 have h1 := inn_of h.1.1.1.2
 have h2 := inn_of h.1.1.2
 omega
def inclOk (l : Lim) (x : Incl) : Bool := l.ok && isNum x.height && inn x.n 1 l.txs && inn x.idx 0 (x.n - 1) && decide ((x.tx.length : Int) ≤ l.tx) && decide (x.path.length = pathLen x.idx.toNat x.n.toNat) && hashes x.path
def inclB (x : Incl) : Bytes := varB x.height.toNat ++ (varB x.n.toNat ++ (varB x.idx.toNat ++ (textB x.tx ++ x.path.flatten)))
def entOk (l : Lim) (t : Tc) (i : Nat) : Bool := match t.entries[i]? with
 | some e => inn e.who 0 (l.n - 1) && inn e.high 0 (t.view - 1) && hash e.tag && (decide (i = 0) || match t.entries[i - 1]? with | some d => decide (d.who < e.who) | none => false)
 | none => false
def tcOk (l : Lim) (t : Tc) : Bool := l.ok && isNum t.view && decide ((t.entries.length : Int) ≤ l.n) && (List.range t.entries.length).all (entOk l t)
def entB (e : Entry) : Bytes := varB e.who.toNat ++ (varB e.high.toNat ++ e.tag)
def tcB (t : Tc) : Bytes := varB t.view.toNat ++ (varB t.entries.length ++ (t.entries.map entB).flatten)
def blockB (x : Block) : Bytes := headB x.head ++ (varB x.txs.length ++ (x.txs.map textB).flatten)
def proofB (p : Proof) : Bytes := varB p.heads.length ++ ((p.heads.map headB).flatten ++ qcB p.qc)
abbrev n_impl_InclOk : Nat := 247
def c_impl_InclOk : AF := ⟨2, 6, [.tmp 4], (.seq (.ops [.i (.lbox 2 (.s 0)), .i (.lbox 3 (.s 1)), .i (.mov 4 (qb false))]) (.seq (.ops [ql 5 2 2 5 true, .i (.call 7 134 false [(.s 5)]), qm 7 6, .g 7 true 9 (.fad 8 (.s 3) 0), .g 7 true 10 (.ldl 9 3 (.s 8) 1 false), .g 7 true 11 (.call 11 213 false [(.s 9)]), .i (.pick 11 (.s 7) (.s 10) (qb false)), qm 12 11, .g 12 true 14 (.fad 13 (.s 3) 1), .g 12 true 15 (.ldl 14 3 (.s 13) 1 false), .g 12 true 16 (.fad 15 (.s 2) 2), .g 12 true 17 (.ldl 16 2 (.s 15) 1 false), .g 12 true 18 (.call 18 62 false [(.s 14), (qi 1), (.s 16)]), .i (.pick 18 (.s 12) (.s 17) (qb false)), qm 19 18, .g 19 true 21 (.fad 20 (.s 3) 2), .g 19 true 22 (.ldl 21 3 (.s 20) 1 false), .g 19 true 23 (.fad 22 (.s 3) 1), .g 19 true 24 (.ldl 23 3 (.s 22) 1 false), .g 19 true 25 (.bin 24 .sub (.s 23) (qi 1)), .g 19 true 26 (.call 26 62 false [(.s 21), (qi 0), (.s 24)]), .i (.pick 26 (.s 19) (.s 25) (qb false)), qm 27 26, .g 27 true 29 (.fad 28 (.s 3) 3), .g 27 true 30 (.ldl 29 3 (.s 28) 1 false), .g 27 true 31 (.len 30 false (.s 29)), .g 27 true 32 (.fad 31 (.s 2) 1), .g 27 true 33 (.ldl 32 2 (.s 31) 1 false), .g 27 true 34 (.bin 33 .leq (.s 30) (.s 32)), .i (.pick 34 (.s 27) (.s 33) (qb false)), qm 35 34, .g 35 true 37 (.fad 36 (.s 3) 4), .g 35 true 38 (.ldl 37 3 (.s 36) 1 false), .g 35 true 39 (.len 38 false (.s 37)), .g 35 true 40 (.fad 39 (.s 3) 2), .g 35 true 41 (.ldl 40 3 (.s 39) 1 false), .g 35 true 42 (.fad 41 (.s 3) 1), .g 35 true 43 (.ldl 42 3 (.s 41) 1 false), .g 35 true 44 (.call 44 280 false [(.s 40), (.s 42)]), .g 35 true 45 (.bin 44 .eql (.s 38) (.s 43)), .i (.pick 45 (.s 35) (.s 44) (qb false)), qm 46 45, .g 46 true 48 (.fad 47 (.s 3) 4), .g 46 true 49 (.ldl 48 3 (.s 47) 1 false), .g 46 true 50 (.call 50 214 false [(.s 48)]), .i (.pick 50 (.s 46) (.s 49) (qb false)), qm 4 50]) .ret))⟩
theorem k_impl_InclOk : cd n_impl_InclOk = some c_impl_InclOk := by kernel_rfl
theorem impl_InclOk_ok (l : Lim) (x : Incl) (hw : x.wc) : VC cd n_impl_InclOk (mkP [(true, l.c), (true, x.c)]) (fun rs _ => rs = bl (inclOk l x)) := by
 obtain ⟨w1, w2, w3, w4, w5, w6⟩ := hw
 simp only [Sz] at w4 w5
 refine VC_enter k_impl_InclOk rfl ?_
 simp (disch := omega) [c_impl_InclOk, Lim.c, Incl.c, VY]
 refine VXC_e (impl_LimitsOk_ok l) (by first | rfl | (simp [Lim.c, argsD, argDs, argD, St.slc, lk_cons, lk] <;> repeat' constructor)) rfl ?_
 simp (disch := omega) [VY]
 refine VXB_b (fun h1 => ?_) (fun h1 => ?_) <;> simp (disch := omega) [h1, inclOk, VY]
 have hn := lim_n h1
 have ht := lim_txs h1
 refine VXC_e (isNum_ok x.height) (by first | rfl | (simp [argsD, argDs, argD, St.slc, lk_cons, lk] <;> repeat' constructor)) rfl ?_
 simp (disch := omega) [h1, VY]
 refine VXB_b (fun h2 => ?_) (fun h2 => ?_) <;> simp (disch := omega) [h1, h2, VY]
 refine VXC_e (within_ok x.n 1 l.txs) (by first | rfl | (simp [argsD, argDs, argD, St.slc, lk_cons, lk] <;> repeat' constructor)) rfl ?_
 simp (disch := omega) [h1, h2, VY]
 refine VXB_b (fun h3 => ?_) (fun h3 => ?_)
 case refine_2 => simp (disch := omega) [h1, h2, h3, VY]
 have h3' := inn_of h3
 simp (disch := omega) [h1, h2, h3, VY]
 refine VXC_e (within_ok x.idx 0 (x.n - 1)) (by first | rfl | (simp [argsD, argDs, argD, St.slc, lk_cons, lk] <;> repeat' constructor)) rfl ?_
 simp (disch := omega) [h1, h2, h3, VY]
 refine VXB_b (fun h4 => ?_) (fun h4 => ?_) <;> simp (disch := omega) [h1, h2, h3, h4, bytes_len, VY]
 have h4' := inn_of h4
 refine VXB_dec (fun h5 => ?_) (fun h5 => ?_) <;> simp (disch := omega) [h1, h2, h3, h4, h5, bss_len, VY]
 obtain ⟨N, hN⟩ : ∃ N : Nat, x.n = (N : Int) := ⟨x.n.toNat, by omega⟩
 obtain ⟨I, hI⟩ : ∃ I : Nat, x.idx = (I : Int) := ⟨x.idx.toNat, by omega⟩
 have hp := pathLen_le N I
 refine VXC_e (impl_PathLen_ok N I (by omega) (by omega)) (by first | rfl | (simp [hN, hI, argsD, argDs, argD, St.slc, lk_cons, lk] <;> repeat' constructor)) rfl ?_
 simp (disch := omega) [h1, h2, h3, h4, h5, bss_len, hN, hI, VY]
 refine VXB_dec (fun h6 => ?_) (fun h6 => ?_)
 ·have h7 : x.path.length = pathLen I N := by omega
  simp (disch := omega) [h1, h2, h3, h4, h5, h6, h7, bss_len, hN, hI, VY]
  refine VXC_e (areHashes_ok x.path (by omega)) (by first | rfl | (simp [argsD, argDs, argD, St.slc, lk_cons, lk] <;> repeat' constructor)) rfl ?_
  simp (disch := omega) [h1, h2, h3, h4, h5, h6, h7, hN, hI, VY]
 ·have h7 : ¬ x.path.length = pathLen I N := by omega
  simp (disch := omega) [h1, h2, h3, h4, h5, h6, h7, bss_len, hN, hI, VY]
abbrev n_spec_InclOk : Nat := 238
def c_spec_InclOk : AF := ⟨2, 6, [.tmp 4], (.seq (.ops [.i (.lbox 2 (.s 0)), .i (.lbox 3 (.s 1)), .i (.mov 4 (qb false))]) (.seq (.ops [ql 5 2 2 5 true, .i (.call 7 142 false [(.s 5)]), qm 7 6, .g 7 true 9 (.fad 8 (.s 3) 0), .g 7 true 10 (.ldl 9 3 (.s 8) 1 false), .g 7 true 11 (.call 11 201 false [(.s 9)]), .i (.pick 11 (.s 7) (.s 10) (qb false)), qm 12 11, .g 12 true 14 (.fad 13 (.s 3) 1), .g 12 true 15 (.ldl 14 3 (.s 13) 1 false), .g 12 true 16 (.fad 15 (.s 2) 2), .g 12 true 17 (.ldl 16 2 (.s 15) 1 false), .g 12 true 18 (.call 18 152 false [(.s 14), (qi 1), (.s 16)]), .i (.pick 18 (.s 12) (.s 17) (qb false)), qm 19 18, .g 19 true 21 (.fad 20 (.s 3) 2), .g 19 true 22 (.ldl 21 3 (.s 20) 1 false), .g 19 true 23 (.fad 22 (.s 3) 1), .g 19 true 24 (.ldl 23 3 (.s 22) 1 false), .g 19 true 25 (.bin 24 .sub (.s 23) (qi 1)), .g 19 true 26 (.call 26 152 false [(.s 21), (qi 0), (.s 24)]), .i (.pick 26 (.s 19) (.s 25) (qb false)), qm 27 26, .g 27 true 29 (.fad 28 (.s 3) 3), .g 27 true 30 (.ldl 29 3 (.s 28) 1 false), .g 27 true 31 (.len 30 false (.s 29)), .g 27 true 32 (.fad 31 (.s 2) 1), .g 27 true 33 (.ldl 32 2 (.s 31) 1 false), .g 27 true 34 (.bin 33 .leq (.s 30) (.s 32)), .i (.pick 34 (.s 27) (.s 33) (qb false)), qm 35 34, .g 35 true 37 (.fad 36 (.s 3) 4), .g 35 true 38 (.ldl 37 3 (.s 36) 1 false), .g 35 true 39 (.len 38 false (.s 37)), .g 35 true 40 (.fad 39 (.s 3) 2), .g 35 true 41 (.ldl 40 3 (.s 39) 1 false), .g 35 true 42 (.fad 41 (.s 3) 1), .g 35 true 43 (.ldl 42 3 (.s 41) 1 false), .g 35 true 44 (.call 44 277 false [(.s 40), (.s 42)]), .g 35 true 45 (.bin 44 .eql (.s 38) (.s 43)), .i (.pick 45 (.s 35) (.s 44) (qb false)), qm 46 45, .g 46 true 48 (.fad 47 (.s 3) 4), .g 46 true 49 (.ldl 48 3 (.s 47) 1 false), .g 46 true 50 (.call 50 256 false [(.s 48)]), .i (.pick 50 (.s 46) (.s 49) (qb false)), qm 4 50]) .ret))⟩
theorem k_spec_InclOk : cd n_spec_InclOk = some c_spec_InclOk := by kernel_rfl
theorem spec_InclOk_ok (l : Lim) (x : Incl) (hw : x.wc) : VC cd n_spec_InclOk (mkP [(true, l.c), (true, x.c)]) (fun rs _ => rs = bl (inclOk l x)) := by
 obtain ⟨w1, w2, w3, w4, w5, w6⟩ := hw
 simp only [Sz] at w4 w5
 refine VC_enter k_spec_InclOk rfl ?_
 simp (disch := omega) [c_spec_InclOk, Lim.c, Incl.c, VY]
 refine VXC_e (spec_LimitsOk_ok l) (by first | rfl | (simp [Lim.c, argsD, argDs, argD, St.slc, lk_cons, lk] <;> repeat' constructor)) rfl ?_
 simp (disch := omega) [VY]
 refine VXB_b (fun h1 => ?_) (fun h1 => ?_) <;> simp (disch := omega) [h1, inclOk, VY]
 have hn := lim_n h1
 have ht := lim_txs h1
 refine VXC_e (l01Num_ok x.height) (by first | rfl | (simp [argsD, argDs, argD, St.slc, lk_cons, lk] <;> repeat' constructor)) rfl ?_
 simp (disch := omega) [h1, VY]
 refine VXB_b (fun h2 => ?_) (fun h2 => ?_) <;> simp (disch := omega) [h1, h2, VY]
 refine VXC_e (l01In_ok x.n 1 l.txs) (by first | rfl | (simp [argsD, argDs, argD, St.slc, lk_cons, lk] <;> repeat' constructor)) rfl ?_
 simp (disch := omega) [h1, h2, VY]
 refine VXB_b (fun h3 => ?_) (fun h3 => ?_)
 case refine_2 => simp (disch := omega) [h1, h2, h3, VY]
 have h3' := inn_of h3
 simp (disch := omega) [h1, h2, h3, VY]
 refine VXC_e (l01In_ok x.idx 0 (x.n - 1)) (by first | rfl | (simp [argsD, argDs, argD, St.slc, lk_cons, lk] <;> repeat' constructor)) rfl ?_
 simp (disch := omega) [h1, h2, h3, VY]
 refine VXB_b (fun h4 => ?_) (fun h4 => ?_) <;> simp (disch := omega) [h1, h2, h3, h4, bytes_len, VY]
 have h4' := inn_of h4
 refine VXB_dec (fun h5 => ?_) (fun h5 => ?_) <;> simp (disch := omega) [h1, h2, h3, h4, h5, bss_len, VY]
 obtain ⟨N, hN⟩ : ∃ N : Nat, x.n = (N : Int) := ⟨x.n.toNat, by omega⟩
 obtain ⟨I, hI⟩ : ∃ I : Nat, x.idx = (I : Int) := ⟨x.idx.toNat, by omega⟩
 have hp := pathLen_le N I
 refine VXC_e (spec_PathLen_ok N I (by omega) (by omega)) (by first | rfl | (simp [hN, hI, argsD, argDs, argD, St.slc, lk_cons, lk] <;> repeat' constructor)) rfl ?_
 simp (disch := omega) [h1, h2, h3, h4, h5, bss_len, hN, hI, VY]
 refine VXB_dec (fun h6 => ?_) (fun h6 => ?_)
 ·have h7 : x.path.length = pathLen I N := by omega
  simp (disch := omega) [h1, h2, h3, h4, h5, h6, h7, bss_len, hN, hI, VY]
  refine VXC_e (l08Hashes_ok x.path (by omega)) (by first | rfl | (simp [argsD, argDs, argD, St.slc, lk_cons, lk] <;> repeat' constructor)) rfl ?_
  simp (disch := omega) [h1, h2, h3, h4, h5, h6, h7, hN, hI, VY]
 ·have h7 : ¬ x.path.length = pathLen I N := by omega
  simp (disch := omega) [h1, h2, h3, h4, h5, h6, h7, bss_len, hN, hI, VY]
def textsB (l : List Bytes) : Bytes := (l.map textB).flatten
theorem textsB_next {l : List Bytes} {i : Nat} (h : i < l.length) : textsB (l.take (i + 1)) = textsB (l.take i) ++ textB l[i] := by
 rw [List.take_succ_eq_append_getElem h]
 simp only [textsB, List.map_append, List.map_cons, List.map_nil, List.flatten_append, List.flatten_cons, List.flatten_nil, List.append_nil]
theorem textB_len {x : Bytes} (h : x.length ≤ 1000) : (textB x).length ≤ 1009 := by
 have := varB_nine (n := x.length) (by omega)
 simp only [textB, List.length_append]
 omega
theorem textsB_len : ∀ {l : List Bytes}, (∀ x ∈ l, x.length ≤ 1000) → (textsB l).length ≤ 1009 * l.length
 | [], _ => by simp [textsB]
 | a :: l, h => by
  have h1 := textsB_len (l := l) fun x hx => h x (by simp [hx])
  have h2 := textB_len (h a (by simp))
  simp only [textsB, List.map_cons, List.flatten_cons, List.length_append, List.length_cons] at h1 ⊢
  omega
theorem blockOk_head {l : Lim} {x : Block} (h : blockOk l x = true) : headOk l x.head = true := by
 simp only [blockOk, Bool.and_eq_true] at h
 exact h.1.1.1
theorem blockOk_txs {l : Lim} {x : Block} (h : blockOk l x = true) : ∀ t ∈ x.txs, t.length ≤ 1000 := fun t ht => by
 have h0 := qcOk_lim (headOk_qc (blockOk_head h))
 simp only [Lim.ok, Bool.and_eq_true] at h0
 have h1 := inn_t h0.1.1.1.2
 simp only [blockOk, Bool.and_eq_true, txsOk, List.all_eq_true, decide_eq_true_eq] at h
 have := h.1.2 t ht
 omega
theorem tcOk_no {l : Lim} {t : Tc} {i : Nat} (hi : i < t.entries.length) (h : entOk l t i = false) : tcOk l t = false := by
 unfold tcOk
 rw [Bool.and_eq_false_iff]
 right
 rw [List.all_eq_false]
 exact ⟨i, by simp [hi], by simp [h]⟩
theorem tcOk_yes {l : Lim} {t : Tc} (h : ∀ i, i < t.entries.length → entOk l t i = true) : tcOk l t = (l.ok && isNum t.view && decide ((t.entries.length : Int) ≤ l.n)) := by
 unfold tcOk
 have : (List.range t.entries.length).all (entOk l t) = true := by
  rw [List.all_eq_true]
  intro i hi
  exact h i (by simpa using hi)
 rw [this, Bool.and_true]
theorem ent_next {l : Lim} {t : Tc} {i : Nat} (hd : ∀ j, j < i → entOk l t j = true) (h : entOk l t i = true) : ∀ j, j < i + 1 → entOk l t j = true := fun j hj => by
 rcases Nat.lt_or_ge j i with hl | hl
 ·exact hd j hl
 ·obtain rfl : j = i := by omega
  exact h
abbrev n_impl_TcOk : Nat := 246
def c_impl_TcOk : AF := ⟨2, 7, [.tmp 4], (.seq (.ops [.i (.lbox 2 (.s 0)), .i (.lbox 3 (.s 1)), .i (.mov 4 (qb false))]) (.seq (.seq (.ops [qf 7 3 1, ql 8 3 7 1 false, .i (.len 9 false (.s 8)), .i (.mov 10 (qi 0))]) (.block 0 (.loop [54, 53, 52, 51, 50, 49, 48, 47, 46, 45, 44, 43, 42, 41, 40, 39, 38, 37, 36, 35, 34, 33, 32, 31, 30, 29, 28, 27, 26, 25, 24, 23, 22, 21, 20, 19, 18, 17, 16, 15, 14, 13, 12, 11, 6, 5] (.seq (.ops [.i (.bin 11 .lss (.s 10) (.s 9))]) (.seq (.cond (.s 11) .skip (.exit 0)) (.seq (.block 1 (.seq (.ops [qm 12 10, .i (.iad 13 (.s 8) (.s 10) 3), .i (.ldh 14 (.s 13) 3 true), .i (.lal 6 [.int .i64 0, .int .i64 0, .nils]), qm 5 12, .i (.stl 6 (.s 6) (.s 14) 3)]) (.seq (.ops [qf 15 6 0, ql 16 6 15 1 false, qf 17 2 0, ql 18 2 17 1 false, .i (.bin 19 .sub (.s 18) (qi 1)), .i (.call 21 62 false [(.s 16), (qi 0), (.s 19)]), .i (.not 21 (.s 20)), qm 22 21, .g 22 false 24 (.mov 23 (.s 5)), .g 22 false 25 (.bin 24 .gtr (.s 23) (qi 0)), .g 22 false 26 (.mov 25 (.s 24)), .g 25 true 27 (.fad 26 (.s 6) 0), .g 25 true 28 (.ldl 27 6 (.s 26) 1 false), .g 25 true 29 (.fad 28 (.s 3) 1), .g 25 true 30 (.ldl 29 3 (.s 28) 1 false), .g 25 true 31 (.mov 30 (.s 5)), .g 25 true 32 (.bin 31 .sub (.s 30) (qi 1)), .g 25 true 33 (.iad 32 (.s 29) (.s 31) 3), .g 25 true 34 (.fad 33 (.s 32) 0), .g 25 true 35 (.ldh 34 (.s 33) 1 false), .g 25 true 36 (.bin 35 .leq (.s 27) (.s 34)), .g 22 false 37 (.pick 36 (.s 25) (.s 35) (qb false)), .i (.pick 37 (.s 22) (qb true) (.s 36)), qm 38 37, .g 38 false 40 (.fad 39 (.s 6) 1), .g 38 false 41 (.ldl 40 6 (.s 39) 1 false), .g 38 false 42 (.fad 41 (.s 3) 0), .g 38 false 43 (.ldl 42 3 (.s 41) 1 false), .g 38 false 44 (.bin 43 .sub (.s 42) (qi 1)), .g 38 false 45 (.call 45 62 false [(.s 40), (qi 0), (.s 43)]), .g 38 false 46 (.not 45 (.s 44)), .i (.pick 46 (.s 38) (qb true) (.s 45)), qm 47 46, .g 47 false 49 (.fad 48 (.s 6) 2), .g 47 false 50 (.ldl 49 6 (.s 48) 1 false), .g 47 false 51 (.bsl 50 22 1 1 [.nils] [(0, 1, (.s 49))]), .g 47 false 52 (.call 52 214 false [(.s 50)]), .g 47 false 53 (.not 52 (.s 51)), .i (.pick 53 (.s 47) (qb true) (.s 52))]) (.cond (.s 53) (.seq (.ops [.i (.mov 4 (qb false))]) .ret) .skip)))) (.ops [.i (.bin 54 .add (.s 10) (qi 1)), qm 10 54]))))))) (.seq (.ops [ql 55 2 2 5 true, .i (.call 57 134 false [(.s 55)]), qm 57 56, .g 57 true 59 (.fad 58 (.s 3) 0), .g 57 true 60 (.ldl 59 3 (.s 58) 1 false), .g 57 true 61 (.call 61 213 false [(.s 59)]), .i (.pick 61 (.s 57) (.s 60) (qb false)), qm 62 61, .g 62 true 64 (.fad 63 (.s 3) 1), .g 62 true 65 (.ldl 64 3 (.s 63) 1 false), .g 62 true 66 (.len 65 false (.s 64)), .g 62 true 67 (.fad 66 (.s 2) 0), .g 62 true 68 (.ldl 67 2 (.s 66) 1 false), .g 62 true 69 (.bin 68 .leq (.s 65) (.s 67)), .i (.pick 69 (.s 62) (.s 68) (qb false)), qm 4 69]) .ret)))⟩
theorem k_impl_TcOk : cd n_impl_TcOk = some c_impl_TcOk := by kernel_rfl
theorem impl_TcOk_y (l : Lim) (t : Tc) (hw : t.wf) (h0 : (l.ok && isNum t.view) = true) : VC cd n_impl_TcOk (mkP [(true, l.c), (true, t.c)]) (fun rs _ => rs = bl (tcOk l t)) := by
 have w1 := hw.2.1
 simp only [Sz] at w1
 have hA : l.ok = true ∧ isNum t.view = true := by simpa using h0
 have hn := lim_n hA.1
 have hv := inn_of hA.2
 refine VC_enter k_impl_TcOk rfl ?_
 simp (disch := omega) [c_impl_TcOk, Lim.c, Tc.c, ens_len, VY]
 refine VX_loopO (σ := Nat) (f1 := _) (es0 := _) (by simp (disch := omega) [VY]; rfl) (by simp (disch := omega) [VY]; rfl) (fun i => [(10, .val false [.int .i64 (i : Int)])]) (fun _ => []) (fun i g => g + i = t.entries.length ∧ ∀ j, j < i → entOk l t j = true) 0 t.entries.length (by simp (disch := omega) [VY]) (by simp (disch := omega) [VY]) ⟨by omega, fun j hj => by omega⟩ ?_
 rintro i n g ⟨hg, hd⟩ P hP
 simp (disch := omega) [VY]
 refine VXB_dec (fun h1 => ?_) (fun h1 => ?_)
 case refine_2 =>
  have hY := tcOk_yes (l := l) (t := t) (fun i hi => hd i (by omega))
  simp (disch := omega) [VY]
  refine VXC_e (impl_LimitsOk_ok l) (by first | rfl | (simp [Lim.c, argsD, argDs, argD, St.slc, lk_cons, lk] <;> repeat' constructor)) rfl ?_
  simp (disch := omega) [hA.1, VY]
  refine VXC_e (isNum_ok t.view) (by first | rfl | (simp [argsD, argDs, argD, St.slc, lk_cons, lk] <;> repeat' constructor)) rfl ?_
  simp (disch := omega) [hA.1, hA.2, ens_len, hY, VY]
 have hi : i < t.entries.length := by omega
 simp (disch := omega) [ens_get hi, VY]
 refine VXC_e (within_ok t.entries[i].who 0 (l.n - 1)) (by first | rfl | (simp [argsD, argDs, argD, St.slc, lk_cons, lk] <;> repeat' constructor)) rfl ?_
 simp (disch := omega) [VY]
 refine VXB_b (fun h2 => ?_) (fun h2 => ?_)
 case refine_2 => simp (disch := omega) [h2, tcOk_no hi (show entOk l t i = false by simp [entOk, hi, h2]), VY]
 simp (disch := omega) [h2, VY]
 refine VXB_dec (fun h3 => ?_) (fun h3 => ?_)
 ·have hj : i - 1 < t.entries.length := by omega
  have e1 : ((i : Int) - 1).toNat = i - 1 := by omega
  have e2 : (1 : Int) ≤ (i : Int) := by omega
  have e3 : ¬ i = 0 := by omega
  simp (disch := omega) [h2, h3, ens_len, e1, e2, ens_get hj, VY]
  refine VXB_dec (fun h4 => ?_) (fun h4 => ?_)
  ·simp (disch := omega) [h2, h3, h4, tcOk_no hi (show entOk l t i = false by simp [entOk, hi, hj, e3, show ¬ t.entries[i - 1].who < t.entries[i].who by omega]), VY]
  have e4 : t.entries[i - 1].who < t.entries[i].who := by omega
  simp (disch := omega) [h2, h3, h4, VY]
  refine VXC_e (within_ok t.entries[i].high 0 (t.view - 1)) (by first | rfl | (simp [argsD, argDs, argD, St.slc, lk_cons, lk] <;> repeat' constructor)) rfl ?_
  simp (disch := omega) [h2, h3, h4, VY]
  refine VXB_b (fun h6 => ?_) (fun h6 => ?_)
  case refine_2 => simp (disch := omega) [h2, h3, h4, h6, tcOk_no hi (show entOk l t i = false by simp [entOk, hi, h6]), VY]
  simp (disch := omega) [h2, h3, h4, h6, VY]
  refine VXC_e (areHashes_ok [t.entries[i].tag] (by simp)) (by first | rfl | (simp [bss, argsD, argDs, argD, St.slc, lk_cons, lk] <;> repeat' constructor)) rfl ?_
  simp (disch := omega) [h2, h3, h4, h6, hashes_one, VY]
  refine VXB_b (fun h7 => ?_) (fun h7 => ?_)
  case refine_2 => simp (disch := omega) [h2, h3, h4, h6, h7, tcOk_no hi (show entOk l t i = false by simp [entOk, hi, h7]), VY]
  simp (disch := omega) [h2, h3, h4, h6, h7, VY]
  exact hP (i + 1) (g - 1) _ _ (by omega) ⟨by omega, ent_next hd (by simp [entOk, hi, h2, h6, h7, hj, e4])⟩ (by simp (disch := omega) [VY]) (by simp (disch := omega) [VY])
 ·simp (disch := omega) [h2, h3, VY]
  have e4 : i = 0 := by omega
  refine VXC_e (within_ok t.entries[i].high 0 (t.view - 1)) (by first | rfl | (simp [argsD, argDs, argD, St.slc, lk_cons, lk] <;> repeat' constructor)) rfl ?_
  simp (disch := omega) [h2, h3, VY]
  refine VXB_b (fun h6 => ?_) (fun h6 => ?_)
  case refine_2 => simp (disch := omega) [h2, h3, h6, tcOk_no hi (show entOk l t i = false by simp [entOk, hi, h6]), VY]
  simp (disch := omega) [h2, h3, h6, VY]
  refine VXC_e (areHashes_ok [t.entries[i].tag] (by simp)) (by first | rfl | (simp [bss, argsD, argDs, argD, St.slc, lk_cons, lk] <;> repeat' constructor)) rfl ?_
  simp (disch := omega) [h2, h3, h6, hashes_one, VY]
  refine VXB_b (fun h7 => ?_) (fun h7 => ?_)
  case refine_2 => simp (disch := omega) [h2, h3, h6, h7, tcOk_no hi (show entOk l t i = false by simp [entOk, hi, h7]), VY]
  simp (disch := omega) [h2, h3, h6, h7, VY]
  exact hP (i + 1) (g - 1) _ _ (by omega) ⟨by omega, ent_next hd (by subst e4; simp [entOk, hi, h2, h6, h7])⟩ (by simp (disch := omega) [VY]) (by simp (disch := omega) [VY])
theorem impl_TcOk_n (l : Lim) (t : Tc) (hw : t.wf) (h0 : (l.ok && isNum t.view) = false) : VC cd n_impl_TcOk (mkP [(true, l.c), (true, t.c)]) (fun rs _ => rs = bl (tcOk l t)) := by
 have w1 := hw.2.1
 simp only [Sz] at w1
 have hF : tcOk l t = false := by unfold tcOk; rw [h0]; rfl
 refine VC_enter k_impl_TcOk rfl ?_
 simp (disch := omega) [c_impl_TcOk, Lim.c, Tc.c, ens_len, VY]
 refine VX_loopO (σ := Nat) (f1 := _) (es0 := _) (by simp (disch := omega) [VY]; rfl) (by simp (disch := omega) [VY]; rfl) (fun i => [(10, .val false [.int .i64 (i : Int)])]) (fun _ => []) (fun i g => g + i = t.entries.length) 0 t.entries.length (by simp (disch := omega) [VY]) (by simp (disch := omega) [VY]) (by omega) ?_
 rintro i n g hg P hP
 simp (disch := omega) [VY]
 refine VXB_dec (fun h1 => ?_) (fun h1 => ?_)
 case refine_2 =>
  simp (disch := omega) [VY]
  refine VXC_e (impl_LimitsOk_ok l) (by first | rfl | (simp [Lim.c, argsD, argDs, argD, St.slc, lk_cons, lk] <;> repeat' constructor)) rfl ?_
  simp (disch := omega) [VY]
  refine VXB_b (fun h2 => ?_) (fun h2 => ?_) <;> simp (disch := omega) [h2, hF, VY]
  refine VXC_e (isNum_ok t.view) (by first | rfl | (simp [argsD, argDs, argD, St.slc, lk_cons, lk] <;> repeat' constructor)) rfl ?_
  have h3 : isNum t.view = false := by simpa [h2] using h0
  simp (disch := omega) [h2, h3, hF, VY]
 have hi : i < t.entries.length := by omega
 simp (disch := omega) [ens_get hi, VY]
 refine VXC_e (within_ok t.entries[i].who 0 (IntKind.i64.wrap (l.n - 1))) (by first | rfl | (simp [argsD, argDs, argD, St.slc, lk_cons, lk] <;> repeat' constructor)) rfl ?_
 simp (disch := omega) [VY]
 refine VXB_b (fun h2 => ?_) (fun h2 => ?_)
 case refine_2 => simp (disch := omega) [h2, hF, VY]
 simp (disch := omega) [h2, VY]
 refine VXB_dec (fun h3 => ?_) (fun h3 => ?_)
 ·have hj : i - 1 < t.entries.length := by omega
  have e1 : ((i : Int) - 1).toNat = i - 1 := by omega
  have e2 : (1 : Int) ≤ (i : Int) := by omega
  have e3 : ¬ i = 0 := by omega
  simp (disch := omega) [h2, h3, ens_len, e1, e2, ens_get hj, VY]
  refine VXB_dec (fun h4 => ?_) (fun h4 => ?_)
  ·simp (disch := omega) [h2, h3, h4, hF, VY]
  simp (disch := omega) [h2, h3, h4, VY]
  refine VXC_e (within_ok t.entries[i].high 0 (IntKind.i64.wrap (t.view - 1))) (by first | rfl | (simp [argsD, argDs, argD, St.slc, lk_cons, lk] <;> repeat' constructor)) rfl ?_
  simp (disch := omega) [h2, h3, h4, VY]
  refine VXB_b (fun h6 => ?_) (fun h6 => ?_) <;> simp (disch := omega) [h2, h3, h4, h6, hF, VY]
  refine VXC_e (areHashes_ok [t.entries[i].tag] (by simp)) (by first | rfl | (simp [bss, argsD, argDs, argD, St.slc, lk_cons, lk] <;> repeat' constructor)) rfl ?_
  simp (disch := omega) [h2, h3, h4, h6, hashes_one, VY]
  refine VXB_b (fun h7 => ?_) (fun h7 => ?_)
  case refine_2 => simp (disch := omega) [h2, h3, h4, h6, h7, hF, VY]
  simp (disch := omega) [h2, h3, h4, h6, h7, VY]
  exact hP (i + 1) (g - 1) _ _ (by omega) (by omega) (by simp (disch := omega) [VY]) (by simp (disch := omega) [VY])
 ·simp (disch := omega) [h2, h3, VY]
  refine VXC_e (within_ok t.entries[i].high 0 (IntKind.i64.wrap (t.view - 1))) (by first | rfl | (simp [argsD, argDs, argD, St.slc, lk_cons, lk] <;> repeat' constructor)) rfl ?_
  simp (disch := omega) [h2, h3, VY]
  refine VXB_b (fun h6 => ?_) (fun h6 => ?_) <;> simp (disch := omega) [h2, h3, h6, hF, VY]
  refine VXC_e (areHashes_ok [t.entries[i].tag] (by simp)) (by first | rfl | (simp [bss, argsD, argDs, argD, St.slc, lk_cons, lk] <;> repeat' constructor)) rfl ?_
  simp (disch := omega) [h2, h3, h6, hashes_one, VY]
  refine VXB_b (fun h7 => ?_) (fun h7 => ?_)
  case refine_2 => simp (disch := omega) [h2, h3, h6, h7, hF, VY]
  simp (disch := omega) [h2, h3, h6, h7, VY]
  exact hP (i + 1) (g - 1) _ _ (by omega) (by omega) (by simp (disch := omega) [VY]) (by simp (disch := omega) [VY])
theorem impl_TcOk_ok (l : Lim) (t : Tc) (hw : t.wf) : VC cd n_impl_TcOk (mkP [(true, l.c), (true, t.c)]) (fun rs _ => rs = bl (tcOk l t)) := by
 cases h0 : l.ok && isNum t.view with
 | true => exact impl_TcOk_y l t hw h0
 | false => exact impl_TcOk_n l t hw h0
abbrev n_spec_TcOk : Nat := 236
def c_spec_TcOk : AF := ⟨2, 7, [.tmp 4], (.seq (.ops [.i (.lbox 2 (.s 0)), .i (.lbox 3 (.s 1)), .i (.mov 4 (qb false))]) (.seq (.seq (.ops [ql 7 2 2 5 true, .i (.call 9 142 false [(.s 7)]), .i (.not 9 (.s 8)), qm 10 9, .g 10 false 12 (.fad 11 (.s 3) 0), .g 10 false 13 (.ldl 12 3 (.s 11) 1 false), .g 10 false 14 (.call 14 201 false [(.s 12)]), .g 10 false 15 (.not 14 (.s 13)), .i (.pick 15 (.s 10) (qb true) (.s 14)), qm 16 15, .g 16 false 18 (.fad 17 (.s 3) 1), .g 16 false 19 (.ldl 18 3 (.s 17) 1 false), .g 16 false 20 (.len 19 false (.s 18)), .g 16 false 21 (.fad 20 (.s 2) 0), .g 16 false 22 (.ldl 21 2 (.s 20) 1 false), .g 16 false 23 (.bin 22 .gtr (.s 19) (.s 21)), .i (.pick 23 (.s 16) (qb true) (.s 22))]) (.cond (.s 23) (.seq (.ops [.i (.mov 4 (qb false))]) .ret) .skip)) (.seq (.seq (.ops [qf 24 3 1, ql 25 3 24 1 false, .i (.len 26 false (.s 25)), .i (.mov 27 (qi 0))]) (.block 0 (.loop [73, 72, 71, 70, 69, 68, 67, 66, 65, 64, 63, 62, 61, 60, 59, 58, 57, 56, 55, 54, 53, 52, 51, 50, 49, 48, 47, 46, 45, 44, 43, 42, 41, 40, 39, 38, 37, 36, 35, 34, 33, 32, 31, 30, 29, 28, 6, 5] (.seq (.ops [.i (.bin 28 .lss (.s 27) (.s 26))]) (.seq (.cond (.s 28) .skip (.exit 0)) (.seq (.block 1 (.seq (.ops [qm 29 27, .i (.iad 30 (.s 25) (.s 27) 3), .i (.ldh 31 (.s 30) 3 true), .i (.lal 6 [.int .i64 0, .int .i64 0, .nils]), qm 5 29, .i (.stl 6 (.s 6) (.s 31) 3)]) (.seq (.ops [qf 32 6 0, ql 33 6 32 1 false, qf 34 2 0, ql 35 2 34 1 false, .i (.bin 36 .sub (.s 35) (qi 1)), .i (.call 38 152 false [(.s 33), (qi 0), (.s 36)]), .i (.not 38 (.s 37)), qm 39 38, .g 39 false 41 (.fad 40 (.s 6) 1), .g 39 false 42 (.ldl 41 6 (.s 40) 1 false), .g 39 false 43 (.bin 42 .lss (.s 41) (qi 0)), .i (.pick 43 (.s 39) (qb true) (.s 42)), qm 44 43, .g 44 false 46 (.fad 45 (.s 6) 1), .g 44 false 47 (.ldl 46 6 (.s 45) 1 false), .g 44 false 48 (.fad 47 (.s 3) 0), .g 44 false 49 (.ldl 48 3 (.s 47) 1 false), .g 44 false 50 (.bin 49 .geq (.s 46) (.s 48)), .i (.pick 50 (.s 44) (qb true) (.s 49)), qm 51 50, .g 51 false 53 (.fad 52 (.s 6) 2), .g 51 false 54 (.ldl 53 6 (.s 52) 1 false), .g 51 false 55 (.call 55 202 false [(.s 53)]), .g 51 false 56 (.not 55 (.s 54)), .i (.pick 56 (.s 51) (qb true) (.s 55)), qm 57 56, .g 57 false 59 (.mov 58 (.s 5)), .g 57 false 60 (.bin 59 .gtr (.s 58) (qi 0)), .g 57 false 61 (.mov 60 (.s 59)), .g 60 true 62 (.fad 61 (.s 3) 1), .g 60 true 63 (.ldl 62 3 (.s 61) 1 false), .g 60 true 64 (.mov 63 (.s 5)), .g 60 true 65 (.bin 64 .sub (.s 63) (qi 1)), .g 60 true 66 (.iad 65 (.s 62) (.s 64) 3), .g 60 true 67 (.fad 66 (.s 65) 0), .g 60 true 68 (.ldh 67 (.s 66) 1 false), .g 60 true 69 (.fad 68 (.s 6) 0), .g 60 true 70 (.ldl 69 6 (.s 68) 1 false), .g 60 true 71 (.bin 70 .geq (.s 67) (.s 69)), .g 57 false 72 (.pick 71 (.s 60) (.s 70) (qb false)), .i (.pick 72 (.s 57) (qb true) (.s 71))]) (.cond (.s 72) (.seq (.ops [.i (.mov 4 (qb false))]) .ret) .skip)))) (.ops [.i (.bin 73 .add (.s 27) (qi 1)), qm 27 73]))))))) (.seq (.ops [.i (.mov 4 (qb true))]) .ret))))⟩
theorem k_spec_TcOk : cd n_spec_TcOk = some c_spec_TcOk := by kernel_rfl
theorem spec_TcOk_ok (l : Lim) (t : Tc) (hw : t.wf) : VC cd n_spec_TcOk (mkP [(true, l.c), (true, t.c)]) (fun rs _ => rs = bl (tcOk l t)) := by
 have w1 := hw.2.1
 simp only [Sz] at w1
 refine VC_enter k_spec_TcOk rfl ?_
 simp (disch := omega) [c_spec_TcOk, Lim.c, Tc.c, VY]
 refine VXC_e (spec_LimitsOk_ok l) (by first | rfl | (simp [Lim.c, argsD, argDs, argD, St.slc, lk_cons, lk] <;> repeat' constructor)) rfl ?_
 simp (disch := omega) [VY]
 refine VXB_b (fun h1 => ?_) (fun h1 => ?_)
 case refine_2 => simp (disch := omega) [h1, tcOk, VY]
 simp (disch := omega) [h1, VY]
 refine VXC_e (l01Num_ok t.view) (by first | rfl | (simp [argsD, argDs, argD, St.slc, lk_cons, lk] <;> repeat' constructor)) rfl ?_
 simp (disch := omega) [h1, VY]
 refine VXB_b (fun h2 => ?_) (fun h2 => ?_)
 case refine_2 => simp (disch := omega) [h1, h2, tcOk, VY]
 have hn := lim_n h1
 have hv := inn_of h2
 simp (disch := omega) [h1, h2, ens_len, VY]
 refine VXB_dec (fun h3 => ?_) (fun h3 => ?_)
 ·simp (disch := omega) [h1, h2, h3, tcOk, show ¬ (t.entries.length : Int) ≤ l.n by omega, VY]
 simp (disch := omega) [h1, h2, h3, ens_len, VY]
 refine VX_loopO (σ := Nat) (f1 := _) (es0 := _) (by simp (disch := omega) [VY]; rfl) (by simp (disch := omega) [VY]; rfl) (fun i => [(27, .val false [.int .i64 (i : Int)])]) (fun _ => []) (fun i g => g + i = t.entries.length ∧ ∀ j, j < i → entOk l t j = true) 0 t.entries.length (by simp (disch := omega) [VY]) (by simp (disch := omega) [VY]) ⟨by omega, fun j hj => by omega⟩ ?_
 rintro i n g ⟨hg, hd⟩ P hP
 simp (disch := omega) [VY]
 refine VXB_dec (fun g1 => ?_) (fun g1 => ?_)
 case refine_2 =>
  have hY := tcOk_yes (l := l) (t := t) (fun i hi => hd i (by omega))
  simp (disch := omega) [h1, h2, hY, show (t.entries.length : Int) ≤ l.n by omega, VY]
 have hi : i < t.entries.length := by omega
 simp (disch := omega) [ens_get hi, VY]
 refine VXC_e (l01In_ok t.entries[i].who 0 (l.n - 1)) (by first | rfl | (simp [argsD, argDs, argD, St.slc, lk_cons, lk] <;> repeat' constructor)) rfl ?_
 simp (disch := omega) [VY]
 refine VXB_b (fun g2 => ?_) (fun g2 => ?_)
 case refine_2 => simp (disch := omega) [g2, tcOk_no hi (show entOk l t i = false by simp [entOk, hi, g2]), VY]
 simp (disch := omega) [g2, VY]
 refine VXB_dec (fun g3 => ?_) (fun g3 => ?_)
 ·have e5 : inn t.entries[i].high 0 (t.view - 1) = false := by simp only [inn, decide_eq_false_iff_not]; omega
  simp (disch := omega) [g2, g3, tcOk_no hi (show entOk l t i = false by simp [entOk, hi, e5]), VY]
 simp (disch := omega) [g2, g3, VY]
 refine VXB_dec (fun g4 => ?_) (fun g4 => ?_)
 ·have e5 : inn t.entries[i].high 0 (t.view - 1) = false := by simp only [inn, decide_eq_false_iff_not]; omega
  simp (disch := omega) [g2, g3, g4, tcOk_no hi (show entOk l t i = false by simp [entOk, hi, e5]), VY]
 have e5 : inn t.entries[i].high 0 (t.view - 1) = true := by simp only [inn, decide_eq_true_eq]; omega
 simp (disch := omega) [g2, g3, g4, VY]
 refine VXC_e (l07Hash_ok t.entries[i].tag) (by first | rfl | (simp [argsD, argDs, argD, St.slc, lk_cons, lk] <;> repeat' constructor)) rfl ?_
 simp (disch := omega) [g2, g3, g4, VY]
 refine VXB_b (fun g5 => ?_) (fun g5 => ?_)
 case refine_2 => simp (disch := omega) [g2, g3, g4, g5, tcOk_no hi (show entOk l t i = false by simp [entOk, hi, g5]), VY]
 simp (disch := omega) [g2, g3, g4, g5, VY]
 refine VXB_dec (fun g6 => ?_) (fun g6 => ?_)
 ·have hj : i - 1 < t.entries.length := by omega
  have e1 : ((i : Int) - 1).toNat = i - 1 := by omega
  have e2 : (1 : Int) ≤ (i : Int) := by omega
  have e3 : ¬ i = 0 := by omega
  simp (disch := omega) [g2, g3, g4, g5, g6, ens_len, e1, e2, ens_get hj, VY]
  refine VXB_dec (fun g7 => ?_) (fun g7 => ?_)
  ·simp (disch := omega) [g2, g3, g4, g5, g6, g7, tcOk_no hi (show entOk l t i = false by simp [entOk, hi, hj, e3, show ¬ t.entries[i - 1].who < t.entries[i].who by omega]), VY]
  have e4 : t.entries[i - 1].who < t.entries[i].who := by omega
  simp (disch := omega) [g2, g3, g4, g5, g6, g7, VY]
  exact hP (i + 1) (g - 1) _ _ (by omega) ⟨by omega, ent_next hd (by simp [entOk, hi, g2, e5, g5, hj, e4])⟩ (by simp (disch := omega) [VY]) (by simp (disch := omega) [VY])
 ·have e4 : i = 0 := by omega
  simp (disch := omega) [g2, g3, g4, g5, g6, VY]
  exact hP (i + 1) (g - 1) _ _ (by omega) ⟨by omega, ent_next hd (by subst e4; simp [entOk, hi, g2, e5, g5])⟩ (by simp (disch := omega) [VY]) (by simp (disch := omega) [VY])
abbrev n_impl_PutQc : Nat := 178
def c_impl_PutQc : AF := ⟨3, 5, [.tmp 6, .tmp 7], (.seq (.ops [.i (.lbox 3 (.s 0)), .i (.lbox 5 (.s 2)), .i (.mov 6 (.c (.val false [.nils]))), .i (.mov 7 (qb false))]) (.seq (.seq (.ops [ql 9 3 3 5 true, ql 10 5 5 5 true, .i (.call 12 128 false [(.s 9), (.s 10)]), .i (.not 12 (.s 11))]) (.cond (.s 12) (.seq (.ops [.i (.mov 6 (.c (.val false [.nils]))), .i (.mov 7 (qb false))]) .ret) .skip)) (.seq (.ops [qm 13 1, .i (.call 15 60 false [(.s 13)]), .i (.bld 15 [.nils] [(0, 1, (.s 14))]), .i (.hbox 16 228 (.s 15)), qm 8 16]) (.seq (.ops [qm 17 8, ql 18 5 5 5 true, .i (.call 20 243 false [(.s 17), (.s 18)])]) (.seq (.ops [qm 20 8, .i (.nch 21 (.s 20)), qf 22 21 0, .i (.ldh 23 (.s 22) 1 false), qm 6 23, .i (.mov 7 (qb true))]) .ret)))))⟩
theorem k_impl_PutQc : cd n_impl_PutQc = some c_impl_PutQc := by kernel_rfl
theorem impl_PutQc_ok (l : Lim) (b : Bytes) (q : Qc) (hw : q.wf) (hb : b.length ≤ 900000000) : VC cd n_impl_PutQc (mkP [(true, l.c), (false, [.sl (bytes b)]), (true, q.c)]) (fun rs _ => rs = putE (qcOk l q) (b ++ qcB q)) := by
 refine VC_enter k_impl_PutQc rfl ?_
 simp (disch := omega) [c_impl_PutQc, Qc.c, Lim.c, VY]
 refine VXC_e (impl_QcOk_ok l q hw) rfl rfl ?_
 simp (disch := omega) [VY]
 refine VXB_b (fun h0 => ?_) (fun h0 => ?_)
 case refine_2 => simp (disch := omega) [h0, putE, VY]
 have hs := qcOk_sz h0
 simp (disch := omega) [h0, VY]
 refine VXC_e (copyBytes_ok b (by omega)) rfl rfl ?_
 simp (disch := omega) [VY, VQ, expR, expE, exp0]
 refine VXC_p (writer_qc_ok _ q hs ?_) (by simp (disch := omega) [VY, VQ, expR, expE, exp0]; exact ⟨rfl, rfl⟩) rfl rfl (by simp (disch := omega) [VY, VQ, expR, expE, exp0]; exact ⟨rfl, rfl⟩) (by simp (disch := omega) [VY, VQ, expR, expE, exp0]) (by simp (disch := omega) [VY, VQ, expR, expE, exp0]) (by simp (disch := omega) [VY, VQ, expR, expE, exp0]) (by omega) (by simp (disch := omega) [VY, VQ, expR, expE, exp0]) ?_
 ·(try simp only [List.length_append]); omega
 simp (disch := omega) [putE, h0, VY, VQ, expR, expE, exp0]
abbrev n_spec_PutBlock : Nat := 170
def c_spec_PutBlock : AF := ⟨3, 6, [.tmp 6, .tmp 7], (.seq (.ops [.i (.lbox 3 (.s 0)), .i (.lbox 5 (.s 2)), .i (.mov 6 (.c (.val false [.nils]))), .i (.mov 7 (qb false))]) (.seq (.seq (.ops [ql 12 3 3 5 true, ql 13 5 5 11 true, .i (.call 15 234 false [(.s 12), (.s 13)]), .i (.not 15 (.s 14))]) (.cond (.s 15) (.seq (.ops [.i (.mov 6 (.c (.val false [.nils]))), .i (.mov 7 (qb false))]) .ret) .skip)) (.seq (.ops [ql 17 3 3 5 true, qm 18 1, qf 19 5 0, ql 20 5 19 10 true, .i (.call 22 169 false [(.s 17), (.s 18), (.s 20)]), qm 16 21, .i (.ext 22 (.s 16) 0), .i (.ext 23 (.s 16) 1), qm 8 22, qm 9 23]) (.seq (.ops [qm 24 8, qf 25 5 10, ql 26 5 25 1 false, .i (.len 27 false (.s 26)), .i (.call 29 233 false [(.s 24), (.s 27)]), qm 8 28]) (.seq (.seq (.ops [qf 29 5 10, ql 30 5 29 1 false, .i (.len 31 false (.s 30)), .i (.mov 32 (qi 0))]) (.block 0 (.loop [39, 38, 37, 36, 35, 34, 33, 11] (.seq (.ops [.i (.bin 33 .lss (.s 32) (.s 31))]) (.seq (.cond (.s 33) .skip (.exit 0)) (.seq (.block 1 (.seq (.ops [.i (.iad 34 (.s 30) (.s 32) 1), .i (.ldh 35 (.s 34) 1 false), qm 11 35]) (.ops [qm 36 8, qm 37 11, .i (.call 39 235 false [(.s 36), (.s 37)]), qm 8 38]))) (.ops [.i (.bin 39 .add (.s 32) (qi 1)), qm 32 39]))))))) (.seq (.ops [qm 40 8, qm 6 40, .i (.mov 7 (qb true))]) .ret))))))⟩
theorem k_spec_PutBlock : cd n_spec_PutBlock = some c_spec_PutBlock := by kernel_rfl
theorem spec_PutBlock_ok (l : Lim) (b : Bytes) (x : Block) (hw : x.wc ∧ ∀ t ∈ x.txs, t.length ≤ 100000000) (hb : b.length ≤ 800000000) : VC cd n_spec_PutBlock (mkP [(true, l.c), (false, [.sl (bytes b)]), (true, x.c)]) (fun rs _ => rs = putE (blockOk l x) (b ++ blockB x)) := by
 refine VC_enter k_spec_PutBlock rfl ?_
 simp (disch := omega) [c_spec_PutBlock, Block.c, Head.c, Lim.c, VY]
 refine VXC_e (spec_BlockOk_ok l x hw.1 (fun t ht => by have := hw.2 t ht; omega)) (by first | rfl | (simp [Lim.c, Block.c, Head.c, argsD, argDs, argD, St.slc, lk_cons, lk] <;> repeat' constructor)) rfl ?_
 simp (disch := omega) [VY]
 refine VXB_b (fun h0 => ?_) (fun h0 => ?_)
 case refine_2 => simp (disch := omega) [h0, putE, VY]
 have hh := blockOk_head h0
 have hf := blockOk_few h0
 have ht := blockOk_txs h0
 have hs := headB_len (headOk_sz hh)
 simp (disch := omega) [h0, VY]
 refine VXC_e ((spec_PutHead_ok l b x.head hw.1.1.1 (by omega)).re (putE_t hh)) (by first | rfl | (simp [Lim.c, Head.c, argsD, argDs, argD, St.slc, lk_cons, lk] <;> repeat' constructor)) rfl ?_
 simp (disch := omega) [h0, bss_len, VY]
 refine VXC_e (l11Num_ok (b ++ headB x.head) x.txs.length (isNum_of (by omega)) (by simp only [List.length_append]; omega)) (by first | rfl | (simp [argsD, argDs, argD, St.slc, lk_cons, lk] <;> repeat' constructor)) rfl ?_
 have h1 := varB_nine (n := x.txs.length) (by omega)
 simp (disch := omega) [h0, bss_len, VY]
 refine VX_loopP (σ := Nat × Nat × Nat) (f1 := _) (by simp (disch := omega) [VY]; rfl) (fun p => [(32, .val false [.int .i64 (p.1 : Int)]), (8, .val false [.ow p.2.1 p.2.2])]) (fun p => [(p.2.1, .sl p.2.2 true true (some (5, 1)) (bytes (b ++ (headB x.head ++ (varB x.txs.length ++ textsB (x.txs.take p.1))))))]) (fun p g => g + p.1 = x.txs.length ∧ (p.2.1 = 245760 ∨ p.2.1 = 327680)) (0, 245760, 20) x.txs.length (by simp (disch := omega) [VY]) (by simp (disch := omega) [show textsB [] = [] from rfl, VY]) ⟨by omega, .inl rfl⟩ ?_
 rintro ⟨i, key, v⟩ n g ⟨hg, hk⟩ P hP
 simp only at hg hk
 have hlt : ∀ t ∈ x.txs.take i, t.length ≤ 1000 := fun t h => ht t (List.mem_of_mem_take h)
 have hl := textsB_len hlt
 have hl2 : (x.txs.take i).length ≤ 8 := by rw [List.length_take]; omega
 have hl3 : (textsB (x.txs.take i)).length ≤ 8072 := by omega
 rcases hk with rfl | rfl
 all_goals
  simp (disch := omega) [VY]
  refine VXB_dec (fun h2 => ?_) (fun h2 => ?_)
  ·have hi : i < x.txs.length := by omega
   have hx := ht _ (List.getElem_mem hi)
   simp (disch := omega) [bss_get hi, VY]
   refine VXC_e (spec_PutText_ok (b ++ (headB x.head ++ (varB x.txs.length ++ textsB (x.txs.take i)))) x.txs[i] (by simp only [List.length_append]; omega) (by omega)) (by first | rfl | (simp [argsD, argDs, argD, St.slc, lk_cons, lk] <;> repeat' constructor)) rfl ?_
   simp (disch := omega) [VY]
   exact hP (i + 1, 327680, _) (g - 1) _ _ (by omega) ⟨by simp only; omega, .inr rfl⟩ (by simp (disch := omega) [VY]; rfl) (by simp (disch := omega) [textsB_next hi, VY])
  ·have hi : i = x.txs.length := by omega
   subst hi
   simp (disch := omega) [putE, blockB, textsB, List.take_length, VY]
abbrev n_impl_PutBlock : Nat := 179
def c_impl_PutBlock : AF := ⟨3, 6, [.tmp 6, .tmp 7], (.seq (.ops [.i (.lbox 3 (.s 0)), .i (.lbox 5 (.s 2)), .i (.mov 6 (.c (.val false [.nils]))), .i (.mov 7 (qb false))]) (.seq (.seq (.ops [ql 11 3 3 5 true, ql 12 5 5 11 true, .i (.call 14 244 false [(.s 11), (.s 12)]), .i (.not 14 (.s 13))]) (.cond (.s 14) (.seq (.ops [.i (.mov 6 (.c (.val false [.nils]))), .i (.mov 7 (qb false))]) .ret) .skip)) (.seq (.ops [qm 15 1, .i (.call 17 60 false [(.s 15)]), .i (.bld 17 [.nils] [(0, 1, (.s 16))]), .i (.hbox 18 228 (.s 17)), qm 8 18]) (.seq (.ops [qm 19 8, qf 20 5 0, ql 21 5 20 10 true, .i (.call 23 216 false [(.s 19), (.s 21)])]) (.seq (.ops [qm 23 8, qf 24 5 10, ql 25 5 24 1 false, .i (.len 26 false (.s 25)), .i (.call 28 241 false [(.s 23), (.s 26)])]) (.seq (.seq (.ops [qf 28 5 10, ql 29 5 28 1 false, .i (.len 30 false (.s 29)), .i (.mov 31 (qi 0))]) (.block 0 (.loop [44, 43, 42, 41, 40, 39, 38, 37, 36, 35, 34, 33, 32, 10] (.seq (.ops [.i (.bin 32 .lss (.s 31) (.s 30))]) (.seq (.cond (.s 32) .skip (.exit 0)) (.seq (.block 1 (.seq (.ops [.i (.iad 33 (.s 29) (.s 31) 1), .i (.ldh 34 (.s 33) 1 false), qm 10 34]) (.ops [qm 35 8, qm 36 8, .i (.nch 37 (.s 36)), qf 38 37 0, .i (.ldh 39 (.s 38) 1 false), qm 40 10, .i (.call 42 245 false [(.s 39), (.s 40)]), .i (.nch 42 (.s 35)), qf 43 42 0, .i (.sth (.s 43) (.s 41) 1)]))) (.ops [.i (.bin 44 .add (.s 31) (qi 1)), qm 31 44]))))))) (.seq (.ops [qm 45 8, .i (.nch 46 (.s 45)), qf 47 46 0, .i (.ldh 48 (.s 47) 1 false), qm 6 48, .i (.mov 7 (qb true))]) .ret)))))))⟩
theorem k_impl_PutBlock : cd n_impl_PutBlock = some c_impl_PutBlock := by kernel_rfl
theorem impl_PutBlock_ok (l : Lim) (b : Bytes) (x : Block) (hw : x.wc ∧ ∀ t ∈ x.txs, t.length ≤ 100000000) (hb : b.length ≤ 800000000) : VC cd n_impl_PutBlock (mkP [(true, l.c), (false, [.sl (bytes b)]), (true, x.c)]) (fun rs _ => rs = putE (blockOk l x) (b ++ blockB x)) := by
 refine VC_enter k_impl_PutBlock rfl ?_
 simp (disch := omega) [c_impl_PutBlock, Block.c, Head.c, Lim.c, VY]
 refine VXC_e (impl_BlockOk_ok l x hw.1 (fun t ht => by have := hw.2 t ht; omega)) (by first | rfl | (simp [Lim.c, Block.c, Head.c, argsD, argDs, argD, St.slc, lk_cons, lk] <;> repeat' constructor)) rfl ?_
 simp (disch := omega) [VY]
 refine VXB_b (fun h0 => ?_) (fun h0 => ?_)
 case refine_2 => simp (disch := omega) [h0, putE, VY]
 have hh := blockOk_head h0
 have hf := blockOk_few h0
 have ht := blockOk_txs h0
 have hz := headOk_sz hh
 have hs := headB_len hz
 simp (disch := omega) [h0, VY]
 refine VXC_e (copyBytes_ok b (by omega)) rfl rfl ?_
 simp (disch := omega) [VY, VQ, expR, expE, exp0]
 refine VXC_p (writer_head_ok _ x.head hz ?_) (by simp (disch := omega) [VY, VQ, expR, expE, exp0]; exact ⟨rfl, rfl⟩) rfl rfl (by simp (disch := omega) [VY, VQ, expR, expE, exp0]; exact ⟨rfl, rfl⟩) (by simp (disch := omega) [VY, VQ, expR, expE, exp0]) (by simp (disch := omega) [VY, VQ, expR, expE, exp0]) (by simp (disch := omega) [VY, VQ, expR, expE, exp0]) (by omega) (by simp (disch := omega) [VY, VQ, expR, expE, exp0]) ?_
 ·(try simp only [List.length_append]); omega
 simp (disch := omega) [bss_len, VY, VQ, expR, expE, exp0]
 refine VXC_p (writer_num_ok _ x.txs.length (isNum_of (by omega)) ?_) (by simp (disch := omega) [VY, VQ, expR, expE, exp0]; exact ⟨rfl, rfl⟩) rfl rfl (by simp (disch := omega) [VY, VQ, expR, expE, exp0]; exact ⟨rfl, rfl⟩) (by simp (disch := omega) [VY, VQ, expR, expE, exp0]) (by simp (disch := omega) [VY, VQ, expR, expE, exp0]) (by simp (disch := omega) [VY, VQ, expR, expE, exp0]) (by omega) (by simp (disch := omega) [VY, VQ, expR, expE, exp0]) ?_
 ·(try simp only [List.length_append]); omega
 have h1 := varB_nine (n := x.txs.length) (by omega)
 simp (disch := omega) [bss_len, VY, VQ, expR, expE, exp0]
 refine VX_loopP (σ := Nat × Nat × Nat) (f1 := _) (by simp (disch := omega) [VY, VQ, expR, expE, exp0]; rfl) (fun p => [(31, .val false [.int .i64 (p.1 : Int)])]) (fun p => [(18, .pt 19 228 [.ow p.2.1 p.2.2]), (p.2.1, .sl p.2.2 true true (some (5, 1)) (bytes (b ++ (headB x.head ++ (varB x.txs.length ++ textsB (x.txs.take p.1))))))]) (fun p g => g + p.1 = x.txs.length ∧ (p.2.1 = 1099511701504 ∨ p.2.1 = 352256)) (0, 1099511701504, 23) x.txs.length (by simp (disch := omega) [VY, VQ, expR, expE, exp0]) (by simp (disch := omega) [show textsB [] = [] from rfl, VY, VQ, expR, expE, exp0]) ⟨by omega, .inl rfl⟩ ?_
 rintro ⟨i, key, v⟩ n g ⟨hg, hk⟩ P hP
 simp only at hg hk
 have hlt : ∀ t ∈ x.txs.take i, t.length ≤ 1000 := fun t h => ht t (List.mem_of_mem_take h)
 have hl := textsB_len hlt
 have hl2 : (x.txs.take i).length ≤ 8 := by rw [List.length_take]; omega
 have hl3 : (textsB (x.txs.take i)).length ≤ 8072 := by omega
 rcases hk with rfl | rfl
 all_goals
  simp (disch := omega) [VY, VQ, expR, expE, exp0]
  refine VXB_dec (fun h2 => ?_) (fun h2 => ?_)
  ·have hi : i < x.txs.length := by omega
   have hx := ht _ (List.getElem_mem hi)
   simp (disch := omega) [bss_get hi, VY, VQ, expR, expE, exp0]
   refine VXC_e (impl_PutText_ok (b ++ (headB x.head ++ (varB x.txs.length ++ textsB (x.txs.take i)))) x.txs[i] (by simp only [List.length_append]; omega) (by omega)) (by first | rfl | (simp [argsD, argDs, argD, St.slc, lk_cons, lk] <;> repeat' constructor)) rfl ?_
   simp (disch := omega) [VY, VQ, expR, expE, exp0]
   exact hP (i + 1, 352256, _) (g - 1) _ _ (by omega) ⟨by simp only; omega, .inr rfl⟩ (by simp (disch := omega) [VY, VQ, expR, expE, exp0]) (by simp (disch := omega) [textsB_next hi, VY, VQ, expR, expE, exp0]; rfl)
  ·have hi : i = x.txs.length := by omega
   subst hi
   simp (disch := omega) [putE, blockB, textsB, List.take_length, VY, VQ, expR, expE, exp0]
theorem tcOk_ent {l : Lim} {t : Tc} (h : tcOk l t = true) : t.entries.length ≤ 10 ∧ isNum t.view = true ∧ ∀ e ∈ t.entries, isNum e.who = true ∧ isNum e.high = true ∧ e.tag.length = 32 := by
 simp only [tcOk, Bool.and_eq_true, decide_eq_true_eq, List.all_eq_true, List.mem_range] at h
 obtain ⟨⟨⟨h1, h2⟩, h3⟩, h4⟩ := h
 have hn := lim_n h1
 have hv := inn_of h2
 refine ⟨by omega, h2, fun e he => ?_⟩
 obtain ⟨i, hi, rfl⟩ := List.mem_iff_getElem.1 he
 have h5 := h4 i hi
 simp only [entOk, List.getElem?_eq_getElem hi, Bool.and_eq_true] at h5
 obtain ⟨⟨⟨g1, g2⟩, g3⟩, _⟩ := h5
 have g1' := inn_of g1
 have g2' := inn_of g2
 exact ⟨by simp only [isNum, inn, decide_eq_true_eq]; omega, by simp only [isNum, inn, decide_eq_true_eq]; omega, hash_len g3⟩
def entsB (l : List Entry) : Bytes := (l.map entB).flatten
theorem entsB_next {l : List Entry} {i : Nat} (h : i < l.length) : entsB (l.take (i + 1)) = entsB (l.take i) ++ entB l[i] := by
 rw [List.take_succ_eq_append_getElem h]
 simp only [entsB, List.map_append, List.map_cons, List.map_nil, List.flatten_append, List.flatten_cons, List.flatten_nil, List.append_nil]
theorem entsB_len : ∀ {l : List Entry}, (∀ e ∈ l, isNum e.who = true ∧ isNum e.high = true ∧ e.tag.length = 32) → (entsB l).length ≤ 50 * l.length
 | [], _ => by simp [entsB]
 | a :: l, h => by
  have h1 := entsB_len (l := l) fun x hx => h x (by simp [hx])
  obtain ⟨g1, g2, g3⟩ := h a (by simp)
  have h2 := varB_num g1
  have h3 := varB_num g2
  simp only [entsB, entB, List.map_cons, List.flatten_cons, List.length_append, List.length_cons] at h1 ⊢
  omega
abbrev n_impl_PutTc : Nat := 180
def c_impl_PutTc : AF := ⟨3, 6, [.tmp 6, .tmp 7], (.seq (.ops [.i (.lbox 3 (.s 0)), .i (.lbox 5 (.s 2)), .i (.mov 6 (.c (.val false [.nils]))), .i (.mov 7 (qb false))]) (.seq (.seq (.ops [ql 11 3 3 5 true, ql 12 5 5 2 true, .i (.call 14 246 false [(.s 11), (.s 12)]), .i (.not 14 (.s 13))]) (.cond (.s 14) (.seq (.ops [.i (.mov 6 (.c (.val false [.nils]))), .i (.mov 7 (qb false))]) .ret) .skip)) (.seq (.ops [qm 15 1, .i (.call 17 60 false [(.s 15)]), .i (.bld 17 [.nils] [(0, 1, (.s 16))]), .i (.hbox 18 228 (.s 17)), qm 8 18]) (.seq (.ops [qm 19 8, qf 20 5 0, ql 21 5 20 1 false, .i (.call 23 241 false [(.s 19), (.s 21)])]) (.seq (.ops [qm 23 8, qf 24 5 1, ql 25 5 24 1 false, .i (.len 26 false (.s 25)), .i (.call 28 241 false [(.s 23), (.s 26)])]) (.seq (.seq (.ops [qf 28 5 1, ql 29 5 28 1 false, .i (.len 30 false (.s 29)), .i (.mov 31 (qi 0))]) (.block 0 (.loop [47, 46, 45, 44, 43, 42, 41, 40, 39, 38, 37, 36, 35, 34, 33, 32, 10] (.seq (.ops [.i (.bin 32 .lss (.s 31) (.s 30))]) (.seq (.cond (.s 32) .skip (.exit 0)) (.seq (.block 1 (.seq (.ops [.i (.iad 33 (.s 29) (.s 31) 3), .i (.ldh 34 (.s 33) 3 true), .i (.lal 10 [.int .i64 0, .int .i64 0, .nils]), .i (.stl 10 (.s 10) (.s 34) 3)]) (.seq (.ops [qm 35 8, qf 36 10 0, ql 37 10 36 1 false, .i (.call 39 241 false [(.s 35), (.s 37)])]) (.seq (.ops [qm 39 8, qf 40 10 1, ql 41 10 40 1 false, .i (.call 43 241 false [(.s 39), (.s 41)])]) (.ops [qm 43 8, qf 44 10 2, ql 45 10 44 1 false, .i (.call 47 242 false [(.s 43), (.s 45)])]))))) (.ops [.i (.bin 47 .add (.s 31) (qi 1)), qm 31 47]))))))) (.seq (.ops [qm 48 8, .i (.nch 49 (.s 48)), qf 50 49 0, .i (.ldh 51 (.s 50) 1 false), qm 6 51, .i (.mov 7 (qb true))]) .ret)))))))⟩
theorem k_impl_PutTc : cd n_impl_PutTc = some c_impl_PutTc := by kernel_rfl
theorem impl_PutTc_ok (l : Lim) (b : Bytes) (t : Tc) (hw : t.wf) (hb : b.length ≤ 800000000) : VC cd n_impl_PutTc (mkP [(true, l.c), (false, [.sl (bytes b)]), (true, t.c)]) (fun rs _ => rs = putE (tcOk l t) (b ++ tcB t)) := by
 refine VC_enter k_impl_PutTc rfl ?_
 simp (disch := omega) [c_impl_PutTc, Tc.c, Lim.c, VY]
 refine VXC_e (impl_TcOk_ok l t hw) (by first | rfl | (simp [Lim.c, Tc.c, argsD, argDs, argD, St.slc, lk_cons, lk] <;> repeat' constructor)) rfl ?_
 simp (disch := omega) [VY]
 refine VXB_b (fun h0 => ?_) (fun h0 => ?_)
 case refine_2 => simp (disch := omega) [h0, putE, VY]
 obtain ⟨hf, hv, he⟩ := tcOk_ent h0
 have h3 := varB_num hv
 have h1 := varB_nine (n := t.entries.length) (by omega)
 simp (disch := omega) [h0, VY]
 refine VXC_e (copyBytes_ok b (by omega)) rfl rfl ?_
 simp (disch := omega) [VY, VQ, expR, expE, exp0]
 refine VXC_p (writer_num_ok _ t.view hv ?_) (by simp (disch := omega) [VY, VQ, expR, expE, exp0]; exact ⟨rfl, rfl⟩) rfl rfl (by simp (disch := omega) [VY, VQ, expR, expE, exp0]; exact ⟨rfl, rfl⟩) (by simp (disch := omega) [VY, VQ, expR, expE, exp0]) (by simp (disch := omega) [VY, VQ, expR, expE, exp0]) (by simp (disch := omega) [VY, VQ, expR, expE, exp0]) (by omega) (by simp (disch := omega) [VY, VQ, expR, expE, exp0]) ?_
 ·(try simp only [List.length_append]); omega
 simp (disch := omega) [ens_len, VY, VQ, expR, expE, exp0]
 refine VXC_p (writer_num_ok _ t.entries.length (isNum_of (by omega)) ?_) (by simp (disch := omega) [VY, VQ, expR, expE, exp0]; exact ⟨rfl, rfl⟩) rfl rfl (by simp (disch := omega) [VY, VQ, expR, expE, exp0]; exact ⟨rfl, rfl⟩) (by simp (disch := omega) [VY, VQ, expR, expE, exp0]) (by simp (disch := omega) [VY, VQ, expR, expE, exp0]) (by simp (disch := omega) [VY, VQ, expR, expE, exp0]) (by omega) (by simp (disch := omega) [VY, VQ, expR, expE, exp0]) ?_
 ·(try simp only [List.length_append]); omega
 simp (disch := omega) [ens_len, VY, VQ, expR, expE, exp0]
 refine VX_loopP (σ := Nat × Nat) (f1 := _) (by simp (disch := omega) [VY, VQ, expR, expE, exp0]; rfl) (fun p => [(31, .val false [.int .i64 (p.1 : Int)])]) (fun p => [(18, .pt 10 228 [.ow 1099511701504 p.2]), (1099511701504, .sl p.2 true true (some (5, 1)) (bytes (b ++ (varB t.view.toNat ++ (varB t.entries.length ++ entsB (t.entries.take p.1))))))]) (fun p g => g + p.1 = t.entries.length) (0, 14) t.entries.length (by simp (disch := omega) [VY, VQ, expR, expE, exp0]) (by simp (disch := omega) [show entsB [] = [] from rfl, VY, VQ, expR, expE, exp0]) (by omega) ?_
 rintro ⟨i, v⟩ n g hg P hP
 simp only at hg
 have hlt : ∀ e ∈ t.entries.take i, isNum e.who = true ∧ isNum e.high = true ∧ e.tag.length = 32 := fun e h => he e (List.mem_of_mem_take h)
 have hl := entsB_len hlt
 have hl2 : (t.entries.take i).length ≤ 10 := by rw [List.length_take]; omega
 have hl3 : (entsB (t.entries.take i)).length ≤ 500 := by omega
 simp (disch := omega) [VY, VQ, expR, expE, exp0]
 refine VXB_dec (fun h2 => ?_) (fun h2 => ?_)
 ·have hi : i < t.entries.length := by omega
  obtain ⟨g1, g2, g3⟩ := he _ (List.getElem_mem hi)
  have g4 := varB_num g1
  have g5 := varB_num g2
  simp (disch := omega) [ens_get hi, VY, VQ, expR, expE, exp0]
  refine VXC_p (writer_num_ok _ t.entries[i].who g1 ?_) (by simp (disch := omega) [VY, VQ, expR, expE, exp0]; exact ⟨rfl, rfl⟩) rfl rfl (by simp (disch := omega) [VY, VQ, expR, expE, exp0]; exact ⟨rfl, rfl⟩) (by simp (disch := omega) [VY, VQ, expR, expE, exp0]) (by simp (disch := omega) [VY, VQ, expR, expE, exp0]) (by simp (disch := omega) [VY, VQ, expR, expE, exp0]) (by omega) (by simp (disch := omega) [VY, VQ, expR, expE, exp0]) ?_
  ·(try simp only [List.length_append]); omega
  simp (disch := omega) [VY, VQ, expR, expE, exp0]
  refine VXC_p (writer_num_ok _ t.entries[i].high g2 ?_) (by simp (disch := omega) [VY, VQ, expR, expE, exp0]; exact ⟨rfl, rfl⟩) rfl rfl (by simp (disch := omega) [VY, VQ, expR, expE, exp0]; exact ⟨rfl, rfl⟩) (by simp (disch := omega) [VY, VQ, expR, expE, exp0]) (by simp (disch := omega) [VY, VQ, expR, expE, exp0]) (by simp (disch := omega) [VY, VQ, expR, expE, exp0]) (by omega) (by simp (disch := omega) [VY, VQ, expR, expE, exp0]) ?_
  ·(try simp only [List.length_append]); omega
  simp (disch := omega) [VY, VQ, expR, expE, exp0]
  refine VXC_p (writer_raw_ok _ t.entries[i].tag (by omega) ?_) (by simp (disch := omega) [VY, VQ, expR, expE, exp0]; exact ⟨rfl, rfl⟩) rfl rfl (by simp (disch := omega) [VY, VQ, expR, expE, exp0]; exact ⟨rfl, rfl⟩) (by simp (disch := omega) [VY, VQ, expR, expE, exp0]) (by simp (disch := omega) [VY, VQ, expR, expE, exp0]) (by simp (disch := omega) [VY, VQ, expR, expE, exp0]) (by omega) (by simp (disch := omega) [VY, VQ, expR, expE, exp0]) ?_
  ·(try simp only [List.length_append]); omega
  simp (disch := omega) [VY, VQ, expR, expE, exp0]
  exact hP (i + 1, _) (g - 1) _ _ (by omega) (by simp only; omega) (by simp (disch := omega) [VY, VQ, expR, expE, exp0]) (by simp (disch := omega) [entsB_next hi, entB, VY, VQ, expR, expE, exp0]; rfl)
 ·have hi : i = t.entries.length := by omega
  subst hi
  simp (disch := omega) [putE, tcB, entsB, List.take_length, VY, VQ, expR, expE, exp0]
abbrev n_spec_PutTc : Nat := 171
def c_spec_PutTc : AF := ⟨3, 6, [.tmp 6, .tmp 7], (.seq (.ops [.i (.lbox 3 (.s 0)), .i (.lbox 5 (.s 2)), .i (.mov 6 (.c (.val false [.nils]))), .i (.mov 7 (qb false))]) (.seq (.seq (.ops [ql 11 3 3 5 true, ql 12 5 5 2 true, .i (.call 14 236 false [(.s 11), (.s 12)]), .i (.not 14 (.s 13))]) (.cond (.s 14) (.seq (.ops [.i (.mov 6 (.c (.val false [.nils]))), .i (.mov 7 (qb false))]) .ret) .skip)) (.seq (.ops [qm 15 1, qf 16 5 0, ql 17 5 16 1 false, .i (.call 19 233 false [(.s 15), (.s 17)]), qf 19 5 1, ql 20 5 19 1 false, .i (.len 21 false (.s 20)), .i (.call 23 233 false [(.s 18), (.s 21)]), qm 8 22]) (.seq (.seq (.ops [qf 23 5 1, ql 24 5 23 1 false, .i (.len 25 false (.s 24)), .i (.mov 26 (qi 0))]) (.block 0 (.loop [40, 39, 38, 37, 36, 35, 34, 33, 32, 31, 30, 29, 28, 27, 10] (.seq (.ops [.i (.bin 27 .lss (.s 26) (.s 25))]) (.seq (.cond (.s 27) .skip (.exit 0)) (.seq (.block 1 (.seq (.ops [.i (.iad 28 (.s 24) (.s 26) 3), .i (.ldh 29 (.s 28) 3 true), .i (.lal 10 [.int .i64 0, .int .i64 0, .nils]), .i (.stl 10 (.s 10) (.s 29) 3)]) (.ops [qm 30 8, qf 31 10 0, ql 32 10 31 1 false, .i (.call 34 233 false [(.s 30), (.s 32)]), qf 34 10 1, ql 35 10 34 1 false, .i (.call 37 233 false [(.s 33), (.s 35)]), qf 37 10 2, ql 38 10 37 1 false, .i (.app 39 5 1 1 (.s 36) (.s 38)), qm 8 39]))) (.ops [.i (.bin 40 .add (.s 26) (qi 1)), qm 26 40]))))))) (.seq (.ops [qm 41 8, qm 6 41, .i (.mov 7 (qb true))]) .ret)))))⟩
theorem k_spec_PutTc : cd n_spec_PutTc = some c_spec_PutTc := by kernel_rfl
theorem spec_PutTc_ok (l : Lim) (b : Bytes) (t : Tc) (hw : t.wf) (hb : b.length ≤ 800000000) : VC cd n_spec_PutTc (mkP [(true, l.c), (false, [.sl (bytes b)]), (true, t.c)]) (fun rs _ => rs = putE (tcOk l t) (b ++ tcB t)) := by
 refine VC_enter k_spec_PutTc rfl ?_
 simp (disch := omega) [c_spec_PutTc, Tc.c, Lim.c, VY]
 refine VXC_e (spec_TcOk_ok l t hw) (by first | rfl | (simp [Lim.c, Tc.c, argsD, argDs, argD, St.slc, lk_cons, lk] <;> repeat' constructor)) rfl ?_
 simp (disch := omega) [VY]
 refine VXB_b (fun h0 => ?_) (fun h0 => ?_)
 case refine_2 => simp (disch := omega) [h0, putE, VY]
 obtain ⟨hf, hv, he⟩ := tcOk_ent h0
 have h3 := varB_num hv
 have h1 := varB_nine (n := t.entries.length) (by omega)
 simp (disch := omega) [h0, VY]
 refine VXC_e (l11Num_ok b t.view hv (by omega)) (by first | rfl | (simp [argsD, argDs, argD, St.slc, lk_cons, lk] <;> repeat' constructor)) rfl ?_
 simp (disch := omega) [h0, ens_len, VY]
 refine VXC_e (l11Num_ok (b ++ varB t.view.toNat) t.entries.length (isNum_of (by omega)) (by simp only [List.length_append]; omega)) (by first | rfl | (simp [argsD, argDs, argD, St.slc, lk_cons, lk] <;> repeat' constructor)) rfl ?_
 simp (disch := omega) [h0, ens_len, VY]
 refine VX_loopP (σ := Nat × Nat × Nat) (f1 := _) (by simp (disch := omega) [VY]; rfl) (fun p => [(26, .val false [.int .i64 (p.1 : Int)]), (8, .val false [.ow p.2.1 p.2.2])]) (fun p => [(p.2.1, .sl p.2.2 true true (some (5, 1)) (bytes (b ++ (varB t.view.toNat ++ (varB t.entries.length ++ entsB (t.entries.take p.1))))))]) (fun p g => g + p.1 = t.entries.length ∧ (p.2.1 = 196608 ∨ p.2.1 = 311296)) (0, 196608, _) t.entries.length (by simp (disch := omega) [VY]; rfl) (by simp (disch := omega) [show entsB [] = [] from rfl, VY]) ⟨by omega, .inl rfl⟩ ?_
 rintro ⟨i, key, v⟩ n g ⟨hg, hk⟩ P hP
 simp only at hg hk
 have hlt : ∀ e ∈ t.entries.take i, isNum e.who = true ∧ isNum e.high = true ∧ e.tag.length = 32 := fun e h => he e (List.mem_of_mem_take h)
 have hl := entsB_len hlt
 have hl2 : (t.entries.take i).length ≤ 10 := by rw [List.length_take]; omega
 have hl3 : (entsB (t.entries.take i)).length ≤ 500 := by omega
 rcases hk with rfl | rfl
 all_goals
  simp (disch := omega) [VY]
  refine VXB_dec (fun h2 => ?_) (fun h2 => ?_)
  ·have hi : i < t.entries.length := by omega
   obtain ⟨g1, g2, g3⟩ := he _ (List.getElem_mem hi)
   have g4 := varB_num g1
   have g5 := varB_num g2
   simp (disch := omega) [ens_get hi, VY]
   refine VXC_e (l11Num_ok (b ++ (varB t.view.toNat ++ (varB t.entries.length ++ entsB (t.entries.take i)))) t.entries[i].who g1 (by simp only [List.length_append]; omega)) (by first | rfl | (simp [argsD, argDs, argD, St.slc, lk_cons, lk] <;> repeat' constructor)) rfl ?_
   simp (disch := omega) [VY]
   refine VXC_e (l11Num_ok (b ++ (varB t.view.toNat ++ (varB t.entries.length ++ (entsB (t.entries.take i) ++ varB t.entries[i].who.toNat)))) t.entries[i].high g2 (by simp only [List.length_append]; omega)) (by first | rfl | (simp [argsD, argDs, argD, St.slc, lk_cons, lk] <;> repeat' constructor)) rfl ?_
   simp (disch := omega) [bytes_app, bytes_len, VY]
   exact hP (i + 1, 311296, _) (g - 1) _ _ (by omega) ⟨by simp only; omega, .inr rfl⟩ (by simp (disch := omega) [VY]; rfl) (by simp (disch := omega) [entsB_next hi, entB, VY])
  ·have hi : i = t.entries.length := by omega
   subst hi
   simp (disch := omega) [putE, tcB, entsB, List.take_length, VY]
def headsB (l : List Head) : Bytes := (l.map headB).flatten
theorem headsB_next {l : List Head} {i : Nat} (h : i < l.length) : headsB (l.take (i + 1)) = headsB (l.take i) ++ headB l[i] := by
 rw [List.take_succ_eq_append_getElem h]
 simp only [headsB, List.map_append, List.map_cons, List.map_nil, List.flatten_append, List.flatten_cons, List.flatten_nil, List.append_nil]
theorem headsB_len : ∀ {l : List Head}, (∀ h ∈ l, HeadSz h) → (headsB l).length ≤ 1000 * l.length
 | [], _ => by simp [headsB]
 | a :: l, h => by
  have h1 := headsB_len (l := l) fun x hx => h x (by simp [hx])
  have h2 := headB_len (h a (by simp))
  simp only [headsB, List.map_cons, List.flatten_cons, List.length_append, List.length_cons] at h1 ⊢
  omega
theorem proofOk_all {l : Lim} {p : Proof} (h : proofOk l p = true) : p.heads.length ≤ 5 ∧ qcOk l p.qc = true ∧ ∀ x ∈ p.heads, headOk l x = true := by
 simp only [proofOk, Bool.and_eq_true] at h
 obtain ⟨⟨⟨h1, h2⟩, h3⟩, h4⟩ := h
 have h5 := qcOk_lim h3
 simp only [Lim.ok, Bool.and_eq_true] at h5
 have h6 := inn_of h5.2
 have h7 := inn_of h1
 refine ⟨by omega, h3, fun x hx => ?_⟩
 simp only [headsOk, List.all_eq_true] at h2
 exact h2 x hx
abbrev n_impl_PutProof : Nat := 181
def c_impl_PutProof : AF := ⟨3, 6, [.tmp 6, .tmp 7], (.seq (.ops [.i (.lbox 3 (.s 0)), .i (.lbox 5 (.s 2)), .i (.mov 6 (.c (.val false [.nils]))), .i (.mov 7 (qb false))]) (.seq (.seq (.ops [ql 11 3 3 5 true, ql 12 5 5 6 true, .i (.call 14 53 false [(.s 11), (.s 12)]), .i (.not 14 (.s 13))]) (.cond (.s 14) (.seq (.ops [.i (.mov 6 (.c (.val false [.nils]))), .i (.mov 7 (qb false))]) .ret) .skip)) (.seq (.ops [qm 15 1, .i (.call 17 60 false [(.s 15)]), .i (.bld 17 [.nils] [(0, 1, (.s 16))]), .i (.hbox 18 228 (.s 17)), qm 8 18]) (.seq (.ops [qm 19 8, qf 20 5 0, ql 21 5 20 1 false, .i (.len 22 false (.s 21)), .i (.call 24 241 false [(.s 19), (.s 22)])]) (.seq (.seq (.ops [qf 24 5 0, ql 25 5 24 1 false, .i (.len 26 false (.s 25)), .i (.mov 27 (qi 0))]) (.block 0 (.loop [34, 33, 32, 31, 30, 29, 28, 10] (.seq (.ops [.i (.bin 28 .lss (.s 27) (.s 26))]) (.seq (.cond (.s 28) .skip (.exit 0)) (.seq (.block 1 (.seq (.ops [.i (.iad 29 (.s 25) (.s 27) 10), .i (.ldh 30 (.s 29) 10 true), .i (.lal 10 qz), .i (.stl 10 (.s 10) (.s 30) 10)]) (.ops [qm 31 8, ql 32 10 10 10 true, .i (.call 34 216 false [(.s 31), (.s 32)])]))) (.ops [.i (.bin 34 .add (.s 27) (qi 1)), qm 27 34]))))))) (.seq (.ops [qm 35 8, qf 36 5 1, ql 37 5 36 5 true, .i (.call 39 243 false [(.s 35), (.s 37)])]) (.seq (.ops [qm 39 8, .i (.nch 40 (.s 39)), qf 41 40 0, .i (.ldh 42 (.s 41) 1 false), qm 6 42, .i (.mov 7 (qb true))]) .ret)))))))⟩
theorem k_impl_PutProof : cd n_impl_PutProof = some c_impl_PutProof := by kernel_rfl
theorem impl_PutProof_ok (l : Lim) (b : Bytes) (p : Proof) (hw : p.wc) (hb : b.length ≤ 800000000) : VC cd n_impl_PutProof (mkP [(true, l.c), (false, [.sl (bytes b)]), (true, p.c)]) (fun rs _ => rs = putE (proofOk l p) (b ++ proofB p)) := by
 refine VC_enter k_impl_PutProof rfl ?_
 simp (disch := omega) [c_impl_PutProof, Proof.c, Lim.c, VY]
 refine VXC_e (impl_ProofOk_ok l p hw.1) (by first | rfl | (simp [Lim.c, Proof.c, argsD, argDs, argD, St.slc, lk_cons, lk] <;> repeat' constructor)) rfl ?_
 simp (disch := omega) [VY]
 refine VXB_b (fun h0 => ?_) (fun h0 => ?_)
 case refine_2 => simp (disch := omega) [h0, putE, VY]
 obtain ⟨hf, hq, hh⟩ := proofOk_all h0
 have h1 := varB_nine (n := p.heads.length) (by omega)
 simp (disch := omega) [h0, VY]
 refine VXC_e (copyBytes_ok b (by omega)) rfl rfl ?_
 simp (disch := omega) [hds_len, VY, VQ, expR, expE, exp0]
 refine VXC_p (writer_num_ok _ p.heads.length (isNum_of (by omega)) ?_) (by simp (disch := omega) [VY, VQ, expR, expE, exp0]; exact ⟨rfl, rfl⟩) rfl rfl (by simp (disch := omega) [VY, VQ, expR, expE, exp0]; exact ⟨rfl, rfl⟩) (by simp (disch := omega) [VY, VQ, expR, expE, exp0]) (by simp (disch := omega) [VY, VQ, expR, expE, exp0]) (by simp (disch := omega) [VY, VQ, expR, expE, exp0]) (by omega) (by simp (disch := omega) [VY, VQ, expR, expE, exp0]) ?_
 ·(try simp only [List.length_append]); omega
 simp (disch := omega) [hds_len, VY, VQ, expR, expE, exp0]
 refine VX_loopP (σ := Nat × Nat) (f1 := _) (by simp (disch := omega) [VY, VQ, expR, expE, exp0]; rfl) (fun q => [(27, .val false [.int .i64 (q.1 : Int)])]) (fun q => [(18, .pt 14 228 [.ow 1099511701504 q.2]), (1099511701504, .sl q.2 true true (some (5, 1)) (bytes (b ++ (varB p.heads.length ++ headsB (p.heads.take q.1)))))]) (fun q g => g + q.1 = p.heads.length) (0, 16) p.heads.length (by simp (disch := omega) [VY, VQ, expR, expE, exp0]) (by simp (disch := omega) [show headsB [] = [] from rfl, VY, VQ, expR, expE, exp0]) (by omega) ?_
 rintro ⟨i, v⟩ n g hg P hP
 simp only at hg
 have hl := headsB_len (l := p.heads.take i) (fun e h => headOk_sz (hh e (List.mem_of_mem_take h)))
 have hl2 : (p.heads.take i).length ≤ 5 := by rw [List.length_take]; omega
 have hl3 : (headsB (p.heads.take i)).length ≤ 5000 := by omega
 simp (disch := omega) [VY, VQ, expR, expE, exp0]
 refine VXB_dec (fun h2 => ?_) (fun h2 => ?_)
 ·have hi : i < p.heads.length := by omega
  have hz := headOk_sz (hh _ (List.getElem_mem hi))
  have hy := headB_len hz
  simp (disch := omega) [hds_get hi, Head.c, VY, VQ, expR, expE, exp0]
  refine VXC_p (writer_head_ok _ p.heads[i] hz ?_) (by simp (disch := omega) [VY, VQ, expR, expE, exp0]; exact ⟨rfl, rfl⟩) rfl rfl (by simp (disch := omega) [VY, VQ, expR, expE, exp0]; exact ⟨rfl, rfl⟩) (by simp (disch := omega) [VY, VQ, expR, expE, exp0]) (by simp (disch := omega) [VY, VQ, expR, expE, exp0]) (by simp (disch := omega) [VY, VQ, expR, expE, exp0]) (by omega) (by simp (disch := omega) [VY, VQ, expR, expE, exp0]) ?_
  ·(try simp only [List.length_append]); omega
  simp (disch := omega) [VY, VQ, expR, expE, exp0]
  exact hP (i + 1, _) (g - 1) _ _ (by omega) (by simp only; omega) (by simp (disch := omega) [VY, VQ, expR, expE, exp0]) (by simp (disch := omega) [headsB_next hi, VY, VQ, expR, expE, exp0]; rfl)
 ·have hi : i = p.heads.length := by omega
  subst hi
  rw [List.take_length] at hl3
  simp (disch := omega) [List.take_length, VY, VQ, expR, expE, exp0]
  refine VXC_p (writer_qc_ok _ p.qc (qcOk_sz hq) ?_) (by simp (disch := omega) [VY, VQ, expR, expE, exp0]; exact ⟨rfl, rfl⟩) rfl rfl (by simp (disch := omega) [VY, VQ, expR, expE, exp0]; exact ⟨rfl, rfl⟩) (by simp (disch := omega) [VY, VQ, expR, expE, exp0]) (by simp (disch := omega) [VY, VQ, expR, expE, exp0]) (by simp (disch := omega) [VY, VQ, expR, expE, exp0]) (by omega) (by simp (disch := omega) [VY, VQ, expR, expE, exp0]) ?_
  ·(try simp only [List.length_append]); omega
  simp (disch := omega) [putE, proofB, headsB, VY, VQ, expR, expE, exp0]
abbrev n_spec_PutProof : Nat := 172
def c_spec_PutProof : AF := ⟨3, 6, [.tmp 6, .tmp 7], (.seq (.ops [.i (.lbox 3 (.s 0)), .i (.lbox 5 (.s 2)), .i (.mov 6 (.c (.val false [.nils]))), .i (.mov 7 (qb false))]) (.seq (.seq (.ops [ql 11 3 3 5 true, ql 12 5 5 6 true, .i (.call 14 237 false [(.s 11), (.s 12)]), .i (.not 14 (.s 13))]) (.cond (.s 14) (.seq (.ops [.i (.mov 6 (.c (.val false [.nils]))), .i (.mov 7 (qb false))]) .ret) .skip)) (.seq (.ops [qm 15 1, qf 16 5 0, ql 17 5 16 1 false, .i (.len 18 false (.s 17)), .i (.call 20 233 false [(.s 15), (.s 18)]), qm 8 19]) (.seq (.seq (.ops [qf 20 5 0, ql 21 5 20 1 false, .i (.len 22 false (.s 21)), .i (.mov 23 (qi 0))]) (.block 0 (.loop [34, 33, 32, 31, 30, 29, 28, 27, 26, 25, 24, 10] (.seq (.ops [.i (.bin 24 .lss (.s 23) (.s 22))]) (.seq (.cond (.s 24) .skip (.exit 0)) (.seq (.block 1 (.seq (.ops [.i (.iad 25 (.s 21) (.s 23) 10), .i (.ldh 26 (.s 25) 10 true), .i (.lal 10 qz), .i (.stl 10 (.s 10) (.s 26) 10)]) (.ops [ql 28 3 3 5 true, qm 29 8, ql 30 10 10 10 true, .i (.call 32 169 false [(.s 28), (.s 29), (.s 30)]), qm 27 31, .i (.ext 32 (.s 27) 0), .i (.ext 33 (.s 27) 1), qm 8 32]))) (.ops [.i (.bin 34 .add (.s 23) (qi 1)), qm 23 34]))))))) (.seq (.ops [ql 35 3 3 5 true, qm 36 8, qf 37 5 1, ql 38 5 37 5 true, .i (.call 40 168 false [(.s 35), (.s 36), (.s 38)]), .i (.ext 40 (.s 39) 0), .i (.ext 41 (.s 39) 1), qm 6 40, qm 7 41]) .ret)))))⟩
theorem k_spec_PutProof : cd n_spec_PutProof = some c_spec_PutProof := by kernel_rfl
theorem spec_PutProof_ok (l : Lim) (b : Bytes) (p : Proof) (hw : p.wc) (hb : b.length ≤ 800000000) : VC cd n_spec_PutProof (mkP [(true, l.c), (false, [.sl (bytes b)]), (true, p.c)]) (fun rs _ => rs = putE (proofOk l p) (b ++ proofB p)) := by
 refine VC_enter k_spec_PutProof rfl ?_
 simp (disch := omega) [c_spec_PutProof, Proof.c, Lim.c, VY]
 refine VXC_e (spec_ProofOk_ok l p hw.1) (by first | rfl | (simp [Lim.c, Proof.c, argsD, argDs, argD, St.slc, lk_cons, lk] <;> repeat' constructor)) rfl ?_
 simp (disch := omega) [VY]
 refine VXB_b (fun h0 => ?_) (fun h0 => ?_)
 case refine_2 => simp (disch := omega) [h0, putE, VY]
 obtain ⟨hf, hq, hh⟩ := proofOk_all h0
 have h1 := varB_nine (n := p.heads.length) (by omega)
 simp (disch := omega) [h0, hds_len, VY]
 refine VXC_e (l11Num_ok b p.heads.length (isNum_of (by omega)) (by omega)) (by first | rfl | (simp [argsD, argDs, argD, St.slc, lk_cons, lk] <;> repeat' constructor)) rfl ?_
 simp (disch := omega) [h0, hds_len, VY]
 refine VX_loopP (σ := Nat × Nat × Nat) (f1 := _) (by simp (disch := omega) [VY]; rfl) (fun q => [(23, .val false [.int .i64 (q.1 : Int)]), (8, .val false [.ow q.2.1 q.2.2])]) (fun q => [(q.2.1, .sl q.2.2 true true (some (5, 1)) (bytes (b ++ (varB p.heads.length ++ headsB (p.heads.take q.1)))))]) (fun q g => g + q.1 = p.heads.length ∧ (q.2.1 = 172032 ∨ q.2.1 = 270336)) (0, 172032, 13) p.heads.length (by simp (disch := omega) [VY]) (by simp (disch := omega) [show headsB [] = [] from rfl, VY]) ⟨by omega, .inl rfl⟩ ?_
 rintro ⟨i, key, v⟩ n g ⟨hg, hk⟩ P hP
 simp only at hg hk
 have hl := headsB_len (l := p.heads.take i) (fun e h => headOk_sz (hh e (List.mem_of_mem_take h)))
 have hl2 : (p.heads.take i).length ≤ 5 := by rw [List.length_take]; omega
 have hl3 : (headsB (p.heads.take i)).length ≤ 5000 := by omega
 rcases hk with rfl | rfl
 all_goals
  simp (disch := omega) [VY]
  refine VXB_dec (fun h2 => ?_) (fun h2 => ?_)
  ·have hi : i < p.heads.length := by omega
   have hx := hh _ (List.getElem_mem hi)
   simp (disch := omega) [hds_get hi, Head.c, VY]
   refine VXC_e ((spec_PutHead_ok l (b ++ (varB p.heads.length ++ headsB (p.heads.take i))) p.heads[i] (hw.2.1 _ (List.getElem_mem hi)).1 (by simp only [List.length_append]; omega)).re (putE_t hx)) (by first | rfl | (simp [Lim.c, Head.c, argsD, argDs, argD, St.slc, lk_cons, lk] <;> repeat' constructor)) rfl ?_
   simp (disch := omega) [VY]
   exact hP (i + 1, 270336, _) (g - 1) _ _ (by omega) ⟨by simp only; omega, .inr rfl⟩ (by simp (disch := omega) [VY]; rfl) (by simp (disch := omega) [headsB_next hi, VY])
  ·have hi : i = p.heads.length := by omega
   subst hi
   rw [List.take_length] at hl3
   simp (disch := omega) [List.take_length, VY]
   refine VXC_e ((spec_PutQc_ok l (b ++ (varB p.heads.length ++ headsB p.heads)) p.qc hw.2.2.1 (by simp only [List.length_append]; omega)).re (putE_t hq)) (by first | rfl | (simp [Lim.c, Qc.c, argsD, argDs, argD, St.slc, lk_cons, lk] <;> repeat' constructor)) rfl ?_
   simp (disch := omega) [putE, proofB, headsB, VY]
theorem inclOk_all {l : Lim} {x : Incl} (h : inclOk l x = true) : isNum x.height = true ∧ isNum x.n = true ∧ isNum x.idx = true ∧ x.tx.length ≤ 40 ∧ x.path.length ≤ 8 ∧ ∀ y ∈ x.path, y.length = 32 := by
 simp only [inclOk, Bool.and_eq_true, decide_eq_true_eq] at h
 obtain ⟨⟨⟨⟨⟨⟨h1, h2⟩, h3⟩, h4⟩, h5⟩, h6⟩, h7⟩ := h
 have g1 := lim_txs h1
 have g3 := inn_of h3
 have g4 := inn_of h4
 have g5 := pathLen_le x.n.toNat x.idx.toNat
 refine ⟨h2, by simp only [isNum, inn, decide_eq_true_eq]; omega, by simp only [isNum, inn, decide_eq_true_eq]; omega, by omega, by omega, fun y hy => ?_⟩
 simp only [hashes, List.all_eq_true] at h7
 exact hash_len (h7 y hy)
abbrev n_impl_PutIncl : Nat := 182
def c_impl_PutIncl : AF := ⟨3, 6, [.tmp 6, .tmp 7], (.seq (.ops [.i (.lbox 3 (.s 0)), .i (.lbox 5 (.s 2)), .i (.mov 6 (.c (.val false [.nils]))), .i (.mov 7 (qb false))]) (.seq (.seq (.ops [ql 11 3 3 5 true, ql 12 5 5 5 true, .i (.call 14 247 false [(.s 11), (.s 12)]), .i (.not 14 (.s 13))]) (.cond (.s 14) (.seq (.ops [.i (.mov 6 (.c (.val false [.nils]))), .i (.mov 7 (qb false))]) .ret) .skip)) (.seq (.ops [qm 15 1, .i (.call 17 60 false [(.s 15)]), .i (.bld 17 [.nils] [(0, 1, (.s 16))]), .i (.hbox 18 228 (.s 17)), qm 8 18]) (.seq (.ops [qm 19 8, qf 20 5 0, ql 21 5 20 1 false, .i (.call 23 241 false [(.s 19), (.s 21)])]) (.seq (.ops [qm 23 8, qf 24 5 1, ql 25 5 24 1 false, .i (.call 27 241 false [(.s 23), (.s 25)])]) (.seq (.ops [qm 27 8, qf 28 5 2, ql 29 5 28 1 false, .i (.call 31 241 false [(.s 27), (.s 29)])]) (.seq (.ops [qm 31 8, qm 32 8, .i (.nch 33 (.s 32)), qf 34 33 0, .i (.ldh 35 (.s 34) 1 false), qf 36 5 3, ql 37 5 36 1 false, .i (.call 39 245 false [(.s 35), (.s 37)]), .i (.nch 39 (.s 31)), qf 40 39 0, .i (.sth (.s 40) (.s 38) 1)]) (.seq (.seq (.ops [qf 41 5 4, ql 42 5 41 1 false, .i (.len 43 false (.s 42)), .i (.mov 44 (qi 0))]) (.block 0 (.loop [51, 50, 49, 48, 47, 46, 45, 10] (.seq (.ops [.i (.bin 45 .lss (.s 44) (.s 43))]) (.seq (.cond (.s 45) .skip (.exit 0)) (.seq (.block 1 (.seq (.ops [.i (.iad 46 (.s 42) (.s 44) 1), .i (.ldh 47 (.s 46) 1 false), qm 10 47]) (.ops [qm 48 8, qm 49 10, .i (.call 51 242 false [(.s 48), (.s 49)])]))) (.ops [.i (.bin 51 .add (.s 44) (qi 1)), qm 44 51]))))))) (.seq (.ops [qm 52 8, .i (.nch 53 (.s 52)), qf 54 53 0, .i (.ldh 55 (.s 54) 1 false), qm 6 55, .i (.mov 7 (qb true))]) .ret)))))))))⟩
theorem k_impl_PutIncl : cd n_impl_PutIncl = some c_impl_PutIncl := by kernel_rfl
theorem impl_PutIncl_ok (l : Lim) (b : Bytes) (x : Incl) (hw : x.wc) (htx : x.tx.length ≤ 100000000) (hb : b.length ≤ 800000000) : VC cd n_impl_PutIncl (mkP [(true, l.c), (false, [.sl (bytes b)]), (true, x.c)]) (fun rs _ => rs = putE (inclOk l x) (b ++ inclB x)) := by
 refine VC_enter k_impl_PutIncl rfl ?_
 simp (disch := omega) [c_impl_PutIncl, Incl.c, Lim.c, VY]
 refine VXC_e (impl_InclOk_ok l x hw) (by first | rfl | (simp [Lim.c, Incl.c, argsD, argDs, argD, St.slc, lk_cons, lk] <;> repeat' constructor)) rfl ?_
 simp (disch := omega) [VY]
 refine VXB_b (fun h0 => ?_) (fun h0 => ?_)
 case refine_2 => simp (disch := omega) [h0, putE, VY]
 obtain ⟨n1, n2, n3, ht, hf, hp⟩ := inclOk_all h0
 have v1 := varB_num n1
 have v2 := varB_num n2
 have v3 := varB_num n3
 have v4 := textB_len (x := x.tx) (by omega)
 simp (disch := omega) [h0, VY]
 refine VXC_e (copyBytes_ok b (by omega)) rfl rfl ?_
 simp (disch := omega) [VY, VQ, expR, expE, exp0]
 refine VXC_p (writer_num_ok _ x.height n1 ?_) (by simp (disch := omega) [VY, VQ, expR, expE, exp0]; exact ⟨rfl, rfl⟩) rfl rfl (by simp (disch := omega) [VY, VQ, expR, expE, exp0]; exact ⟨rfl, rfl⟩) (by simp (disch := omega) [VY, VQ, expR, expE, exp0]) (by simp (disch := omega) [VY, VQ, expR, expE, exp0]) (by simp (disch := omega) [VY, VQ, expR, expE, exp0]) (by omega) (by simp (disch := omega) [VY, VQ, expR, expE, exp0]) ?_
 ·(try simp only [List.length_append]); omega
 simp (disch := omega) [VY, VQ, expR, expE, exp0]
 refine VXC_p (writer_num_ok _ x.n n2 ?_) (by simp (disch := omega) [VY, VQ, expR, expE, exp0]; exact ⟨rfl, rfl⟩) rfl rfl (by simp (disch := omega) [VY, VQ, expR, expE, exp0]; exact ⟨rfl, rfl⟩) (by simp (disch := omega) [VY, VQ, expR, expE, exp0]) (by simp (disch := omega) [VY, VQ, expR, expE, exp0]) (by simp (disch := omega) [VY, VQ, expR, expE, exp0]) (by omega) (by simp (disch := omega) [VY, VQ, expR, expE, exp0]) ?_
 ·(try simp only [List.length_append]); omega
 simp (disch := omega) [VY, VQ, expR, expE, exp0]
 refine VXC_p (writer_num_ok _ x.idx n3 ?_) (by simp (disch := omega) [VY, VQ, expR, expE, exp0]; exact ⟨rfl, rfl⟩) rfl rfl (by simp (disch := omega) [VY, VQ, expR, expE, exp0]; exact ⟨rfl, rfl⟩) (by simp (disch := omega) [VY, VQ, expR, expE, exp0]) (by simp (disch := omega) [VY, VQ, expR, expE, exp0]) (by simp (disch := omega) [VY, VQ, expR, expE, exp0]) (by omega) (by simp (disch := omega) [VY, VQ, expR, expE, exp0]) ?_
 ·(try simp only [List.length_append]); omega
 simp (disch := omega) [VY, VQ, expR, expE, exp0]
 refine VXC_e (impl_PutText_ok (b ++ (varB x.height.toNat ++ (varB x.n.toNat ++ varB x.idx.toNat))) x.tx (by simp only [List.length_append]; omega) (by omega)) (by first | rfl | (simp [argsD, argDs, argD, St.slc, lk_cons, lk] <;> repeat' constructor)) rfl ?_
 simp (disch := omega) [bss_len, VY, VQ, expR, expE, exp0]
 refine VX_loopP (σ := Nat × Nat × Nat) (f1 := _) (by simp (disch := omega) [VY, VQ, expR, expE, exp0]; rfl) (fun q => [(44, .val false [.int .i64 (q.1 : Int)])]) (fun q => [(18, .pt 13 228 [.ow q.2.1 q.2.2]), (q.2.1, .sl q.2.2 true true (some (5, 1)) (bytes (b ++ (varB x.height.toNat ++ (varB x.n.toNat ++ (varB x.idx.toNat ++ (textB x.tx ++ (x.path.take q.1).flatten)))))))]) (fun q g => g + q.1 = x.path.length ∧ (q.2.1 = 327680 ∨ q.2.1 = 1099511701504)) (0, 327680, 20) x.path.length (by simp (disch := omega) [VY, VQ, expR, expE, exp0]) (by simp (disch := omega) [VY, VQ, expR, expE, exp0]) ⟨by omega, .inl rfl⟩ ?_
 rintro ⟨i, key, v⟩ n g ⟨hg, hk⟩ P hP
 simp only at hg hk
 rcases hk with rfl | rfl
 all_goals
  simp (disch := omega) [VY, VQ, expR, expE, exp0]
  refine VXB_dec (fun h2 => ?_) (fun h2 => ?_)
  ·have hi : i < x.path.length := by omega
   have hy := hp _ (List.getElem_mem hi)
   have hz := flat_take hp (i := i) (by omega)
   simp (disch := omega) [bss_get hi, VY, VQ, expR, expE, exp0]
   refine VXC_p (writer_raw_ok _ x.path[i] (by omega) ?_) (by simp (disch := omega) [VY, VQ, expR, expE, exp0]; exact ⟨rfl, rfl⟩) rfl rfl (by simp (disch := omega) [VY, VQ, expR, expE, exp0]; exact ⟨rfl, rfl⟩) (by simp (disch := omega) [VY, VQ, expR, expE, exp0]) (by simp (disch := omega) [VY, VQ, expR, expE, exp0]) (by simp (disch := omega) [VY, VQ, expR, expE, exp0]) (by omega) (by simp (disch := omega) [VY, VQ, expR, expE, exp0]) ?_
   ·(try simp only [List.length_append]); omega
   simp (disch := omega) [VY, VQ, expR, expE, exp0]
   exact hP (i + 1, 1099511701504, _) (g - 1) _ _ (by omega) ⟨by simp only; omega, .inr rfl⟩ (by simp (disch := omega) [VY, VQ, expR, expE, exp0]) (by simp (disch := omega) [flat_next hi, VY, VQ, expR, expE, exp0]; rfl)
  ·have hi : i = x.path.length := by omega
   subst hi
   simp (disch := omega) [putE, inclB, List.take_length, VY, VQ, expR, expE, exp0]
abbrev n_spec_PutIncl : Nat := 173
def c_spec_PutIncl : AF := ⟨3, 6, [.tmp 6, .tmp 7], (.seq (.ops [.i (.lbox 3 (.s 0)), .i (.lbox 5 (.s 2)), .i (.mov 6 (.c (.val false [.nils]))), .i (.mov 7 (qb false))]) (.seq (.seq (.ops [ql 11 3 3 5 true, ql 12 5 5 5 true, .i (.call 14 238 false [(.s 11), (.s 12)]), .i (.not 14 (.s 13))]) (.cond (.s 14) (.seq (.ops [.i (.mov 6 (.c (.val false [.nils]))), .i (.mov 7 (qb false))]) .ret) .skip)) (.seq (.ops [qm 15 1, qf 16 5 0, ql 17 5 16 1 false, .i (.call 19 233 false [(.s 15), (.s 17)]), qf 19 5 1, ql 20 5 19 1 false, .i (.call 22 233 false [(.s 18), (.s 20)]), qf 22 5 2, ql 23 5 22 1 false, .i (.call 25 233 false [(.s 21), (.s 23)]), qf 25 5 3, ql 26 5 25 1 false, .i (.call 28 235 false [(.s 24), (.s 26)]), qm 8 27]) (.seq (.seq (.ops [qf 28 5 4, ql 29 5 28 1 false, .i (.len 30 false (.s 29)), .i (.mov 31 (qi 0))]) (.block 0 (.loop [38, 37, 36, 35, 34, 33, 32, 10] (.seq (.ops [.i (.bin 32 .lss (.s 31) (.s 30))]) (.seq (.cond (.s 32) .skip (.exit 0)) (.seq (.block 1 (.seq (.ops [.i (.iad 33 (.s 29) (.s 31) 1), .i (.ldh 34 (.s 33) 1 false), qm 10 34]) (.ops [qm 35 8, qm 36 10, .i (.app 37 5 1 1 (.s 35) (.s 36)), qm 8 37]))) (.ops [.i (.bin 38 .add (.s 31) (qi 1)), qm 31 38]))))))) (.seq (.ops [qm 39 8, qm 6 39, .i (.mov 7 (qb true))]) .ret)))))⟩
theorem k_spec_PutIncl : cd n_spec_PutIncl = some c_spec_PutIncl := by kernel_rfl
theorem spec_PutIncl_ok (l : Lim) (b : Bytes) (x : Incl) (hw : x.wc) (htx : x.tx.length ≤ 100000000) (hb : b.length ≤ 800000000) : VC cd n_spec_PutIncl (mkP [(true, l.c), (false, [.sl (bytes b)]), (true, x.c)]) (fun rs _ => rs = putE (inclOk l x) (b ++ inclB x)) := by
 refine VC_enter k_spec_PutIncl rfl ?_
 simp (disch := omega) [c_spec_PutIncl, Incl.c, Lim.c, VY]
 refine VXC_e (spec_InclOk_ok l x hw) (by first | rfl | (simp [Lim.c, Incl.c, argsD, argDs, argD, St.slc, lk_cons, lk] <;> repeat' constructor)) rfl ?_
 simp (disch := omega) [VY]
 refine VXB_b (fun h0 => ?_) (fun h0 => ?_)
 case refine_2 => simp (disch := omega) [h0, putE, VY]
 obtain ⟨n1, n2, n3, ht, hf, hp⟩ := inclOk_all h0
 have v1 := varB_num n1
 have v2 := varB_num n2
 have v3 := varB_num n3
 have v4 := textB_len (x := x.tx) (by omega)
 simp (disch := omega) [h0, VY]
 refine VXC_e (l11Num_ok b x.height n1 (by omega)) (by first | rfl | (simp [argsD, argDs, argD, St.slc, lk_cons, lk] <;> repeat' constructor)) rfl ?_
 simp (disch := omega) [h0, VY]
 refine VXC_e (l11Num_ok (b ++ varB x.height.toNat) x.n n2 (by simp only [List.length_append]; omega)) (by first | rfl | (simp [argsD, argDs, argD, St.slc, lk_cons, lk] <;> repeat' constructor)) rfl ?_
 simp (disch := omega) [h0, VY]
 refine VXC_e (l11Num_ok (b ++ (varB x.height.toNat ++ varB x.n.toNat)) x.idx n3 (by simp only [List.length_append]; omega)) (by first | rfl | (simp [argsD, argDs, argD, St.slc, lk_cons, lk] <;> repeat' constructor)) rfl ?_
 simp (disch := omega) [h0, VY]
 refine VXC_e (spec_PutText_ok (b ++ (varB x.height.toNat ++ (varB x.n.toNat ++ varB x.idx.toNat))) x.tx (by simp only [List.length_append]; omega) (by omega)) (by first | rfl | (simp [argsD, argDs, argD, St.slc, lk_cons, lk] <;> repeat' constructor)) rfl ?_
 simp (disch := omega) [h0, bss_len, VY]
 refine VX_loopP (σ := Nat × Nat) (f1 := _) (by simp (disch := omega) [VY]; rfl) (fun q => [(31, .val false [.int .i64 (q.1 : Int)]), (8, .val false [.ow 237568 q.2])]) (fun q => [(237568, .sl q.2 true true (some (5, 1)) (bytes (b ++ (varB x.height.toNat ++ (varB x.n.toNat ++ (varB x.idx.toNat ++ (textB x.tx ++ (x.path.take q.1).flatten)))))))]) (fun q g => g + q.1 = x.path.length) (0, 15) x.path.length (by simp (disch := omega) [VY]) (by simp (disch := omega) [VY]) (by omega) ?_
 rintro ⟨i, v⟩ n g hg P hP
 simp only at hg
 simp (disch := omega) [VY]
 refine VXB_dec (fun h2 => ?_) (fun h2 => ?_)
 ·have hi : i < x.path.length := by omega
  have hy := hp _ (List.getElem_mem hi)
  have hz := flat_take hp (i := i) (by omega)
  simp (disch := omega) [bss_get hi, bytes_app, bytes_len, hz, VY]
  exact hP (i + 1, _) (g - 1) _ _ (by omega) (by simp only; omega) (by simp (disch := omega) [VY]; rfl) (by simp (disch := omega) [flat_next hi, VY])
 ·have hi : i = x.path.length := by omega
  subst hi
  simp (disch := omega) [putE, inclB, List.take_length, VY]
end Go.Eng.F
namespace Go.Eng.F
structure Msg where
 kind : Int
 vote : Vote
 qc : Qc
 head : Head
 block : Block
 tc : Tc
 proof : Proof
 incl : Incl
def Msg.c (m : Msg) : List D := [.int .i64 m.kind, .int .i64 m.vote.view, .int .i64 m.vote.height, .sl (bytes m.vote.block), .int .i64 m.vote.who, .sl (bytes m.vote.tag), .int .i64 m.qc.view, .int .i64 m.qc.height, .sl (bytes m.qc.block), .sl (bytes m.qc.bits), .sl (bss m.qc.tags), .int .i64 m.head.view, .int .i64 m.head.height, .int .i64 m.head.proposer, .sl (bytes m.head.parent), .sl (bytes m.head.root), .int .i64 m.head.qc.view, .int .i64 m.head.qc.height, .sl (bytes m.head.qc.block), .sl (bytes m.head.qc.bits), .sl (bss m.head.qc.tags), .int .i64 m.block.head.view, .int .i64 m.block.head.height, .int .i64 m.block.head.proposer, .sl (bytes m.block.head.parent), .sl (bytes m.block.head.root), .int .i64 m.block.head.qc.view, .int .i64 m.block.head.qc.height, .sl (bytes m.block.head.qc.block), .sl (bytes m.block.head.qc.bits), .sl (bss m.block.head.qc.tags), .sl (bss m.block.txs), .int .i64 m.tc.view, .sl (ens m.tc.entries), .sl (hds m.proof.heads), .int .i64 m.proof.qc.view, .int .i64 m.proof.qc.height, .sl (bytes m.proof.qc.block), .sl (bytes m.proof.qc.bits), .sl (bss m.proof.qc.tags), .int .i64 m.incl.height, .int .i64 m.incl.n, .int .i64 m.incl.idx, .sl (bytes m.incl.tx), .sl (bss m.incl.path)]
def Block.wx (x : Block) : Prop := x.wc ∧ ∀ t ∈ x.txs, t.length ≤ 100000000
structure Msg.wc (m : Msg) : Prop where
 kind : I64 m.kind
 vote : m.vote.wf
 qc : m.qc.wc
 head : m.head.wc
 block : m.block.wx
 tc : m.tc.wf
 proof : m.proof.wc
 incl : m.incl.wc
 tx : m.incl.tx.length ≤ 100000000
def zVote : Vote := ⟨0, 0, [], 0, []⟩
def zQc : Qc := ⟨0, 0, [], [], []⟩
def zHead : Head := ⟨0, 0, 0, [], [], zQc⟩
def zBlock : Block := ⟨zHead, []⟩
def zTc : Tc := ⟨0, []⟩
def zProof : Proof := ⟨[], zQc⟩
def zIncl : Incl := ⟨0, 0, 0, [], []⟩
def zMsg : Msg := ⟨0, zVote, zQc, zHead, zBlock, zTc, zProof, zIncl⟩
theorem zMsg_wc : zMsg.wc := by
 constructor <;> simp [zMsg, zVote, zQc, zHead, zBlock, zTc, zProof, zIncl, I64, Sz, Vote.wf, Qc.wc, Qc.wf, Head.wc, Head.wf, Block.wx, Block.wc, BssWf, Tc.wf, Proof.wc, Proof.wf, HeadsWf, Incl.wc]
def msgSame (a b : Msg) : Bool := decide (a.kind = b.kind) && voteSame a.vote b.vote && qcSame a.qc b.qc && headSame a.head b.head && blockSame a.block b.block && tcSame a.tc b.tc && proofSame a.proof b.proof && inclSame a.incl b.incl
abbrev n_impl_MsgSame : Nat := 98
def c_impl_MsgSame : AF := ⟨2, 6, [.tmp 4], (.seq (.ops [.i (.lbox 2 (.s 0)), .i (.lbox 3 (.s 1)), .i (.mov 4 (qb false))]) (.seq (.ops [qf 5 2 0, ql 6 2 5 1 false, qf 7 3 0, ql 8 3 7 1 false, .i (.bin 9 .eql (.s 6) (.s 8)), qm 10 9, .g 10 true 12 (.fad 11 (.s 2) 1), .g 10 true 13 (.ldl 12 2 (.s 11) 5 true), .g 10 true 14 (.fad 13 (.s 3) 1), .g 10 true 15 (.ldl 14 3 (.s 13) 5 true), .g 10 true 16 (.call 16 183 false [(.s 12), (.s 14)]), .i (.pick 16 (.s 10) (.s 15) (qb false)), qm 17 16, .g 17 true 19 (.fad 18 (.s 2) 6), .g 17 true 20 (.ldl 19 2 (.s 18) 5 true), .g 17 true 21 (.fad 20 (.s 3) 6), .g 17 true 22 (.ldl 21 3 (.s 20) 5 true), .g 17 true 23 (.call 23 59 false [(.s 19), (.s 21)]), .i (.pick 23 (.s 17) (.s 22) (qb false)), qm 24 23, .g 24 true 26 (.fad 25 (.s 2) 11), .g 24 true 27 (.ldl 26 2 (.s 25) 10 true), .g 24 true 28 (.fad 27 (.s 3) 11), .g 24 true 29 (.ldl 28 3 (.s 27) 10 true), .g 24 true 30 (.call 30 13 false [(.s 26), (.s 28)]), .i (.pick 30 (.s 24) (.s 29) (qb false)), qm 31 30, .g 31 true 33 (.fad 32 (.s 2) 21), .g 31 true 34 (.ldl 33 2 (.s 32) 11 true), .g 31 true 35 (.fad 34 (.s 3) 21), .g 31 true 36 (.ldl 35 3 (.s 34) 11 true), .g 31 true 37 (.call 37 184 false [(.s 33), (.s 35)]), .i (.pick 37 (.s 31) (.s 36) (qb false)), qm 38 37, .g 38 true 40 (.fad 39 (.s 2) 32), .g 38 true 41 (.ldl 40 2 (.s 39) 2 true), .g 38 true 42 (.fad 41 (.s 3) 32), .g 38 true 43 (.ldl 42 3 (.s 41) 2 true), .g 38 true 44 (.call 44 185 false [(.s 40), (.s 42)]), .i (.pick 44 (.s 38) (.s 43) (qb false)), qm 45 44, .g 45 true 47 (.fad 46 (.s 2) 34), .g 45 true 48 (.ldl 47 2 (.s 46) 6 true), .g 45 true 49 (.fad 48 (.s 3) 34), .g 45 true 50 (.ldl 49 3 (.s 48) 6 true), .g 45 true 51 (.call 51 186 false [(.s 47), (.s 49)]), .i (.pick 51 (.s 45) (.s 50) (qb false)), qm 52 51, .g 52 true 54 (.fad 53 (.s 2) 40), .g 52 true 55 (.ldl 54 2 (.s 53) 5 true), .g 52 true 56 (.fad 55 (.s 3) 40), .g 52 true 57 (.ldl 56 3 (.s 55) 5 true), .g 52 true 58 (.call 58 187 false [(.s 54), (.s 56)]), .i (.pick 58 (.s 52) (.s 57) (qb false)), qm 4 58]) .ret))⟩
theorem k_impl_MsgSame : cd n_impl_MsgSame = some c_impl_MsgSame := by kernel_rfl
theorem impl_MsgSame_ok (a b : Msg) (ha : a.wc) (hb : b.wc) : VC cd n_impl_MsgSame (mkP [(true, a.c), (true, b.c)]) (fun rs _ => rs = bl (msgSame a b)) := by
 refine VC_enter k_impl_MsgSame rfl ?_
 simp (disch := omega) [c_impl_MsgSame, Msg.c, VY]
 refine VXB_dec (fun h1 => ?_) (fun h1 => ?_) <;> simp (disch := omega) [h1, msgSame, VY]
 refine VXC_e (impl_VoteSame_ok a.vote b.vote) (by first | rfl | (simp [Vote.c, argsD, argDs, argD, St.slc, lk_cons, lk] <;> repeat' constructor)) rfl ?_
 simp (disch := omega) [h1, VY]
 refine VXB_b (fun h2 => ?_) (fun h2 => ?_) <;> simp (disch := omega) [h1, h2, VY]
 refine VXC_e (impl_QcSame_ok a.qc b.qc ha.qc.1 hb.qc.1) (by first | rfl | (simp [Qc.c, argsD, argDs, argD, St.slc, lk_cons, lk] <;> repeat' constructor)) rfl ?_
 simp (disch := omega) [h1, h2, VY]
 refine VXB_b (fun h3 => ?_) (fun h3 => ?_) <;> simp (disch := omega) [h1, h2, h3, VY]
 refine VXC_e (impl_HeadSame_ok a.head b.head ha.head.1 hb.head.1) (by first | rfl | (simp [Head.c, argsD, argDs, argD, St.slc, lk_cons, lk] <;> repeat' constructor)) rfl ?_
 simp (disch := omega) [h1, h2, h3, VY]
 refine VXB_b (fun h4 => ?_) (fun h4 => ?_) <;> simp (disch := omega) [h1, h2, h3, h4, VY]
 refine VXC_e (impl_BlockSame_ok a.block b.block ha.block.1 hb.block.1) (by first | rfl | (simp [Block.c, Head.c, argsD, argDs, argD, St.slc, lk_cons, lk] <;> repeat' constructor)) rfl ?_
 simp (disch := omega) [h1, h2, h3, h4, VY]
 refine VXB_b (fun h5 => ?_) (fun h5 => ?_) <;> simp (disch := omega) [h1, h2, h3, h4, h5, VY]
 refine VXC_e (impl_TcSame_ok a.tc b.tc ha.tc hb.tc) (by first | rfl | (simp [Tc.c, argsD, argDs, argD, St.slc, lk_cons, lk] <;> repeat' constructor)) rfl ?_
 simp (disch := omega) [h1, h2, h3, h4, h5, VY]
 refine VXB_b (fun h6 => ?_) (fun h6 => ?_) <;> simp (disch := omega) [h1, h2, h3, h4, h5, h6, VY]
 refine VXC_e (impl_ProofSame_ok a.proof b.proof ha.proof.1 hb.proof.1) (by first | rfl | (simp [Proof.c, argsD, argDs, argD, St.slc, lk_cons, lk] <;> repeat' constructor)) rfl ?_
 simp (disch := omega) [h1, h2, h3, h4, h5, h6, VY]
 refine VXB_b (fun h7 => ?_) (fun h7 => ?_) <;> simp (disch := omega) [h1, h2, h3, h4, h5, h6, h7, VY]
 refine VXC_e (impl_InclSame_ok a.incl b.incl ha.incl hb.incl) (by first | rfl | (simp [Incl.c, argsD, argDs, argD, St.slc, lk_cons, lk] <;> repeat' constructor)) rfl ?_
 simp (disch := omega) [h1, h2, h3, h4, h5, h6, h7, VY]
abbrev n_spec_MsgSame : Nat := 87
def c_spec_MsgSame : AF := ⟨2, 6, [.tmp 4], (.seq (.ops [.i (.lbox 2 (.s 0)), .i (.lbox 3 (.s 1)), .i (.mov 4 (qb false))]) (.seq (.ops [qf 5 2 0, ql 6 2 5 1 false, qf 7 3 0, ql 8 3 7 1 false, .i (.bin 9 .eql (.s 6) (.s 8)), qm 10 9, .g 10 true 12 (.fad 11 (.s 2) 1), .g 10 true 13 (.ldl 12 2 (.s 11) 5 true), .g 10 true 14 (.fad 13 (.s 3) 1), .g 10 true 15 (.ldl 14 3 (.s 13) 5 true), .g 10 true 16 (.call 16 153 false [(.s 12), (.s 14)]), .i (.pick 16 (.s 10) (.s 15) (qb false)), qm 17 16, .g 17 true 19 (.fad 18 (.s 2) 6), .g 17 true 20 (.ldl 19 2 (.s 18) 5 true), .g 17 true 21 (.fad 20 (.s 3) 6), .g 17 true 22 (.ldl 21 3 (.s 20) 5 true), .g 17 true 23 (.call 23 154 false [(.s 19), (.s 21)]), .i (.pick 23 (.s 17) (.s 22) (qb false)), qm 24 23, .g 24 true 26 (.fad 25 (.s 2) 11), .g 24 true 27 (.ldl 26 2 (.s 25) 10 true), .g 24 true 28 (.fad 27 (.s 3) 11), .g 24 true 29 (.ldl 28 3 (.s 27) 10 true), .g 24 true 30 (.call 30 155 false [(.s 26), (.s 28)]), .i (.pick 30 (.s 24) (.s 29) (qb false)), qm 31 30, .g 31 true 33 (.fad 32 (.s 2) 21), .g 31 true 34 (.ldl 33 2 (.s 32) 11 true), .g 31 true 35 (.fad 34 (.s 3) 21), .g 31 true 36 (.ldl 35 3 (.s 34) 11 true), .g 31 true 37 (.call 37 156 false [(.s 33), (.s 35)]), .i (.pick 37 (.s 31) (.s 36) (qb false)), qm 38 37, .g 38 true 40 (.fad 39 (.s 2) 32), .g 38 true 41 (.ldl 40 2 (.s 39) 2 true), .g 38 true 42 (.fad 41 (.s 3) 32), .g 38 true 43 (.ldl 42 3 (.s 41) 2 true), .g 38 true 44 (.call 44 157 false [(.s 40), (.s 42)]), .i (.pick 44 (.s 38) (.s 43) (qb false)), qm 45 44, .g 45 true 47 (.fad 46 (.s 2) 34), .g 45 true 48 (.ldl 47 2 (.s 46) 6 true), .g 45 true 49 (.fad 48 (.s 3) 34), .g 45 true 50 (.ldl 49 3 (.s 48) 6 true), .g 45 true 51 (.call 51 158 false [(.s 47), (.s 49)]), .i (.pick 51 (.s 45) (.s 50) (qb false)), qm 52 51, .g 52 true 54 (.fad 53 (.s 2) 40), .g 52 true 55 (.ldl 54 2 (.s 53) 5 true), .g 52 true 56 (.fad 55 (.s 3) 40), .g 52 true 57 (.ldl 56 3 (.s 55) 5 true), .g 52 true 58 (.call 58 159 false [(.s 54), (.s 56)]), .i (.pick 58 (.s 52) (.s 57) (qb false)), qm 4 58]) .ret))⟩
theorem k_spec_MsgSame : cd n_spec_MsgSame = some c_spec_MsgSame := by kernel_rfl
theorem spec_MsgSame_ok (a b : Msg) (ha : a.wc) (hb : b.wc) : VC cd n_spec_MsgSame (mkP [(true, a.c), (true, b.c)]) (fun rs _ => rs = bl (msgSame a b)) := by
 refine VC_enter k_spec_MsgSame rfl ?_
 simp (disch := omega) [c_spec_MsgSame, Msg.c, VY]
 refine VXB_dec (fun h1 => ?_) (fun h1 => ?_) <;> simp (disch := omega) [h1, msgSame, VY]
 refine VXC_e (spec_VoteSame_ok a.vote b.vote) (by first | rfl | (simp [Vote.c, argsD, argDs, argD, St.slc, lk_cons, lk] <;> repeat' constructor)) rfl ?_
 simp (disch := omega) [h1, VY]
 refine VXB_b (fun h2 => ?_) (fun h2 => ?_) <;> simp (disch := omega) [h1, h2, VY]
 refine VXC_e (spec_QcSame_ok a.qc b.qc ha.qc.1 hb.qc.1) (by first | rfl | (simp [Qc.c, argsD, argDs, argD, St.slc, lk_cons, lk] <;> repeat' constructor)) rfl ?_
 simp (disch := omega) [h1, h2, VY]
 refine VXB_b (fun h3 => ?_) (fun h3 => ?_) <;> simp (disch := omega) [h1, h2, h3, VY]
 refine VXC_e (spec_HeadSame_ok a.head b.head ha.head.1 hb.head.1) (by first | rfl | (simp [Head.c, argsD, argDs, argD, St.slc, lk_cons, lk] <;> repeat' constructor)) rfl ?_
 simp (disch := omega) [h1, h2, h3, VY]
 refine VXB_b (fun h4 => ?_) (fun h4 => ?_) <;> simp (disch := omega) [h1, h2, h3, h4, VY]
 refine VXC_e (spec_BlockSame_ok a.block b.block ha.block.1 hb.block.1) (by first | rfl | (simp [Block.c, Head.c, argsD, argDs, argD, St.slc, lk_cons, lk] <;> repeat' constructor)) rfl ?_
 simp (disch := omega) [h1, h2, h3, h4, VY]
 refine VXB_b (fun h5 => ?_) (fun h5 => ?_) <;> simp (disch := omega) [h1, h2, h3, h4, h5, VY]
 refine VXC_e (spec_TcSame_ok a.tc b.tc ha.tc hb.tc) (by first | rfl | (simp [Tc.c, argsD, argDs, argD, St.slc, lk_cons, lk] <;> repeat' constructor)) rfl ?_
 simp (disch := omega) [h1, h2, h3, h4, h5, VY]
 refine VXB_b (fun h6 => ?_) (fun h6 => ?_) <;> simp (disch := omega) [h1, h2, h3, h4, h5, h6, VY]
 refine VXC_e (spec_ProofSame_ok a.proof b.proof ha.proof.1 hb.proof.1) (by first | rfl | (simp [Proof.c, argsD, argDs, argD, St.slc, lk_cons, lk] <;> repeat' constructor)) rfl ?_
 simp (disch := omega) [h1, h2, h3, h4, h5, h6, VY]
 refine VXB_b (fun h7 => ?_) (fun h7 => ?_) <;> simp (disch := omega) [h1, h2, h3, h4, h5, h6, h7, VY]
 refine VXC_e (spec_InclSame_ok a.incl b.incl ha.incl hb.incl) (by first | rfl | (simp [Incl.c, argsD, argDs, argD, St.slc, lk_cons, lk] <;> repeat' constructor)) rfl ?_
 simp (disch := omega) [h1, h2, h3, h4, h5, h6, h7, VY]
def ofVoteE (x : Vote) : List (Bool × List E) := [(true, [.p (.int .i64 1), .p (.int .i64 x.view), .p (.int .i64 x.height), .o true (some (5, 1)) (bytes x.block), .p (.int .i64 x.who), .o true (some (5, 1)) (bytes x.tag), .p (.int .i64 0), .p (.int .i64 0), .p .nils, .p .nils, .p .nils, .p (.int .i64 0), .p (.int .i64 0), .p (.int .i64 0), .p .nils, .p .nils, .p (.int .i64 0), .p (.int .i64 0), .p .nils, .p .nils, .p .nils, .p (.int .i64 0), .p (.int .i64 0), .p (.int .i64 0), .p .nils, .p .nils, .p (.int .i64 0), .p (.int .i64 0), .p .nils, .p .nils, .p .nils, .p .nils, .p (.int .i64 0), .p .nils, .p .nils, .p (.int .i64 0), .p (.int .i64 0), .p .nils, .p .nils, .p .nils, .p (.int .i64 0), .p (.int .i64 0), .p (.int .i64 0), .p .nils, .p .nils])]
def ofQcE (x : Qc) : List (Bool × List E) := [(true, [.p (.int .i64 2), .p (.int .i64 0), .p (.int .i64 0), .p .nils, .p (.int .i64 0), .p .nils, .p (.int .i64 x.view), .p (.int .i64 x.height), .o true (some (5, 1)) (bytes x.block), .o true (some (5, 1)) (bytes x.bits), .o true (some (22, 1)) (bss x.tags), .p (.int .i64 0), .p (.int .i64 0), .p (.int .i64 0), .p .nils, .p .nils, .p (.int .i64 0), .p (.int .i64 0), .p .nils, .p .nils, .p .nils, .p (.int .i64 0), .p (.int .i64 0), .p (.int .i64 0), .p .nils, .p .nils, .p (.int .i64 0), .p (.int .i64 0), .p .nils, .p .nils, .p .nils, .p .nils, .p (.int .i64 0), .p .nils, .p .nils, .p (.int .i64 0), .p (.int .i64 0), .p .nils, .p .nils, .p .nils, .p (.int .i64 0), .p (.int .i64 0), .p (.int .i64 0), .p .nils, .p .nils])]
def ofHeadE (x : Head) : List (Bool × List E) := [(true, [.p (.int .i64 3), .p (.int .i64 0), .p (.int .i64 0), .p .nils, .p (.int .i64 0), .p .nils, .p (.int .i64 0), .p (.int .i64 0), .p .nils, .p .nils, .p .nils, .p (.int .i64 x.view), .p (.int .i64 x.height), .p (.int .i64 x.proposer), .o true (some (5, 1)) (bytes x.parent), .o true (some (5, 1)) (bytes x.root), .p (.int .i64 x.qc.view), .p (.int .i64 x.qc.height), .o true (some (5, 1)) (bytes x.qc.block), .o true (some (5, 1)) (bytes x.qc.bits), .o true (some (22, 1)) (bss x.qc.tags), .p (.int .i64 0), .p (.int .i64 0), .p (.int .i64 0), .p .nils, .p .nils, .p (.int .i64 0), .p (.int .i64 0), .p .nils, .p .nils, .p .nils, .p .nils, .p (.int .i64 0), .p .nils, .p .nils, .p (.int .i64 0), .p (.int .i64 0), .p .nils, .p .nils, .p .nils, .p (.int .i64 0), .p (.int .i64 0), .p (.int .i64 0), .p .nils, .p .nils])]
def ofInclE (x : Incl) : List (Bool × List E) := [(true, [.p (.int .i64 7), .p (.int .i64 0), .p (.int .i64 0), .p .nils, .p (.int .i64 0), .p .nils, .p (.int .i64 0), .p (.int .i64 0), .p .nils, .p .nils, .p .nils, .p (.int .i64 0), .p (.int .i64 0), .p (.int .i64 0), .p .nils, .p .nils, .p (.int .i64 0), .p (.int .i64 0), .p .nils, .p .nils, .p .nils, .p (.int .i64 0), .p (.int .i64 0), .p (.int .i64 0), .p .nils, .p .nils, .p (.int .i64 0), .p (.int .i64 0), .p .nils, .p .nils, .p .nils, .p .nils, .p (.int .i64 0), .p .nils, .p .nils, .p (.int .i64 0), .p (.int .i64 0), .p .nils, .p .nils, .p .nils, .p (.int .i64 x.height), .p (.int .i64 x.n), .p (.int .i64 x.idx), .o true (some (5, 1)) (bytes x.tx), .o true (some (22, 1)) (bss x.path)])]
abbrev n_impl_OfVote : Nat := 188
def c_impl_OfVote : AF := ⟨1, 4, [.cell 2 45 true], (.seq (.ops [.i (.lbox 1 (.s 0)), .i (.lal 2 [.int .i64 0, .int .i64 0, .int .i64 0, .nils, .int .i64 0, .nils, .int .i64 0, .int .i64 0, .nils, .nils, .nils, .int .i64 0, .int .i64 0, .int .i64 0, .nils, .nils, .int .i64 0, .int .i64 0, .nils, .nils, .nils, .int .i64 0, .int .i64 0, .int .i64 0, .nils, .nils, .int .i64 0, .int .i64 0, .nils, .nils, .nils, .nils, .int .i64 0, .nils, .nils, .int .i64 0, .int .i64 0, .nils, .nils, .nils, .int .i64 0, .int .i64 0, .int .i64 0, .nils, .nils])]) (.seq (.ops [qf 3 1 2, ql 4 1 3 1 false, .i (.call 6 60 false [(.s 4)]), qf 6 1 4, ql 7 1 6 1 false, .i (.call 9 60 false [(.s 7)]), qf 9 1 2, .i (.stl 1 (.s 9) (.s 5) 1), qf 10 1 4, .i (.stl 1 (.s 10) (.s 8) 1)]) (.seq (.ops [ql 11 1 1 5 true, .i (.bld 12 [.int .i64 0, .int .i64 0, .int .i64 0, .nils, .int .i64 0, .nils, .int .i64 0, .int .i64 0, .nils, .nils, .nils, .int .i64 0, .int .i64 0, .int .i64 0, .nils, .nils, .int .i64 0, .int .i64 0, .nils, .nils, .nils, .int .i64 0, .int .i64 0, .int .i64 0, .nils, .nils, .int .i64 0, .int .i64 0, .nils, .nils, .nils, .nils, .int .i64 0, .nils, .nils, .int .i64 0, .int .i64 0, .nils, .nils, .nils, .int .i64 0, .int .i64 0, .int .i64 0, .nils, .nils] [(0, 1, (qi 1)), (1, 5, (.s 11))]), .i (.stl 2 (.s 2) (.s 12) 45)]) .ret)))⟩
theorem k_impl_OfVote : cd n_impl_OfVote = some c_impl_OfVote := by kernel_rfl
theorem impl_OfVote_ok (x : Vote) (hw : x.wf) : VC cd n_impl_OfVote (mkP [(true, x.c)]) (fun rs _ => rs = ofVoteE x) := by
 have w1 := hw.2.2.1
 have w2 := hw.2.2.2.2
 simp only [Sz] at w1 w2
 refine VC_enter k_impl_OfVote rfl ?_
 simp (disch := omega) [c_impl_OfVote, Vote.c, VY]
 refine VXC_e (copyBytes_ok x.block (by omega)) (by first | rfl | (simp [argsD, argDs, argD, St.slc, lk_cons, lk] <;> repeat' constructor)) rfl ?_
 simp (disch := omega) [VY]
 refine VXC_e (copyBytes_ok x.tag (by omega)) (by first | rfl | (simp [argsD, argDs, argD, St.slc, lk_cons, lk] <;> repeat' constructor)) rfl ?_
 simp (disch := omega) [ofVoteE, VY]
abbrev n_spec_OfVote : Nat := 160
def c_spec_OfVote : AF := ⟨1, 4, [.cell 2 45 true], (.seq (.ops [.i (.lbox 1 (.s 0)), .i (.lal 2 [.int .i64 0, .int .i64 0, .int .i64 0, .nils, .int .i64 0, .nils, .int .i64 0, .int .i64 0, .nils, .nils, .nils, .int .i64 0, .int .i64 0, .int .i64 0, .nils, .nils, .int .i64 0, .int .i64 0, .nils, .nils, .nils, .int .i64 0, .int .i64 0, .int .i64 0, .nils, .nils, .int .i64 0, .int .i64 0, .nils, .nils, .nils, .nils, .int .i64 0, .nils, .nils, .int .i64 0, .int .i64 0, .nils, .nils, .nils, .int .i64 0, .int .i64 0, .int .i64 0, .nils, .nils])]) (.seq (.ops [qf 3 1 2, ql 4 1 3 1 false, .i (.call 6 115 false [(.s 4)]), qf 6 1 2, .i (.stl 1 (.s 6) (.s 5) 1)]) (.seq (.ops [qf 7 1 4, ql 8 1 7 1 false, .i (.call 10 115 false [(.s 8)]), qf 10 1 4, .i (.stl 1 (.s 10) (.s 9) 1)]) (.seq (.ops [ql 11 1 1 5 true, .i (.bld 12 [.int .i64 0, .int .i64 0, .int .i64 0, .nils, .int .i64 0, .nils, .int .i64 0, .int .i64 0, .nils, .nils, .nils, .int .i64 0, .int .i64 0, .int .i64 0, .nils, .nils, .int .i64 0, .int .i64 0, .nils, .nils, .nils, .int .i64 0, .int .i64 0, .int .i64 0, .nils, .nils, .int .i64 0, .int .i64 0, .nils, .nils, .nils, .nils, .int .i64 0, .nils, .nils, .int .i64 0, .int .i64 0, .nils, .nils, .nils, .int .i64 0, .int .i64 0, .int .i64 0, .nils, .nils] [(0, 1, (qi 1)), (1, 5, (.s 11))]), .i (.stl 2 (.s 2) (.s 12) 45)]) .ret))))⟩
theorem k_spec_OfVote : cd n_spec_OfVote = some c_spec_OfVote := by kernel_rfl
theorem spec_OfVote_ok (x : Vote) (hw : x.wf) : VC cd n_spec_OfVote (mkP [(true, x.c)]) (fun rs _ => rs = ofVoteE x) := by
 have w1 := hw.2.2.1
 have w2 := hw.2.2.2.2
 simp only [Sz] at w1 w2
 refine VC_enter k_spec_OfVote rfl ?_
 simp (disch := omega) [c_spec_OfVote, Vote.c, VY]
 refine VXC_e (l01Copy_ok x.block (by omega)) (by first | rfl | (simp [argsD, argDs, argD, St.slc, lk_cons, lk] <;> repeat' constructor)) rfl ?_
 simp (disch := omega) [VY]
 refine VXC_e (l01Copy_ok x.tag (by omega)) (by first | rfl | (simp [argsD, argDs, argD, St.slc, lk_cons, lk] <;> repeat' constructor)) rfl ?_
 simp (disch := omega) [ofVoteE, VY]
abbrev n_impl_OfQc : Nat := 189
def c_impl_OfQc : AF := ⟨1, 3, [.cell 2 45 true], (.seq (.ops [.i (.lbox 1 (.s 0)), .i (.lal 2 [.int .i64 0, .int .i64 0, .int .i64 0, .nils, .int .i64 0, .nils, .int .i64 0, .int .i64 0, .nils, .nils, .nils, .int .i64 0, .int .i64 0, .int .i64 0, .nils, .nils, .int .i64 0, .int .i64 0, .nils, .nils, .nils, .int .i64 0, .int .i64 0, .int .i64 0, .nils, .nils, .int .i64 0, .int .i64 0, .nils, .nils, .nils, .nils, .int .i64 0, .nils, .nils, .int .i64 0, .int .i64 0, .nils, .nils, .nils, .int .i64 0, .int .i64 0, .int .i64 0, .nils, .nils])]) (.seq (.ops [ql 3 1 1 5 true, .i (.call 5 133 false [(.s 3)]), .i (.bld 5 [.int .i64 0, .int .i64 0, .int .i64 0, .nils, .int .i64 0, .nils, .int .i64 0, .int .i64 0, .nils, .nils, .nils, .int .i64 0, .int .i64 0, .int .i64 0, .nils, .nils, .int .i64 0, .int .i64 0, .nils, .nils, .nils, .int .i64 0, .int .i64 0, .int .i64 0, .nils, .nils, .int .i64 0, .int .i64 0, .nils, .nils, .nils, .nils, .int .i64 0, .nils, .nils, .int .i64 0, .int .i64 0, .nils, .nils, .nils, .int .i64 0, .int .i64 0, .int .i64 0, .nils, .nils] [(0, 1, (qi 2)), (6, 5, (.s 4))]), .i (.stl 2 (.s 2) (.s 5) 45)]) .ret))⟩
theorem k_impl_OfQc : cd n_impl_OfQc = some c_impl_OfQc := by kernel_rfl
theorem impl_OfQc_ok (x : Qc) (hw : x.wc) : VC cd n_impl_OfQc (mkP [(true, x.c)]) (fun rs _ => rs = ofQcE x) := by
 refine VC_enter k_impl_OfQc rfl ?_
 simp (disch := omega) [c_impl_OfQc, Qc.c, VY]
 refine VXC_e (Qc_copied_ok x hw) (by first | rfl | (simp [Qc.c, argsD, argDs, argD, St.slc, lk_cons, lk] <;> repeat' constructor)) rfl ?_
 simp (disch := omega) [ofQcE, Qc.o, VY]
abbrev n_spec_OfQc : Nat := 161
def c_spec_OfQc : AF := ⟨1, 3, [.cell 2 45 true], (.seq (.ops [.i (.lbox 1 (.s 0)), .i (.lal 2 [.int .i64 0, .int .i64 0, .int .i64 0, .nils, .int .i64 0, .nils, .int .i64 0, .int .i64 0, .nils, .nils, .nils, .int .i64 0, .int .i64 0, .int .i64 0, .nils, .nils, .int .i64 0, .int .i64 0, .nils, .nils, .nils, .int .i64 0, .int .i64 0, .int .i64 0, .nils, .nils, .int .i64 0, .int .i64 0, .nils, .nils, .nils, .nils, .int .i64 0, .nils, .nils, .int .i64 0, .int .i64 0, .nils, .nils, .nils, .int .i64 0, .int .i64 0, .int .i64 0, .nils, .nils])]) (.seq (.ops [ql 3 1 1 5 true, .i (.call 5 145 false [(.s 3)]), .i (.bld 5 [.int .i64 0, .int .i64 0, .int .i64 0, .nils, .int .i64 0, .nils, .int .i64 0, .int .i64 0, .nils, .nils, .nils, .int .i64 0, .int .i64 0, .int .i64 0, .nils, .nils, .int .i64 0, .int .i64 0, .nils, .nils, .nils, .int .i64 0, .int .i64 0, .int .i64 0, .nils, .nils, .int .i64 0, .int .i64 0, .nils, .nils, .nils, .nils, .int .i64 0, .nils, .nils, .int .i64 0, .int .i64 0, .nils, .nils, .nils, .int .i64 0, .int .i64 0, .int .i64 0, .nils, .nils] [(0, 1, (qi 2)), (6, 5, (.s 4))]), .i (.stl 2 (.s 2) (.s 5) 45)]) .ret))⟩
theorem k_spec_OfQc : cd n_spec_OfQc = some c_spec_OfQc := by kernel_rfl
theorem spec_OfQc_ok (x : Qc) (hw : x.wc) : VC cd n_spec_OfQc (mkP [(true, x.c)]) (fun rs _ => rs = ofQcE x) := by
 refine VC_enter k_spec_OfQc rfl ?_
 simp (disch := omega) [c_spec_OfQc, Qc.c, VY]
 refine VXC_e (l12Copy_ok x hw) (by first | rfl | (simp [Qc.c, argsD, argDs, argD, St.slc, lk_cons, lk] <;> repeat' constructor)) rfl ?_
 simp (disch := omega) [ofQcE, Qc.o, VY]
abbrev n_impl_OfHead : Nat := 190
def c_impl_OfHead : AF := ⟨1, 3, [.cell 2 45 true], (.seq (.ops [.i (.lbox 1 (.s 0)), .i (.lal 2 [.int .i64 0, .int .i64 0, .int .i64 0, .nils, .int .i64 0, .nils, .int .i64 0, .int .i64 0, .nils, .nils, .nils, .int .i64 0, .int .i64 0, .int .i64 0, .nils, .nils, .int .i64 0, .int .i64 0, .nils, .nils, .nils, .int .i64 0, .int .i64 0, .int .i64 0, .nils, .nils, .int .i64 0, .int .i64 0, .nils, .nils, .nils, .nils, .int .i64 0, .nils, .nils, .int .i64 0, .int .i64 0, .nils, .nils, .nils, .int .i64 0, .int .i64 0, .int .i64 0, .nils, .nils])]) (.seq (.ops [ql 3 1 1 10 true, .i (.call 5 54 false [(.s 3)]), .i (.bld 5 [.int .i64 0, .int .i64 0, .int .i64 0, .nils, .int .i64 0, .nils, .int .i64 0, .int .i64 0, .nils, .nils, .nils, .int .i64 0, .int .i64 0, .int .i64 0, .nils, .nils, .int .i64 0, .int .i64 0, .nils, .nils, .nils, .int .i64 0, .int .i64 0, .int .i64 0, .nils, .nils, .int .i64 0, .int .i64 0, .nils, .nils, .nils, .nils, .int .i64 0, .nils, .nils, .int .i64 0, .int .i64 0, .nils, .nils, .nils, .int .i64 0, .int .i64 0, .int .i64 0, .nils, .nils] [(0, 1, (qi 3)), (11, 10, (.s 4))]), .i (.stl 2 (.s 2) (.s 5) 45)]) .ret))⟩
theorem k_impl_OfHead : cd n_impl_OfHead = some c_impl_OfHead := by kernel_rfl
theorem impl_OfHead_ok (x : Head) (hw : x.wc) : VC cd n_impl_OfHead (mkP [(true, x.c)]) (fun rs _ => rs = ofHeadE x) := by
 refine VC_enter k_impl_OfHead rfl ?_
 simp (disch := omega) [c_impl_OfHead, Head.c, VY]
 refine VXC_e (Head_copied_ok x hw) (by first | rfl | (simp [Head.c, argsD, argDs, argD, St.slc, lk_cons, lk] <;> repeat' constructor)) rfl ?_
 simp (disch := omega) [ofHeadE, Head.o, VY]
abbrev n_spec_OfHead : Nat := 162
def c_spec_OfHead : AF := ⟨1, 3, [.cell 2 45 true], (.seq (.ops [.i (.lbox 1 (.s 0)), .i (.lal 2 [.int .i64 0, .int .i64 0, .int .i64 0, .nils, .int .i64 0, .nils, .int .i64 0, .int .i64 0, .nils, .nils, .nils, .int .i64 0, .int .i64 0, .int .i64 0, .nils, .nils, .int .i64 0, .int .i64 0, .nils, .nils, .nils, .int .i64 0, .int .i64 0, .int .i64 0, .nils, .nils, .int .i64 0, .int .i64 0, .nils, .nils, .nils, .nils, .int .i64 0, .nils, .nils, .int .i64 0, .int .i64 0, .nils, .nils, .nils, .int .i64 0, .int .i64 0, .int .i64 0, .nils, .nils])]) (.seq (.ops [ql 3 1 1 10 true, .i (.call 5 68 false [(.s 3)]), .i (.bld 5 [.int .i64 0, .int .i64 0, .int .i64 0, .nils, .int .i64 0, .nils, .int .i64 0, .int .i64 0, .nils, .nils, .nils, .int .i64 0, .int .i64 0, .int .i64 0, .nils, .nils, .int .i64 0, .int .i64 0, .nils, .nils, .nils, .int .i64 0, .int .i64 0, .int .i64 0, .nils, .nils, .int .i64 0, .int .i64 0, .nils, .nils, .nils, .nils, .int .i64 0, .nils, .nils, .int .i64 0, .int .i64 0, .nils, .nils, .nils, .int .i64 0, .int .i64 0, .int .i64 0, .nils, .nils] [(0, 1, (qi 3)), (11, 10, (.s 4))]), .i (.stl 2 (.s 2) (.s 5) 45)]) .ret))⟩
theorem k_spec_OfHead : cd n_spec_OfHead = some c_spec_OfHead := by kernel_rfl
theorem spec_OfHead_ok (x : Head) (hw : x.wc) : VC cd n_spec_OfHead (mkP [(true, x.c)]) (fun rs _ => rs = ofHeadE x) := by
 refine VC_enter k_spec_OfHead rfl ?_
 simp (disch := omega) [c_spec_OfHead, Head.c, VY]
 refine VXC_e (l13Copy_ok x hw) (by first | rfl | (simp [Head.c, argsD, argDs, argD, St.slc, lk_cons, lk] <;> repeat' constructor)) rfl ?_
 simp (disch := omega) [ofHeadE, Head.o, VY]
abbrev n_impl_OfIncl : Nat := 194
def c_impl_OfIncl : AF := ⟨1, 3, [.cell 2 45 true], (.seq (.ops [.i (.lbox 1 (.s 0)), .i (.lal 2 [.int .i64 0, .int .i64 0, .int .i64 0, .nils, .int .i64 0, .nils, .int .i64 0, .int .i64 0, .nils, .nils, .nils, .int .i64 0, .int .i64 0, .int .i64 0, .nils, .nils, .int .i64 0, .int .i64 0, .nils, .nils, .nils, .int .i64 0, .int .i64 0, .int .i64 0, .nils, .nils, .int .i64 0, .int .i64 0, .nils, .nils, .nils, .nils, .int .i64 0, .nils, .nils, .int .i64 0, .int .i64 0, .nils, .nils, .nils, .int .i64 0, .int .i64 0, .int .i64 0, .nils, .nils])]) (.seq (.ops [ql 3 1 1 5 true, .i (.call 5 253 false [(.s 3)]), .i (.bld 5 [.int .i64 0, .int .i64 0, .int .i64 0, .nils, .int .i64 0, .nils, .int .i64 0, .int .i64 0, .nils, .nils, .nils, .int .i64 0, .int .i64 0, .int .i64 0, .nils, .nils, .int .i64 0, .int .i64 0, .nils, .nils, .nils, .int .i64 0, .int .i64 0, .int .i64 0, .nils, .nils, .int .i64 0, .int .i64 0, .nils, .nils, .nils, .nils, .int .i64 0, .nils, .nils, .int .i64 0, .int .i64 0, .nils, .nils, .nils, .int .i64 0, .int .i64 0, .int .i64 0, .nils, .nils] [(0, 1, (qi 7)), (40, 5, (.s 4))]), .i (.stl 2 (.s 2) (.s 5) 45)]) .ret))⟩
theorem k_impl_OfIncl : cd n_impl_OfIncl = some c_impl_OfIncl := by kernel_rfl
theorem impl_OfIncl_ok (x : Incl) (hw : x.wc) : VC cd n_impl_OfIncl (mkP [(true, x.c)]) (fun rs _ => rs = ofInclE x) := by
 refine VC_enter k_impl_OfIncl rfl ?_
 simp (disch := omega) [c_impl_OfIncl, Incl.c, VY]
 refine VXC_e (Incl_copied_ok x hw) (by first | rfl | (simp [Incl.c, argsD, argDs, argD, St.slc, lk_cons, lk] <;> repeat' constructor)) rfl ?_
 simp (disch := omega) [ofInclE, Incl.o, VY]
abbrev n_spec_OfIncl : Nat := 166
def c_spec_OfIncl : AF := ⟨1, 3, [.cell 2 45 true], (.seq (.ops [.i (.lbox 1 (.s 0)), .i (.lal 2 [.int .i64 0, .int .i64 0, .int .i64 0, .nils, .int .i64 0, .nils, .int .i64 0, .int .i64 0, .nils, .nils, .nils, .int .i64 0, .int .i64 0, .int .i64 0, .nils, .nils, .int .i64 0, .int .i64 0, .nils, .nils, .nils, .int .i64 0, .int .i64 0, .int .i64 0, .nils, .nils, .int .i64 0, .int .i64 0, .nils, .nils, .nils, .nils, .int .i64 0, .nils, .nils, .int .i64 0, .int .i64 0, .nils, .nils, .nils, .int .i64 0, .int .i64 0, .int .i64 0, .nils, .nils])]) (.seq (.ops [ql 3 1 1 5 true, .i (.call 5 231 false [(.s 3)]), .i (.bld 5 [.int .i64 0, .int .i64 0, .int .i64 0, .nils, .int .i64 0, .nils, .int .i64 0, .int .i64 0, .nils, .nils, .nils, .int .i64 0, .int .i64 0, .int .i64 0, .nils, .nils, .int .i64 0, .int .i64 0, .nils, .nils, .nils, .int .i64 0, .int .i64 0, .int .i64 0, .nils, .nils, .int .i64 0, .int .i64 0, .nils, .nils, .nils, .nils, .int .i64 0, .nils, .nils, .int .i64 0, .int .i64 0, .nils, .nils, .nils, .int .i64 0, .int .i64 0, .int .i64 0, .nils, .nils] [(0, 1, (qi 7)), (40, 5, (.s 4))]), .i (.stl 2 (.s 2) (.s 5) 45)]) .ret))⟩
theorem k_spec_OfIncl : cd n_spec_OfIncl = some c_spec_OfIncl := by kernel_rfl
theorem spec_OfIncl_ok (x : Incl) (hw : x.wc) : VC cd n_spec_OfIncl (mkP [(true, x.c)]) (fun rs _ => rs = ofInclE x) := by
 refine VC_enter k_spec_OfIncl rfl ?_
 simp (disch := omega) [c_spec_OfIncl, Incl.c, VY]
 refine VXC_e (l16Incl_ok x hw) (by first | rfl | (simp [Incl.c, argsD, argDs, argD, St.slc, lk_cons, lk] <;> repeat' constructor)) rfl ?_
 simp (disch := omega) [ofInclE, Incl.o, VY]
abbrev n_impl_Msg_alone : Nat := 99
def c_impl_Msg_alone : AF := ⟨1, 6, [.cell 2 45 true], (.seq (.ops [.i (.lbox 1 (.s 0)), .i (.lal 2 [.int .i64 0, .int .i64 0, .int .i64 0, .nils, .int .i64 0, .nils, .int .i64 0, .int .i64 0, .nils, .nils, .nils, .int .i64 0, .int .i64 0, .int .i64 0, .nils, .nils, .int .i64 0, .int .i64 0, .nils, .nils, .nils, .int .i64 0, .int .i64 0, .int .i64 0, .nils, .nils, .int .i64 0, .int .i64 0, .nils, .nils, .nils, .nils, .int .i64 0, .nils, .nils, .int .i64 0, .int .i64 0, .nils, .nils, .nils, .int .i64 0, .int .i64 0, .int .i64 0, .nils, .nils])]) (.seq (.seq (.ops [qf 3 1 0, ql 4 1 3 1 false]) (.block 0 (.seq (.ops [.i (.bin 6 .eql (.s 4) (qi 1)), qm 5 6]) (.cond (.s 5) (.seq (.ops [qf 7 1 1, ql 8 1 7 5 true, .i (.call 10 188 false [(.s 8)]), .i (.stl 2 (.s 2) (.s 9) 45)]) .ret) (.seq (.ops [.i (.bin 11 .eql (.s 4) (qi 2)), qm 10 11]) (.cond (.s 10) (.seq (.ops [qf 12 1 6, ql 13 1 12 5 true, .i (.call 15 189 false [(.s 13)]), .i (.stl 2 (.s 2) (.s 14) 45)]) .ret) (.seq (.ops [.i (.bin 16 .eql (.s 4) (qi 3)), qm 15 16]) (.cond (.s 15) (.seq (.ops [qf 17 1 11, ql 18 1 17 10 true, .i (.call 20 190 false [(.s 18)]), .i (.stl 2 (.s 2) (.s 19) 45)]) .ret) (.seq (.ops [.i (.bin 21 .eql (.s 4) (qi 4)), qm 20 21]) (.cond (.s 20) (.seq (.ops [qf 22 1 21, ql 23 1 22 11 true, .i (.call 25 191 false [(.s 23)]), .i (.stl 2 (.s 2) (.s 24) 45)]) .ret) (.seq (.ops [.i (.bin 26 .eql (.s 4) (qi 5)), qm 25 26]) (.cond (.s 25) (.seq (.ops [qf 27 1 32, ql 28 1 27 2 true, .i (.call 30 192 false [(.s 28)]), .i (.stl 2 (.s 2) (.s 29) 45)]) .ret) (.seq (.ops [.i (.bin 31 .eql (.s 4) (qi 6)), qm 30 31]) (.cond (.s 30) (.seq (.ops [qf 32 1 34, ql 33 1 32 6 true, .i (.call 35 193 false [(.s 33)]), .i (.stl 2 (.s 2) (.s 34) 45)]) .ret) (.seq (.ops [.i (.bin 36 .eql (.s 4) (qi 7)), qm 35 36]) (.cond (.s 35) (.seq (.ops [qf 37 1 40, ql 38 1 37 5 true, .i (.call 40 194 false [(.s 38)]), .i (.stl 2 (.s 2) (.s 39) 45)]) .ret) .skip)))))))))))))))) (.seq (.ops [.i (.bld 40 [.int .i64 0, .int .i64 0, .int .i64 0, .nils, .int .i64 0, .nils, .int .i64 0, .int .i64 0, .nils, .nils, .nils, .int .i64 0, .int .i64 0, .int .i64 0, .nils, .nils, .int .i64 0, .int .i64 0, .nils, .nils, .nils, .int .i64 0, .int .i64 0, .int .i64 0, .nils, .nils, .int .i64 0, .int .i64 0, .nils, .nils, .nils, .nils, .int .i64 0, .nils, .nils, .int .i64 0, .int .i64 0, .nils, .nils, .nils, .int .i64 0, .int .i64 0, .int .i64 0, .nils, .nils] []), .i (.stl 2 (.s 2) (.s 40) 45)]) .ret)))⟩
theorem k_impl_Msg_alone : cd n_impl_Msg_alone = some c_impl_Msg_alone := by kernel_rfl
theorem impl_alone_1 (m : Msg) (hw : m.wc) (hk : m.kind = 1) : VC cd n_impl_Msg_alone (mkP [(true, m.c)]) (fun rs _ => rs = ofVoteE m.vote) := by
 refine VC_enter k_impl_Msg_alone rfl ?_
 simp (disch := omega) [c_impl_Msg_alone, Msg.c, hk, VY]
 refine VXC_e (impl_OfVote_ok m.vote hw.vote) (by first | rfl | (simp [Vote.c, argsD, argDs, argD, St.slc, lk_cons, lk] <;> repeat' constructor)) rfl ?_
 simp (disch := omega) [ofVoteE, VY]
abbrev n_spec_l17Only : Nat := 88
def c_spec_l17Only : AF := ⟨1, 6, [.cell 2 45 true], (.seq (.ops [.i (.lbox 1 (.s 0)), .i (.lal 2 [.int .i64 0, .int .i64 0, .int .i64 0, .nils, .int .i64 0, .nils, .int .i64 0, .int .i64 0, .nils, .nils, .nils, .int .i64 0, .int .i64 0, .int .i64 0, .nils, .nils, .int .i64 0, .int .i64 0, .nils, .nils, .nils, .int .i64 0, .int .i64 0, .int .i64 0, .nils, .nils, .int .i64 0, .int .i64 0, .nils, .nils, .nils, .nils, .int .i64 0, .nils, .nils, .int .i64 0, .int .i64 0, .nils, .nils, .nils, .int .i64 0, .int .i64 0, .int .i64 0, .nils, .nils])]) (.seq (.seq (.ops [qf 3 1 0, ql 4 1 3 1 false]) (.block 0 (.seq (.ops [.i (.bin 6 .eql (.s 4) (qi 1)), qm 5 6]) (.cond (.s 5) (.seq (.ops [qf 7 1 1, ql 8 1 7 5 true, .i (.call 10 160 false [(.s 8)]), .i (.stl 2 (.s 2) (.s 9) 45)]) .ret) (.seq (.ops [.i (.bin 11 .eql (.s 4) (qi 2)), qm 10 11]) (.cond (.s 10) (.seq (.ops [qf 12 1 6, ql 13 1 12 5 true, .i (.call 15 161 false [(.s 13)]), .i (.stl 2 (.s 2) (.s 14) 45)]) .ret) (.seq (.ops [.i (.bin 16 .eql (.s 4) (qi 3)), qm 15 16]) (.cond (.s 15) (.seq (.ops [qf 17 1 11, ql 18 1 17 10 true, .i (.call 20 162 false [(.s 18)]), .i (.stl 2 (.s 2) (.s 19) 45)]) .ret) (.seq (.ops [.i (.bin 21 .eql (.s 4) (qi 4)), qm 20 21]) (.cond (.s 20) (.seq (.ops [qf 22 1 21, ql 23 1 22 11 true, .i (.call 25 163 false [(.s 23)]), .i (.stl 2 (.s 2) (.s 24) 45)]) .ret) (.seq (.ops [.i (.bin 26 .eql (.s 4) (qi 5)), qm 25 26]) (.cond (.s 25) (.seq (.ops [qf 27 1 32, ql 28 1 27 2 true, .i (.call 30 164 false [(.s 28)]), .i (.stl 2 (.s 2) (.s 29) 45)]) .ret) (.seq (.ops [.i (.bin 31 .eql (.s 4) (qi 6)), qm 30 31]) (.cond (.s 30) (.seq (.ops [qf 32 1 34, ql 33 1 32 6 true, .i (.call 35 165 false [(.s 33)]), .i (.stl 2 (.s 2) (.s 34) 45)]) .ret) (.seq (.ops [.i (.bin 36 .eql (.s 4) (qi 7)), qm 35 36]) (.cond (.s 35) (.seq (.ops [qf 37 1 40, ql 38 1 37 5 true, .i (.call 40 166 false [(.s 38)]), .i (.stl 2 (.s 2) (.s 39) 45)]) .ret) .skip)))))))))))))))) (.seq (.ops [.i (.bld 40 [.int .i64 0, .int .i64 0, .int .i64 0, .nils, .int .i64 0, .nils, .int .i64 0, .int .i64 0, .nils, .nils, .nils, .int .i64 0, .int .i64 0, .int .i64 0, .nils, .nils, .int .i64 0, .int .i64 0, .nils, .nils, .nils, .int .i64 0, .int .i64 0, .int .i64 0, .nils, .nils, .int .i64 0, .int .i64 0, .nils, .nils, .nils, .nils, .int .i64 0, .nils, .nils, .int .i64 0, .int .i64 0, .nils, .nils, .nils, .int .i64 0, .int .i64 0, .int .i64 0, .nils, .nils] []), .i (.stl 2 (.s 2) (.s 40) 45)]) .ret)))⟩
theorem k_spec_l17Only : cd n_spec_l17Only = some c_spec_l17Only := by kernel_rfl
theorem spec_alone_1 (m : Msg) (hw : m.wc) (hk : m.kind = 1) : VC cd n_spec_l17Only (mkP [(true, m.c)]) (fun rs _ => rs = ofVoteE m.vote) := by
 refine VC_enter k_spec_l17Only rfl ?_
 simp (disch := omega) [c_spec_l17Only, Msg.c, hk, VY]
 refine VXC_e (spec_OfVote_ok m.vote hw.vote) (by first | rfl | (simp [Vote.c, argsD, argDs, argD, St.slc, lk_cons, lk] <;> repeat' constructor)) rfl ?_
 simp (disch := omega) [ofVoteE, VY]
theorem impl_alone_2 (m : Msg) (hw : m.wc) (hk : m.kind = 2) : VC cd n_impl_Msg_alone (mkP [(true, m.c)]) (fun rs _ => rs = ofQcE m.qc) := by
 refine VC_enter k_impl_Msg_alone rfl ?_
 simp (disch := omega) [c_impl_Msg_alone, Msg.c, hk, VY]
 refine VXC_e (impl_OfQc_ok m.qc hw.qc) (by first | rfl | (simp [Qc.c, argsD, argDs, argD, St.slc, lk_cons, lk] <;> repeat' constructor)) rfl ?_
 simp (disch := omega) [ofQcE, VY]
theorem spec_alone_2 (m : Msg) (hw : m.wc) (hk : m.kind = 2) : VC cd n_spec_l17Only (mkP [(true, m.c)]) (fun rs _ => rs = ofQcE m.qc) := by
 refine VC_enter k_spec_l17Only rfl ?_
 simp (disch := omega) [c_spec_l17Only, Msg.c, hk, VY]
 refine VXC_e (spec_OfQc_ok m.qc hw.qc) (by first | rfl | (simp [Qc.c, argsD, argDs, argD, St.slc, lk_cons, lk] <;> repeat' constructor)) rfl ?_
 simp (disch := omega) [ofQcE, VY]
theorem impl_alone_3 (m : Msg) (hw : m.wc) (hk : m.kind = 3) : VC cd n_impl_Msg_alone (mkP [(true, m.c)]) (fun rs _ => rs = ofHeadE m.head) := by
 refine VC_enter k_impl_Msg_alone rfl ?_
 simp (disch := omega) [c_impl_Msg_alone, Msg.c, hk, VY]
 refine VXC_e (impl_OfHead_ok m.head hw.head) (by first | rfl | (simp [Head.c, argsD, argDs, argD, St.slc, lk_cons, lk] <;> repeat' constructor)) rfl ?_
 simp (disch := omega) [ofHeadE, VY]
theorem spec_alone_3 (m : Msg) (hw : m.wc) (hk : m.kind = 3) : VC cd n_spec_l17Only (mkP [(true, m.c)]) (fun rs _ => rs = ofHeadE m.head) := by
 refine VC_enter k_spec_l17Only rfl ?_
 simp (disch := omega) [c_spec_l17Only, Msg.c, hk, VY]
 refine VXC_e (spec_OfHead_ok m.head hw.head) (by first | rfl | (simp [Head.c, argsD, argDs, argD, St.slc, lk_cons, lk] <;> repeat' constructor)) rfl ?_
 simp (disch := omega) [ofHeadE, VY]
theorem impl_alone_4 (m : Msg) (hw : m.wc) (hk : m.kind = 4) : VC cd n_impl_Msg_alone (mkP [(true, m.c)]) (fun rs _ => rs = ofBlockE m.block) := by
 refine VC_enter k_impl_Msg_alone rfl ?_
 simp (disch := omega) [c_impl_Msg_alone, Msg.c, hk, VY]
 refine VXC_e (impl_OfBlock_ok m.block hw.block.1) (by first | rfl | (simp [Block.c, Head.c, argsD, argDs, argD, St.slc, lk_cons, lk] <;> repeat' constructor)) rfl ?_
 simp (disch := omega) [ofBlockE, VY]
theorem spec_alone_4 (m : Msg) (hw : m.wc) (hk : m.kind = 4) : VC cd n_spec_l17Only (mkP [(true, m.c)]) (fun rs _ => rs = ofBlockE m.block) := by
 refine VC_enter k_spec_l17Only rfl ?_
 simp (disch := omega) [c_spec_l17Only, Msg.c, hk, VY]
 refine VXC_e (spec_OfBlock_ok m.block hw.block.1) (by first | rfl | (simp [Block.c, Head.c, argsD, argDs, argD, St.slc, lk_cons, lk] <;> repeat' constructor)) rfl ?_
 simp (disch := omega) [ofBlockE, VY]
theorem impl_alone_5 (m : Msg) (hw : m.wc) (hk : m.kind = 5) : VC cd n_impl_Msg_alone (mkP [(true, m.c)]) (fun rs _ => rs = ofTcE m.tc) := by
 refine VC_enter k_impl_Msg_alone rfl ?_
 simp (disch := omega) [c_impl_Msg_alone, Msg.c, hk, VY]
 refine VXC_e (impl_OfTc_ok m.tc hw.tc) (by first | rfl | (simp [Tc.c, argsD, argDs, argD, St.slc, lk_cons, lk] <;> repeat' constructor)) rfl ?_
 simp (disch := omega) [ofTcE, VY]
theorem spec_alone_5 (m : Msg) (hw : m.wc) (hk : m.kind = 5) : VC cd n_spec_l17Only (mkP [(true, m.c)]) (fun rs _ => rs = ofTcE m.tc) := by
 refine VC_enter k_spec_l17Only rfl ?_
 simp (disch := omega) [c_spec_l17Only, Msg.c, hk, VY]
 refine VXC_e (spec_OfTc_ok m.tc hw.tc) (by first | rfl | (simp [Tc.c, argsD, argDs, argD, St.slc, lk_cons, lk] <;> repeat' constructor)) rfl ?_
 simp (disch := omega) [ofTcE, VY]
theorem impl_alone_6 (m : Msg) (hw : m.wc) (hk : m.kind = 6) : VC cd n_impl_Msg_alone (mkP [(true, m.c)]) (fun rs _ => rs = ofProofE m.proof) := by
 refine VC_enter k_impl_Msg_alone rfl ?_
 simp (disch := omega) [c_impl_Msg_alone, Msg.c, hk, VY]
 refine VXC_e (impl_OfProof_ok m.proof hw.proof) (by first | rfl | (simp [Proof.c, argsD, argDs, argD, St.slc, lk_cons, lk] <;> repeat' constructor)) rfl ?_
 simp (disch := omega) [ofProofE, VY]
theorem spec_alone_6 (m : Msg) (hw : m.wc) (hk : m.kind = 6) : VC cd n_spec_l17Only (mkP [(true, m.c)]) (fun rs _ => rs = ofProofE m.proof) := by
 refine VC_enter k_spec_l17Only rfl ?_
 simp (disch := omega) [c_spec_l17Only, Msg.c, hk, VY]
 refine VXC_e (spec_OfProof_ok m.proof hw.proof) (by first | rfl | (simp [Proof.c, argsD, argDs, argD, St.slc, lk_cons, lk] <;> repeat' constructor)) rfl ?_
 simp (disch := omega) [ofProofE, VY]
theorem impl_alone_7 (m : Msg) (hw : m.wc) (hk : m.kind = 7) : VC cd n_impl_Msg_alone (mkP [(true, m.c)]) (fun rs _ => rs = ofInclE m.incl) := by
 refine VC_enter k_impl_Msg_alone rfl ?_
 simp (disch := omega) [c_impl_Msg_alone, Msg.c, hk, VY]
 refine VXC_e (impl_OfIncl_ok m.incl hw.incl) (by first | rfl | (simp [Incl.c, argsD, argDs, argD, St.slc, lk_cons, lk] <;> repeat' constructor)) rfl ?_
 simp (disch := omega) [ofInclE, VY]
theorem spec_alone_7 (m : Msg) (hw : m.wc) (hk : m.kind = 7) : VC cd n_spec_l17Only (mkP [(true, m.c)]) (fun rs _ => rs = ofInclE m.incl) := by
 refine VC_enter k_spec_l17Only rfl ?_
 simp (disch := omega) [c_spec_l17Only, Msg.c, hk, VY]
 refine VXC_e (spec_OfIncl_ok m.incl hw.incl) (by first | rfl | (simp [Incl.c, argsD, argDs, argD, St.slc, lk_cons, lk] <;> repeat' constructor)) rfl ?_
 simp (disch := omega) [ofInclE, VY]
def onlyM (m : Msg) : Msg := if m.kind = 1 then { zMsg with kind := 1, vote := m.vote } else if m.kind = 2 then { zMsg with kind := 2, qc := m.qc } else if m.kind = 3 then { zMsg with kind := 3, head := m.head } else if m.kind = 4 then { zMsg with kind := 4, block := m.block } else if m.kind = 5 then { zMsg with kind := 5, tc := m.tc } else if m.kind = 6 then { zMsg with kind := 6, proof := m.proof } else if m.kind = 7 then { zMsg with kind := 7, incl := m.incl } else zMsg
def partOk (l : Lim) (m : Msg) : Bool := if m.kind = 1 then vtOk l m.vote else if m.kind = 2 then qcOk l m.qc else if m.kind = 3 then headOk l m.head else if m.kind = 4 then blockOk l m.block else if m.kind = 5 then tcOk l m.tc else if m.kind = 6 then proofOk l m.proof else if m.kind = 7 then inclOk l m.incl else false
def partB (m : Msg) : Bytes := if m.kind = 1 then vtB m.vote else if m.kind = 2 then qcB m.qc else if m.kind = 3 then headB m.head else if m.kind = 4 then blockB m.block else if m.kind = 5 then tcB m.tc else if m.kind = 6 then proofB m.proof else inclB m.incl
theorem partOk_kind {l : Lim} {m : Msg} (h : partOk l m = true) : m.kind = 1 ∨ m.kind = 2 ∨ m.kind = 3 ∨ m.kind = 4 ∨ m.kind = 5 ∨ m.kind = 6 ∨ m.kind = 7 := by
 unfold partOk at h
 repeat' split at h
 all_goals first | (simp at h; done) | omega
def msgOk (l : Lim) (m : Msg) : Bool := partOk l m && msgSame m (onlyM m)
abbrev n_impl_Msg_put : Nat := 97
def c_impl_Msg_put : AF := ⟨3, 7, [.tmp 6, .tmp 7], (.seq (.ops [.i (.lbox 3 (.s 0)), .i (.lbox 4 (.s 1)), .i (.mov 6 (.c (.val false [.nils]))), .i (.mov 7 (qb false))]) (.seq (.seq (.ops [qf 8 3 0, ql 9 3 8 1 false]) (.block 0 (.seq (.ops [.i (.bin 11 .eql (.s 9) (qi 1)), qm 10 11]) (.cond (.s 10) (.seq (.ops [ql 12 4 4 5 true, qm 13 2, qf 14 3 1, ql 15 3 14 5 true, .i (.call 17 177 false [(.s 12), (.s 13), (.s 15)]), .i (.ext 17 (.s 16) 0), .i (.ext 18 (.s 16) 1), qm 6 17, qm 7 18]) .ret) (.seq (.ops [.i (.bin 20 .eql (.s 9) (qi 2)), qm 19 20]) (.cond (.s 19) (.seq (.ops [ql 21 4 4 5 true, qm 22 2, qf 23 3 6, ql 24 3 23 5 true, .i (.call 26 178 false [(.s 21), (.s 22), (.s 24)]), .i (.ext 26 (.s 25) 0), .i (.ext 27 (.s 25) 1), qm 6 26, qm 7 27]) .ret) (.seq (.ops [.i (.bin 29 .eql (.s 9) (qi 3)), qm 28 29]) (.cond (.s 28) (.seq (.ops [ql 30 4 4 5 true, qm 31 2, qf 32 3 11, ql 33 3 32 10 true, .i (.call 35 129 false [(.s 30), (.s 31), (.s 33)]), .i (.ext 35 (.s 34) 0), .i (.ext 36 (.s 34) 1), qm 6 35, qm 7 36]) .ret) (.seq (.ops [.i (.bin 38 .eql (.s 9) (qi 4)), qm 37 38]) (.cond (.s 37) (.seq (.ops [ql 39 4 4 5 true, qm 40 2, qf 41 3 21, ql 42 3 41 11 true, .i (.call 44 179 false [(.s 39), (.s 40), (.s 42)]), .i (.ext 44 (.s 43) 0), .i (.ext 45 (.s 43) 1), qm 6 44, qm 7 45]) .ret) (.seq (.ops [.i (.bin 47 .eql (.s 9) (qi 5)), qm 46 47]) (.cond (.s 46) (.seq (.ops [ql 48 4 4 5 true, qm 49 2, qf 50 3 32, ql 51 3 50 2 true, .i (.call 53 180 false [(.s 48), (.s 49), (.s 51)]), .i (.ext 53 (.s 52) 0), .i (.ext 54 (.s 52) 1), qm 6 53, qm 7 54]) .ret) (.seq (.ops [.i (.bin 56 .eql (.s 9) (qi 6)), qm 55 56]) (.cond (.s 55) (.seq (.ops [ql 57 4 4 5 true, qm 58 2, qf 59 3 34, ql 60 3 59 6 true, .i (.call 62 181 false [(.s 57), (.s 58), (.s 60)]), .i (.ext 62 (.s 61) 0), .i (.ext 63 (.s 61) 1), qm 6 62, qm 7 63]) .ret) (.seq (.ops [.i (.bin 65 .eql (.s 9) (qi 7)), qm 64 65]) (.cond (.s 64) (.seq (.ops [ql 66 4 4 5 true, qm 67 2, qf 68 3 40, ql 69 3 68 5 true, .i (.call 71 182 false [(.s 66), (.s 67), (.s 69)]), .i (.ext 71 (.s 70) 0), .i (.ext 72 (.s 70) 1), qm 6 71, qm 7 72]) .ret) .skip)))))))))))))))) (.seq (.ops [.i (.mov 6 (.c (.val false [.nils]))), .i (.mov 7 (qb false))]) .ret)))⟩
theorem k_impl_Msg_put : cd n_impl_Msg_put = some c_impl_Msg_put := by kernel_rfl
theorem impl_put_ok (l : Lim) (b : Bytes) (m : Msg) (hw : m.wc) (hb : b.length ≤ 800000000) : VC cd n_impl_Msg_put (mkP [(true, m.c), (true, l.c), (false, [.sl (bytes b)])]) (fun rs _ => rs = putE (partOk l m) (b ++ partB m)) := by
 refine VC_enter k_impl_Msg_put rfl ?_
 simp (disch := omega) [c_impl_Msg_put, Msg.c, Lim.c, VY]
 refine VXB_dec (fun g1 => ?_) (fun g1 => ?_)
 ·have e1 : partOk l m = vtOk l m.vote := by simp [partOk, g1]
  have e2 : partB m = vtB m.vote := by simp [partB, g1]
  rw [e1, e2]
  simp (disch := omega) [g1, VY]
  cases hp : vtOk l m.vote
  ·refine VXC_e ((impl_PutVote_ok l b m.vote (by omega)).re (putE_f hp)) (by first | rfl | (simp [Lim.c, Vote.c, argsD, argDs, argD, St.slc, lk_cons, lk] <;> repeat' constructor)) rfl ?_
   simp (disch := omega) [putE, g1, VY]
  ·refine VXC_e ((impl_PutVote_ok l b m.vote (by omega)).re (putE_t hp)) (by first | rfl | (simp [Lim.c, Vote.c, argsD, argDs, argD, St.slc, lk_cons, lk] <;> repeat' constructor)) rfl ?_
   simp (disch := omega) [putE, g1, VY]
 simp (disch := omega) [g1, VY]
 refine VXB_dec (fun g2 => ?_) (fun g2 => ?_)
 ·have e1 : partOk l m = qcOk l m.qc := by simp [partOk, g2]
  have e2 : partB m = qcB m.qc := by simp [partB, g2]
  rw [e1, e2]
  simp (disch := omega) [g2, VY]
  cases hp : qcOk l m.qc
  ·refine VXC_e ((impl_PutQc_ok l b m.qc hw.qc.1 (by omega)).re (putE_f hp)) (by first | rfl | (simp [Lim.c, Qc.c, argsD, argDs, argD, St.slc, lk_cons, lk] <;> repeat' constructor)) rfl ?_
   simp (disch := omega) [putE, g2, VY]
  ·refine VXC_e ((impl_PutQc_ok l b m.qc hw.qc.1 (by omega)).re (putE_t hp)) (by first | rfl | (simp [Lim.c, Qc.c, argsD, argDs, argD, St.slc, lk_cons, lk] <;> repeat' constructor)) rfl ?_
   simp (disch := omega) [putE, g2, VY]
 simp (disch := omega) [g2, VY]
 refine VXB_dec (fun g3 => ?_) (fun g3 => ?_)
 ·have e1 : partOk l m = headOk l m.head := by simp [partOk, g3]
  have e2 : partB m = headB m.head := by simp [partB, g3]
  rw [e1, e2]
  simp (disch := omega) [g3, VY]
  cases hp : headOk l m.head
  ·refine VXC_e ((impl_PutHead_ok l b m.head hw.head.1 (by omega)).re (putE_f hp)) (by first | rfl | (simp [Lim.c, Head.c, argsD, argDs, argD, St.slc, lk_cons, lk] <;> repeat' constructor)) rfl ?_
   simp (disch := omega) [putE, g3, VY]
  ·refine VXC_e ((impl_PutHead_ok l b m.head hw.head.1 (by omega)).re (putE_t hp)) (by first | rfl | (simp [Lim.c, Head.c, argsD, argDs, argD, St.slc, lk_cons, lk] <;> repeat' constructor)) rfl ?_
   simp (disch := omega) [putE, g3, VY]
 simp (disch := omega) [g3, VY]
 refine VXB_dec (fun g4 => ?_) (fun g4 => ?_)
 ·have e1 : partOk l m = blockOk l m.block := by simp [partOk, g4]
  have e2 : partB m = blockB m.block := by simp [partB, g4]
  rw [e1, e2]
  simp (disch := omega) [g4, VY]
  cases hp : blockOk l m.block
  ·refine VXC_e ((impl_PutBlock_ok l b m.block hw.block (by omega)).re (putE_f hp)) (by first | rfl | (simp [Lim.c, Block.c, Head.c, argsD, argDs, argD, St.slc, lk_cons, lk] <;> repeat' constructor)) rfl ?_
   simp (disch := omega) [putE, g4, VY]
  ·refine VXC_e ((impl_PutBlock_ok l b m.block hw.block (by omega)).re (putE_t hp)) (by first | rfl | (simp [Lim.c, Block.c, Head.c, argsD, argDs, argD, St.slc, lk_cons, lk] <;> repeat' constructor)) rfl ?_
   simp (disch := omega) [putE, g4, VY]
 simp (disch := omega) [g4, VY]
 refine VXB_dec (fun g5 => ?_) (fun g5 => ?_)
 ·have e1 : partOk l m = tcOk l m.tc := by simp [partOk, g5]
  have e2 : partB m = tcB m.tc := by simp [partB, g5]
  rw [e1, e2]
  simp (disch := omega) [g5, VY]
  cases hp : tcOk l m.tc
  ·refine VXC_e ((impl_PutTc_ok l b m.tc hw.tc (by omega)).re (putE_f hp)) (by first | rfl | (simp [Lim.c, Tc.c, argsD, argDs, argD, St.slc, lk_cons, lk] <;> repeat' constructor)) rfl ?_
   simp (disch := omega) [putE, g5, VY]
  ·refine VXC_e ((impl_PutTc_ok l b m.tc hw.tc (by omega)).re (putE_t hp)) (by first | rfl | (simp [Lim.c, Tc.c, argsD, argDs, argD, St.slc, lk_cons, lk] <;> repeat' constructor)) rfl ?_
   simp (disch := omega) [putE, g5, VY]
 simp (disch := omega) [g5, VY]
 refine VXB_dec (fun g6 => ?_) (fun g6 => ?_)
 ·have e1 : partOk l m = proofOk l m.proof := by simp [partOk, g6]
  have e2 : partB m = proofB m.proof := by simp [partB, g6]
  rw [e1, e2]
  simp (disch := omega) [g6, VY]
  cases hp : proofOk l m.proof
  ·refine VXC_e ((impl_PutProof_ok l b m.proof hw.proof (by omega)).re (putE_f hp)) (by first | rfl | (simp [Lim.c, Proof.c, argsD, argDs, argD, St.slc, lk_cons, lk] <;> repeat' constructor)) rfl ?_
   simp (disch := omega) [putE, g6, VY]
  ·refine VXC_e ((impl_PutProof_ok l b m.proof hw.proof (by omega)).re (putE_t hp)) (by first | rfl | (simp [Lim.c, Proof.c, argsD, argDs, argD, St.slc, lk_cons, lk] <;> repeat' constructor)) rfl ?_
   simp (disch := omega) [putE, g6, VY]
 simp (disch := omega) [g6, VY]
 refine VXB_dec (fun g7 => ?_) (fun g7 => ?_)
 ·have e1 : partOk l m = inclOk l m.incl := by simp [partOk, g7]
  have e2 : partB m = inclB m.incl := by simp [partB, g7]
  rw [e1, e2]
  simp (disch := omega) [g7, VY]
  cases hp : inclOk l m.incl
  ·refine VXC_e ((impl_PutIncl_ok l b m.incl hw.incl hw.tx (by omega)).re (putE_f hp)) (by first | rfl | (simp [Lim.c, Incl.c, argsD, argDs, argD, St.slc, lk_cons, lk] <;> repeat' constructor)) rfl ?_
   simp (disch := omega) [putE, g7, VY]
  ·refine VXC_e ((impl_PutIncl_ok l b m.incl hw.incl hw.tx (by omega)).re (putE_t hp)) (by first | rfl | (simp [Lim.c, Incl.c, argsD, argDs, argD, St.slc, lk_cons, lk] <;> repeat' constructor)) rfl ?_
   simp (disch := omega) [putE, g7, VY]
 have e1 : partOk l m = false := by simp [partOk, g1, g2, g3, g4, g5, g6, g7]
 rw [e1]
 simp (disch := omega) [putE, g1, g2, g3, g4, g5, g6, g7, VY]
abbrev n_spec_l17Put : Nat := 89
def c_spec_l17Put : AF := ⟨3, 7, [.tmp 6, .tmp 7], (.seq (.ops [.i (.lbox 3 (.s 0)), .i (.lbox 5 (.s 2)), .i (.mov 6 (.c (.val false [.nils]))), .i (.mov 7 (qb false))]) (.seq (.seq (.ops [qf 8 5 0, ql 9 5 8 1 false]) (.block 0 (.seq (.ops [.i (.bin 11 .eql (.s 9) (qi 1)), qm 10 11]) (.cond (.s 10) (.seq (.ops [ql 12 3 3 5 true, qm 13 1, qf 14 5 1, ql 15 5 14 5 true, .i (.call 17 167 false [(.s 12), (.s 13), (.s 15)]), .i (.ext 17 (.s 16) 0), .i (.ext 18 (.s 16) 1), qm 6 17, qm 7 18]) .ret) (.seq (.ops [.i (.bin 20 .eql (.s 9) (qi 2)), qm 19 20]) (.cond (.s 19) (.seq (.ops [ql 21 3 3 5 true, qm 22 1, qf 23 5 6, ql 24 5 23 5 true, .i (.call 26 168 false [(.s 21), (.s 22), (.s 24)]), .i (.ext 26 (.s 25) 0), .i (.ext 27 (.s 25) 1), qm 6 26, qm 7 27]) .ret) (.seq (.ops [.i (.bin 29 .eql (.s 9) (qi 3)), qm 28 29]) (.cond (.s 28) (.seq (.ops [ql 30 3 3 5 true, qm 31 1, qf 32 5 11, ql 33 5 32 10 true, .i (.call 35 169 false [(.s 30), (.s 31), (.s 33)]), .i (.ext 35 (.s 34) 0), .i (.ext 36 (.s 34) 1), qm 6 35, qm 7 36]) .ret) (.seq (.ops [.i (.bin 38 .eql (.s 9) (qi 4)), qm 37 38]) (.cond (.s 37) (.seq (.ops [ql 39 3 3 5 true, qm 40 1, qf 41 5 21, ql 42 5 41 11 true, .i (.call 44 170 false [(.s 39), (.s 40), (.s 42)]), .i (.ext 44 (.s 43) 0), .i (.ext 45 (.s 43) 1), qm 6 44, qm 7 45]) .ret) (.seq (.ops [.i (.bin 47 .eql (.s 9) (qi 5)), qm 46 47]) (.cond (.s 46) (.seq (.ops [ql 48 3 3 5 true, qm 49 1, qf 50 5 32, ql 51 5 50 2 true, .i (.call 53 171 false [(.s 48), (.s 49), (.s 51)]), .i (.ext 53 (.s 52) 0), .i (.ext 54 (.s 52) 1), qm 6 53, qm 7 54]) .ret) (.seq (.ops [.i (.bin 56 .eql (.s 9) (qi 6)), qm 55 56]) (.cond (.s 55) (.seq (.ops [ql 57 3 3 5 true, qm 58 1, qf 59 5 34, ql 60 5 59 6 true, .i (.call 62 172 false [(.s 57), (.s 58), (.s 60)]), .i (.ext 62 (.s 61) 0), .i (.ext 63 (.s 61) 1), qm 6 62, qm 7 63]) .ret) .skip)))))))))))))) (.seq (.ops [ql 64 3 3 5 true, qm 65 1, qf 66 5 40, ql 67 5 66 5 true, .i (.call 69 173 false [(.s 64), (.s 65), (.s 67)]), .i (.ext 69 (.s 68) 0), .i (.ext 70 (.s 68) 1), qm 6 69, qm 7 70]) .ret)))⟩
theorem k_spec_l17Put : cd n_spec_l17Put = some c_spec_l17Put := by kernel_rfl
theorem spec_put_ok (l : Lim) (b : Bytes) (m : Msg) (hw : m.wc) (hk : inn m.kind 1 7 = true) (hb : b.length ≤ 800000000) : VC cd n_spec_l17Put (mkP [(true, l.c), (false, [.sl (bytes b)]), (true, m.c)]) (fun rs _ => rs = putE (partOk l m) (b ++ partB m)) := by
 have hk2 := inn_of hk
 refine VC_enter k_spec_l17Put rfl ?_
 simp (disch := omega) [c_spec_l17Put, Msg.c, Lim.c, VY]
 refine VXB_dec (fun g1 => ?_) (fun g1 => ?_)
 ·have e1 : partOk l m = vtOk l m.vote := by simp [partOk, g1]
  have e2 : partB m = vtB m.vote := by simp [partB, g1]
  rw [e1, e2]
  simp (disch := omega) [g1, VY]
  cases hp : vtOk l m.vote
  ·refine VXC_e ((spec_PutVote_ok l b m.vote (by omega)).re (putE_f hp)) (by first | rfl | (simp [Lim.c, Vote.c, argsD, argDs, argD, St.slc, lk_cons, lk] <;> repeat' constructor)) rfl ?_
   simp (disch := omega) [putE, g1, VY]
  ·refine VXC_e ((spec_PutVote_ok l b m.vote (by omega)).re (putE_t hp)) (by first | rfl | (simp [Lim.c, Vote.c, argsD, argDs, argD, St.slc, lk_cons, lk] <;> repeat' constructor)) rfl ?_
   simp (disch := omega) [putE, g1, VY]
 simp (disch := omega) [g1, VY]
 refine VXB_dec (fun g2 => ?_) (fun g2 => ?_)
 ·have e1 : partOk l m = qcOk l m.qc := by simp [partOk, g2]
  have e2 : partB m = qcB m.qc := by simp [partB, g2]
  rw [e1, e2]
  simp (disch := omega) [g2, VY]
  cases hp : qcOk l m.qc
  ·refine VXC_e ((spec_PutQc_ok l b m.qc hw.qc.1 (by omega)).re (putE_f hp)) (by first | rfl | (simp [Lim.c, Qc.c, argsD, argDs, argD, St.slc, lk_cons, lk] <;> repeat' constructor)) rfl ?_
   simp (disch := omega) [putE, g2, VY]
  ·refine VXC_e ((spec_PutQc_ok l b m.qc hw.qc.1 (by omega)).re (putE_t hp)) (by first | rfl | (simp [Lim.c, Qc.c, argsD, argDs, argD, St.slc, lk_cons, lk] <;> repeat' constructor)) rfl ?_
   simp (disch := omega) [putE, g2, VY]
 simp (disch := omega) [g2, VY]
 refine VXB_dec (fun g3 => ?_) (fun g3 => ?_)
 ·have e1 : partOk l m = headOk l m.head := by simp [partOk, g3]
  have e2 : partB m = headB m.head := by simp [partB, g3]
  rw [e1, e2]
  simp (disch := omega) [g3, VY]
  cases hp : headOk l m.head
  ·refine VXC_e ((spec_PutHead_ok l b m.head hw.head.1 (by omega)).re (putE_f hp)) (by first | rfl | (simp [Lim.c, Head.c, argsD, argDs, argD, St.slc, lk_cons, lk] <;> repeat' constructor)) rfl ?_
   simp (disch := omega) [putE, g3, VY]
  ·refine VXC_e ((spec_PutHead_ok l b m.head hw.head.1 (by omega)).re (putE_t hp)) (by first | rfl | (simp [Lim.c, Head.c, argsD, argDs, argD, St.slc, lk_cons, lk] <;> repeat' constructor)) rfl ?_
   simp (disch := omega) [putE, g3, VY]
 simp (disch := omega) [g3, VY]
 refine VXB_dec (fun g4 => ?_) (fun g4 => ?_)
 ·have e1 : partOk l m = blockOk l m.block := by simp [partOk, g4]
  have e2 : partB m = blockB m.block := by simp [partB, g4]
  rw [e1, e2]
  simp (disch := omega) [g4, VY]
  cases hp : blockOk l m.block
  ·refine VXC_e ((spec_PutBlock_ok l b m.block hw.block (by omega)).re (putE_f hp)) (by first | rfl | (simp [Lim.c, Block.c, Head.c, argsD, argDs, argD, St.slc, lk_cons, lk] <;> repeat' constructor)) rfl ?_
   simp (disch := omega) [putE, g4, VY]
  ·refine VXC_e ((spec_PutBlock_ok l b m.block hw.block (by omega)).re (putE_t hp)) (by first | rfl | (simp [Lim.c, Block.c, Head.c, argsD, argDs, argD, St.slc, lk_cons, lk] <;> repeat' constructor)) rfl ?_
   simp (disch := omega) [putE, g4, VY]
 simp (disch := omega) [g4, VY]
 refine VXB_dec (fun g5 => ?_) (fun g5 => ?_)
 ·have e1 : partOk l m = tcOk l m.tc := by simp [partOk, g5]
  have e2 : partB m = tcB m.tc := by simp [partB, g5]
  rw [e1, e2]
  simp (disch := omega) [g5, VY]
  cases hp : tcOk l m.tc
  ·refine VXC_e ((spec_PutTc_ok l b m.tc hw.tc (by omega)).re (putE_f hp)) (by first | rfl | (simp [Lim.c, Tc.c, argsD, argDs, argD, St.slc, lk_cons, lk] <;> repeat' constructor)) rfl ?_
   simp (disch := omega) [putE, g5, VY]
  ·refine VXC_e ((spec_PutTc_ok l b m.tc hw.tc (by omega)).re (putE_t hp)) (by first | rfl | (simp [Lim.c, Tc.c, argsD, argDs, argD, St.slc, lk_cons, lk] <;> repeat' constructor)) rfl ?_
   simp (disch := omega) [putE, g5, VY]
 simp (disch := omega) [g5, VY]
 refine VXB_dec (fun g6 => ?_) (fun g6 => ?_)
 ·have e1 : partOk l m = proofOk l m.proof := by simp [partOk, g6]
  have e2 : partB m = proofB m.proof := by simp [partB, g6]
  rw [e1, e2]
  simp (disch := omega) [g6, VY]
  cases hp : proofOk l m.proof
  ·refine VXC_e ((spec_PutProof_ok l b m.proof hw.proof (by omega)).re (putE_f hp)) (by first | rfl | (simp [Lim.c, Proof.c, argsD, argDs, argD, St.slc, lk_cons, lk] <;> repeat' constructor)) rfl ?_
   simp (disch := omega) [putE, g6, VY]
  ·refine VXC_e ((spec_PutProof_ok l b m.proof hw.proof (by omega)).re (putE_t hp)) (by first | rfl | (simp [Lim.c, Proof.c, argsD, argDs, argD, St.slc, lk_cons, lk] <;> repeat' constructor)) rfl ?_
   simp (disch := omega) [putE, g6, VY]
 simp (disch := omega) [g6, VY]
 have g7 : m.kind = 7 := by omega
 have e1 : partOk l m = inclOk l m.incl := by simp [partOk, g7]
 have e2 : partB m = inclB m.incl := by simp [partB, g7]
 rw [e1, e2]
 cases hp : inclOk l m.incl
 ·refine VXC_e ((spec_PutIncl_ok l b m.incl hw.incl hw.tx (by omega)).re (putE_f hp)) (by first | rfl | (simp [Lim.c, Incl.c, argsD, argDs, argD, St.slc, lk_cons, lk] <;> repeat' constructor)) rfl ?_
  simp (disch := omega) [putE, g7, VY]
 ·refine VXC_e ((spec_PutIncl_ok l b m.incl hw.incl hw.tx (by omega)).re (putE_t hp)) (by first | rfl | (simp [Lim.c, Incl.c, argsD, argDs, argD, St.slc, lk_cons, lk] <;> repeat' constructor)) rfl ?_
  simp (disch := omega) [putE, g7, VY]
theorem onlyM_1 {m : Msg} (h : m.kind = 1) : onlyM m = { zMsg with kind := 1, vote := m.vote } := by simp [onlyM, h]
theorem onlyM_2 {m : Msg} (h : m.kind = 2) : onlyM m = { zMsg with kind := 2, qc := m.qc } := by simp [onlyM, h]
theorem onlyM_3 {m : Msg} (h : m.kind = 3) : onlyM m = { zMsg with kind := 3, head := m.head } := by simp [onlyM, h]
theorem onlyM_4 {m : Msg} (h : m.kind = 4) : onlyM m = { zMsg with kind := 4, block := m.block } := by simp [onlyM, h]
theorem onlyM_5 {m : Msg} (h : m.kind = 5) : onlyM m = { zMsg with kind := 5, tc := m.tc } := by simp [onlyM, h]
theorem onlyM_6 {m : Msg} (h : m.kind = 6) : onlyM m = { zMsg with kind := 6, proof := m.proof } := by simp [onlyM, h]
theorem onlyM_7 {m : Msg} (h : m.kind = 7) : onlyM m = { zMsg with kind := 7, incl := m.incl } := by simp [onlyM, h]
theorem onlyM_wc {m : Msg} (hw : m.wc) : (onlyM m).wc := by
 unfold onlyM
 repeat' split
 ·exact { zMsg_wc with kind := by simp only [I64]; omega, vote := hw.vote }
 ·exact { zMsg_wc with kind := by simp only [I64]; omega, qc := hw.qc }
 ·exact { zMsg_wc with kind := by simp only [I64]; omega, head := hw.head }
 ·exact { zMsg_wc with kind := by simp only [I64]; omega, block := hw.block }
 ·exact { zMsg_wc with kind := by simp only [I64]; omega, tc := hw.tc }
 ·exact { zMsg_wc with kind := by simp only [I64]; omega, proof := hw.proof }
 ·exact { zMsg_wc with kind := by simp only [I64]; omega, incl := hw.incl, tx := hw.tx }
 ·exact zMsg_wc
abbrev n_impl_MsgOk : Nat := 33
def c_impl_MsgOk : AF := ⟨2, 5, [.tmp 4], (.seq (.ops [.i (.lbox 2 (.s 0)), .i (.lbox 3 (.s 1)), .i (.mov 4 (qb false))]) (.seq (.ops [ql 8 3 3 45 true, ql 9 2 2 5 true, .i (.call 11 97 false [(.s 8), (.s 9), (.c (.val false [.nils]))]), qm 7 10, .i (.ext 11 (.s 7) 0), .i (.ext 12 (.s 7) 1), qm 5 11, qm 6 12]) (.seq (.ops [qm 13 6, qm 14 13, .g 14 true 16 (.ldl 15 3 (.s 3) 45 true), .g 14 true 17 (.ldl 16 3 (.s 3) 45 true), .g 14 true 18 (.call 18 99 false [(.s 16)]), .g 14 true 19 (.call 19 98 false [(.s 15), (.s 17)]), .i (.pick 19 (.s 14) (.s 18) (qb false)), qm 4 19]) .ret)))⟩
theorem k_impl_MsgOk : cd n_impl_MsgOk = some c_impl_MsgOk := by kernel_rfl
theorem impl_MsgOk_ok (l : Lim) (m : Msg) (hw : m.wc) : VC cd n_impl_MsgOk (mkP [(true, l.c), (true, m.c)]) (fun rs _ => rs = bl (msgOk l m)) := by
 have hx := onlyM_wc hw
 refine VC_enter k_impl_MsgOk rfl ?_
 simp (disch := omega) [c_impl_MsgOk, Msg.c, Lim.c, VY]
 cases hp : partOk l m with
 | false =>
  refine VXC_e ((impl_put_ok l [] m hw (by simp)).re (putE_f hp)) (by first | rfl | (simp [Msg.c, Lim.c, bytes_nil, argsD, argDs, argD, St.slc, lk_cons, lk] <;> repeat' constructor)) rfl ?_
  simp (disch := omega) [msgOk, hp, VY]
 | true =>
  have e0 : ([] : Bytes) ++ partB m = partB m := rfl
  refine VXC_e ((impl_put_ok l [] m hw (by simp)).re (putE_t hp)) (by first | rfl | (simp [Msg.c, Lim.c, bytes_nil, argsD, argDs, argD, St.slc, lk_cons, lk] <;> repeat' constructor)) rfl ?_
  simp (disch := omega) [VY]
  rcases partOk_kind hp with hk | hk | hk | hk | hk | hk | hk
  ·refine VXC_e (impl_alone_1 m hw hk) (by first | rfl | (simp [Msg.c, argsD, argDs, argD, St.slc, lk_cons, lk] <;> repeat' constructor)) rfl ?_
   simp (disch := omega) [ofVoteE, VY]
   refine VXC_e (impl_MsgSame_ok m (onlyM m) hw hx) (by first | rfl | (simp [Msg.c, onlyM_1 hk, zMsg, zVote, zQc, zHead, zBlock, zTc, zProof, zIncl, bytes_nil, show bss [] = [] from rfl, show hds [] = [] from rfl, show ens [] = [] from rfl, argsD, argDs, argD, St.slc, lk_cons, lk] <;> repeat' constructor)) rfl ?_
   simp (disch := omega) [msgOk, hp, VY]
  ·refine VXC_e (impl_alone_2 m hw hk) (by first | rfl | (simp [Msg.c, argsD, argDs, argD, St.slc, lk_cons, lk] <;> repeat' constructor)) rfl ?_
   simp (disch := omega) [ofQcE, VY]
   refine VXC_e (impl_MsgSame_ok m (onlyM m) hw hx) (by first | rfl | (simp [Msg.c, onlyM_2 hk, zMsg, zVote, zQc, zHead, zBlock, zTc, zProof, zIncl, bytes_nil, show bss [] = [] from rfl, show hds [] = [] from rfl, show ens [] = [] from rfl, argsD, argDs, argD, St.slc, lk_cons, lk] <;> repeat' constructor)) rfl ?_
   simp (disch := omega) [msgOk, hp, VY]
  ·refine VXC_e (impl_alone_3 m hw hk) (by first | rfl | (simp [Msg.c, argsD, argDs, argD, St.slc, lk_cons, lk] <;> repeat' constructor)) rfl ?_
   simp (disch := omega) [ofHeadE, VY]
   refine VXC_e (impl_MsgSame_ok m (onlyM m) hw hx) (by first | rfl | (simp [Msg.c, onlyM_3 hk, zMsg, zVote, zQc, zHead, zBlock, zTc, zProof, zIncl, bytes_nil, show bss [] = [] from rfl, show hds [] = [] from rfl, show ens [] = [] from rfl, argsD, argDs, argD, St.slc, lk_cons, lk] <;> repeat' constructor)) rfl ?_
   simp (disch := omega) [msgOk, hp, VY]
  ·refine VXC_e (impl_alone_4 m hw hk) (by first | rfl | (simp [Msg.c, argsD, argDs, argD, St.slc, lk_cons, lk] <;> repeat' constructor)) rfl ?_
   simp (disch := omega) [ofBlockE, VY]
   refine VXC_e (impl_MsgSame_ok m (onlyM m) hw hx) (by first | rfl | (simp [Msg.c, onlyM_4 hk, zMsg, zVote, zQc, zHead, zBlock, zTc, zProof, zIncl, bytes_nil, show bss [] = [] from rfl, show hds [] = [] from rfl, show ens [] = [] from rfl, argsD, argDs, argD, St.slc, lk_cons, lk] <;> repeat' constructor)) rfl ?_
   simp (disch := omega) [msgOk, hp, VY]
  ·refine VXC_e (impl_alone_5 m hw hk) (by first | rfl | (simp [Msg.c, argsD, argDs, argD, St.slc, lk_cons, lk] <;> repeat' constructor)) rfl ?_
   simp (disch := omega) [ofTcE, VY]
   refine VXC_e (impl_MsgSame_ok m (onlyM m) hw hx) (by first | rfl | (simp [Msg.c, onlyM_5 hk, zMsg, zVote, zQc, zHead, zBlock, zTc, zProof, zIncl, bytes_nil, show bss [] = [] from rfl, show hds [] = [] from rfl, show ens [] = [] from rfl, argsD, argDs, argD, St.slc, lk_cons, lk] <;> repeat' constructor)) rfl ?_
   simp (disch := omega) [msgOk, hp, VY]
  ·refine VXC_e (impl_alone_6 m hw hk) (by first | rfl | (simp [Msg.c, argsD, argDs, argD, St.slc, lk_cons, lk] <;> repeat' constructor)) rfl ?_
   simp (disch := omega) [ofProofE, VY]
   refine VXC_e (impl_MsgSame_ok m (onlyM m) hw hx) (by first | rfl | (simp [Msg.c, onlyM_6 hk, zMsg, zVote, zQc, zHead, zBlock, zTc, zProof, zIncl, bytes_nil, show bss [] = [] from rfl, show hds [] = [] from rfl, show ens [] = [] from rfl, argsD, argDs, argD, St.slc, lk_cons, lk] <;> repeat' constructor)) rfl ?_
   simp (disch := omega) [msgOk, hp, VY]
  ·refine VXC_e (impl_alone_7 m hw hk) (by first | rfl | (simp [Msg.c, argsD, argDs, argD, St.slc, lk_cons, lk] <;> repeat' constructor)) rfl ?_
   simp (disch := omega) [ofInclE, VY]
   refine VXC_e (impl_MsgSame_ok m (onlyM m) hw hx) (by first | rfl | (simp [Msg.c, onlyM_7 hk, zMsg, zVote, zQc, zHead, zBlock, zTc, zProof, zIncl, bytes_nil, show bss [] = [] from rfl, show hds [] = [] from rfl, show ens [] = [] from rfl, argsD, argDs, argD, St.slc, lk_cons, lk] <;> repeat' constructor)) rfl ?_
   simp (disch := omega) [msgOk, hp, VY]
abbrev n_spec_l17Kind : Nat := 86
def c_spec_l17Kind : AF := ⟨1, 3, [.tmp 2], (.seq (.ops [.i (.mov 2 (qb false))]) (.seq (.ops [qm 3 0, .i (.call 5 152 false [(.s 3), (qi 1), (qi 7)]), qm 2 4]) .ret))⟩
theorem k_spec_l17Kind : cd n_spec_l17Kind = some c_spec_l17Kind := by kernel_rfl
theorem l17Kind_ok (k : Int) : VC cd n_spec_l17Kind (mkP [(false, [.int .i64 k])]) (fun rs _ => rs = bl (inn k 1 7)) := by
 refine VC_enter k_spec_l17Kind rfl ?_
 simp (disch := omega) [c_spec_l17Kind, VY]
 refine VXC_e (l01In_ok k 1 7) (by first | rfl | (simp [argsD, argDs, argD, St.slc, lk_cons, lk] <;> repeat' constructor)) rfl ?_
 simp (disch := omega) [VY]
abbrev n_spec_MsgOk : Nat := 30
def c_spec_MsgOk : AF := ⟨2, 5, [.tmp 4], (.seq (.ops [.i (.lbox 2 (.s 0)), .i (.lbox 3 (.s 1)), .i (.mov 4 (qb false))]) (.seq (.seq (.ops [qf 7 3 0, ql 8 3 7 1 false, .i (.call 10 86 false [(.s 8)]), .i (.not 10 (.s 9)), qm 11 10, .g 11 false 13 (.ldl 12 3 (.s 3) 45 true), .g 11 false 14 (.ldl 13 3 (.s 3) 45 true), .g 11 false 15 (.call 15 88 false [(.s 13)]), .g 11 false 16 (.call 16 87 false [(.s 12), (.s 14)]), .g 11 false 17 (.not 16 (.s 15)), .i (.pick 17 (.s 11) (qb true) (.s 16))]) (.cond (.s 17) (.seq (.ops [.i (.mov 4 (qb false))]) .ret) .skip)) (.seq (.ops [ql 19 2 2 5 true, ql 20 3 3 45 true, .i (.call 22 89 false [(.s 19), (.c (.val false [.nils])), (.s 20)]), qm 18 21, .i (.ext 22 (.s 18) 0), .i (.ext 23 (.s 18) 1), qm 5 22, qm 6 23]) (.seq (.ops [qm 24 6, qm 4 24]) .ret))))⟩
theorem k_spec_MsgOk : cd n_spec_MsgOk = some c_spec_MsgOk := by kernel_rfl
theorem spec_MsgOk_ok (l : Lim) (m : Msg) (hw : m.wc) : VC cd n_spec_MsgOk (mkP [(true, l.c), (true, m.c)]) (fun rs _ => rs = bl (msgOk l m)) := by
 have hx := onlyM_wc hw
 refine VC_enter k_spec_MsgOk rfl ?_
 simp (disch := omega) [c_spec_MsgOk, Msg.c, Lim.c, VY]
 refine VXC_e (l17Kind_ok m.kind) (by first | rfl | (simp [argsD, argDs, argD, St.slc, lk_cons, lk] <;> repeat' constructor)) rfl ?_
 simp (disch := omega) [VY]
 refine VXB_b (fun h1 => ?_) (fun h1 => ?_)
 case refine_2 =>
  have e1 : partOk l m = false := by
   cases hp : partOk l m with
   | false => rfl
   | true => rcases partOk_kind hp with hk | hk | hk | hk | hk | hk | hk <;> (rw [hk] at h1; cases h1)
  simp (disch := omega) [h1, msgOk, e1, VY]
 simp (disch := omega) [h1, VY]
 have hk2 := inn_of h1
 have hk3 : m.kind = 1 ∨ m.kind = 2 ∨ m.kind = 3 ∨ m.kind = 4 ∨ m.kind = 5 ∨ m.kind = 6 ∨ m.kind = 7 := by omega
 rcases hk3 with hk | hk | hk | hk | hk | hk | hk
 ·refine VXC_e (spec_alone_1 m hw hk) (by first | rfl | (simp [Msg.c, argsD, argDs, argD, St.slc, lk_cons, lk] <;> repeat' constructor)) rfl ?_
  simp (disch := omega) [ofVoteE, h1, VY]
  refine VXC_e (spec_MsgSame_ok m (onlyM m) hw hx) (by first | rfl | (simp [Msg.c, onlyM_1 hk, zMsg, zVote, zQc, zHead, zBlock, zTc, zProof, zIncl, bytes_nil, show bss [] = [] from rfl, show hds [] = [] from rfl, show ens [] = [] from rfl, argsD, argDs, argD, St.slc, lk_cons, lk] <;> repeat' constructor)) rfl ?_
  simp (disch := omega) [h1, VY]
  refine VXB_b (fun h2 => ?_) (fun h2 => ?_)
  case refine_2 => simp (disch := omega) [h1, h2, msgOk, VY]
  simp (disch := omega) [h1, h2, VY]
  cases hp : partOk l m
  ·refine VXC_e ((spec_put_ok l [] m hw h1 (by simp)).re (putE_f hp)) (by first | rfl | (simp [Msg.c, Lim.c, bytes_nil, argsD, argDs, argD, St.slc, lk_cons, lk] <;> repeat' constructor)) rfl ?_
   simp (disch := omega) [msgOk, hp, h2, VY]
  ·refine VXC_e ((spec_put_ok l [] m hw h1 (by simp)).re (putE_t hp)) (by first | rfl | (simp [Msg.c, Lim.c, bytes_nil, argsD, argDs, argD, St.slc, lk_cons, lk] <;> repeat' constructor)) rfl ?_
   simp (disch := omega) [msgOk, hp, h2, VY]
 ·refine VXC_e (spec_alone_2 m hw hk) (by first | rfl | (simp [Msg.c, argsD, argDs, argD, St.slc, lk_cons, lk] <;> repeat' constructor)) rfl ?_
  simp (disch := omega) [ofQcE, h1, VY]
  refine VXC_e (spec_MsgSame_ok m (onlyM m) hw hx) (by first | rfl | (simp [Msg.c, onlyM_2 hk, zMsg, zVote, zQc, zHead, zBlock, zTc, zProof, zIncl, bytes_nil, show bss [] = [] from rfl, show hds [] = [] from rfl, show ens [] = [] from rfl, argsD, argDs, argD, St.slc, lk_cons, lk] <;> repeat' constructor)) rfl ?_
  simp (disch := omega) [h1, VY]
  refine VXB_b (fun h2 => ?_) (fun h2 => ?_)
  case refine_2 => simp (disch := omega) [h1, h2, msgOk, VY]
  simp (disch := omega) [h1, h2, VY]
  cases hp : partOk l m
  ·refine VXC_e ((spec_put_ok l [] m hw h1 (by simp)).re (putE_f hp)) (by first | rfl | (simp [Msg.c, Lim.c, bytes_nil, argsD, argDs, argD, St.slc, lk_cons, lk] <;> repeat' constructor)) rfl ?_
   simp (disch := omega) [msgOk, hp, h2, VY]
  ·refine VXC_e ((spec_put_ok l [] m hw h1 (by simp)).re (putE_t hp)) (by first | rfl | (simp [Msg.c, Lim.c, bytes_nil, argsD, argDs, argD, St.slc, lk_cons, lk] <;> repeat' constructor)) rfl ?_
   simp (disch := omega) [msgOk, hp, h2, VY]
 ·refine VXC_e (spec_alone_3 m hw hk) (by first | rfl | (simp [Msg.c, argsD, argDs, argD, St.slc, lk_cons, lk] <;> repeat' constructor)) rfl ?_
  simp (disch := omega) [ofHeadE, h1, VY]
  refine VXC_e (spec_MsgSame_ok m (onlyM m) hw hx) (by first | rfl | (simp [Msg.c, onlyM_3 hk, zMsg, zVote, zQc, zHead, zBlock, zTc, zProof, zIncl, bytes_nil, show bss [] = [] from rfl, show hds [] = [] from rfl, show ens [] = [] from rfl, argsD, argDs, argD, St.slc, lk_cons, lk] <;> repeat' constructor)) rfl ?_
  simp (disch := omega) [h1, VY]
  refine VXB_b (fun h2 => ?_) (fun h2 => ?_)
  case refine_2 => simp (disch := omega) [h1, h2, msgOk, VY]
  simp (disch := omega) [h1, h2, VY]
  cases hp : partOk l m
  ·refine VXC_e ((spec_put_ok l [] m hw h1 (by simp)).re (putE_f hp)) (by first | rfl | (simp [Msg.c, Lim.c, bytes_nil, argsD, argDs, argD, St.slc, lk_cons, lk] <;> repeat' constructor)) rfl ?_
   simp (disch := omega) [msgOk, hp, h2, VY]
  ·refine VXC_e ((spec_put_ok l [] m hw h1 (by simp)).re (putE_t hp)) (by first | rfl | (simp [Msg.c, Lim.c, bytes_nil, argsD, argDs, argD, St.slc, lk_cons, lk] <;> repeat' constructor)) rfl ?_
   simp (disch := omega) [msgOk, hp, h2, VY]
 ·refine VXC_e (spec_alone_4 m hw hk) (by first | rfl | (simp [Msg.c, argsD, argDs, argD, St.slc, lk_cons, lk] <;> repeat' constructor)) rfl ?_
  simp (disch := omega) [ofBlockE, h1, VY]
  refine VXC_e (spec_MsgSame_ok m (onlyM m) hw hx) (by first | rfl | (simp [Msg.c, onlyM_4 hk, zMsg, zVote, zQc, zHead, zBlock, zTc, zProof, zIncl, bytes_nil, show bss [] = [] from rfl, show hds [] = [] from rfl, show ens [] = [] from rfl, argsD, argDs, argD, St.slc, lk_cons, lk] <;> repeat' constructor)) rfl ?_
  simp (disch := omega) [h1, VY]
  refine VXB_b (fun h2 => ?_) (fun h2 => ?_)
  case refine_2 => simp (disch := omega) [h1, h2, msgOk, VY]
  simp (disch := omega) [h1, h2, VY]
  cases hp : partOk l m
  ·refine VXC_e ((spec_put_ok l [] m hw h1 (by simp)).re (putE_f hp)) (by first | rfl | (simp [Msg.c, Lim.c, bytes_nil, argsD, argDs, argD, St.slc, lk_cons, lk] <;> repeat' constructor)) rfl ?_
   simp (disch := omega) [msgOk, hp, h2, VY]
  ·refine VXC_e ((spec_put_ok l [] m hw h1 (by simp)).re (putE_t hp)) (by first | rfl | (simp [Msg.c, Lim.c, bytes_nil, argsD, argDs, argD, St.slc, lk_cons, lk] <;> repeat' constructor)) rfl ?_
   simp (disch := omega) [msgOk, hp, h2, VY]
 ·refine VXC_e (spec_alone_5 m hw hk) (by first | rfl | (simp [Msg.c, argsD, argDs, argD, St.slc, lk_cons, lk] <;> repeat' constructor)) rfl ?_
  simp (disch := omega) [ofTcE, h1, VY]
  refine VXC_e (spec_MsgSame_ok m (onlyM m) hw hx) (by first | rfl | (simp [Msg.c, onlyM_5 hk, zMsg, zVote, zQc, zHead, zBlock, zTc, zProof, zIncl, bytes_nil, show bss [] = [] from rfl, show hds [] = [] from rfl, show ens [] = [] from rfl, argsD, argDs, argD, St.slc, lk_cons, lk] <;> repeat' constructor)) rfl ?_
  simp (disch := omega) [h1, VY]
  refine VXB_b (fun h2 => ?_) (fun h2 => ?_)
  case refine_2 => simp (disch := omega) [h1, h2, msgOk, VY]
  simp (disch := omega) [h1, h2, VY]
  cases hp : partOk l m
  ·refine VXC_e ((spec_put_ok l [] m hw h1 (by simp)).re (putE_f hp)) (by first | rfl | (simp [Msg.c, Lim.c, bytes_nil, argsD, argDs, argD, St.slc, lk_cons, lk] <;> repeat' constructor)) rfl ?_
   simp (disch := omega) [msgOk, hp, h2, VY]
  ·refine VXC_e ((spec_put_ok l [] m hw h1 (by simp)).re (putE_t hp)) (by first | rfl | (simp [Msg.c, Lim.c, bytes_nil, argsD, argDs, argD, St.slc, lk_cons, lk] <;> repeat' constructor)) rfl ?_
   simp (disch := omega) [msgOk, hp, h2, VY]
 ·refine VXC_e (spec_alone_6 m hw hk) (by first | rfl | (simp [Msg.c, argsD, argDs, argD, St.slc, lk_cons, lk] <;> repeat' constructor)) rfl ?_
  simp (disch := omega) [ofProofE, h1, VY]
  refine VXC_e (spec_MsgSame_ok m (onlyM m) hw hx) (by first | rfl | (simp [Msg.c, onlyM_6 hk, zMsg, zVote, zQc, zHead, zBlock, zTc, zProof, zIncl, bytes_nil, show bss [] = [] from rfl, show hds [] = [] from rfl, show ens [] = [] from rfl, argsD, argDs, argD, St.slc, lk_cons, lk] <;> repeat' constructor)) rfl ?_
  simp (disch := omega) [h1, VY]
  refine VXB_b (fun h2 => ?_) (fun h2 => ?_)
  case refine_2 => simp (disch := omega) [h1, h2, msgOk, VY]
  simp (disch := omega) [h1, h2, VY]
  cases hp : partOk l m
  ·refine VXC_e ((spec_put_ok l [] m hw h1 (by simp)).re (putE_f hp)) (by first | rfl | (simp [Msg.c, Lim.c, bytes_nil, argsD, argDs, argD, St.slc, lk_cons, lk] <;> repeat' constructor)) rfl ?_
   simp (disch := omega) [msgOk, hp, h2, VY]
  ·refine VXC_e ((spec_put_ok l [] m hw h1 (by simp)).re (putE_t hp)) (by first | rfl | (simp [Msg.c, Lim.c, bytes_nil, argsD, argDs, argD, St.slc, lk_cons, lk] <;> repeat' constructor)) rfl ?_
   simp (disch := omega) [msgOk, hp, h2, VY]
 ·refine VXC_e (spec_alone_7 m hw hk) (by first | rfl | (simp [Msg.c, argsD, argDs, argD, St.slc, lk_cons, lk] <;> repeat' constructor)) rfl ?_
  simp (disch := omega) [ofInclE, h1, VY]
  refine VXC_e (spec_MsgSame_ok m (onlyM m) hw hx) (by first | rfl | (simp [Msg.c, onlyM_7 hk, zMsg, zVote, zQc, zHead, zBlock, zTc, zProof, zIncl, bytes_nil, show bss [] = [] from rfl, show hds [] = [] from rfl, show ens [] = [] from rfl, argsD, argDs, argD, St.slc, lk_cons, lk] <;> repeat' constructor)) rfl ?_
  simp (disch := omega) [h1, VY]
  refine VXB_b (fun h2 => ?_) (fun h2 => ?_)
  case refine_2 => simp (disch := omega) [h1, h2, msgOk, VY]
  simp (disch := omega) [h1, h2, VY]
  cases hp : partOk l m
  ·refine VXC_e ((spec_put_ok l [] m hw h1 (by simp)).re (putE_f hp)) (by first | rfl | (simp [Msg.c, Lim.c, bytes_nil, argsD, argDs, argD, St.slc, lk_cons, lk] <;> repeat' constructor)) rfl ?_
   simp (disch := omega) [msgOk, hp, h2, VY]
  ·refine VXC_e ((spec_put_ok l [] m hw h1 (by simp)).re (putE_t hp)) (by first | rfl | (simp [Msg.c, Lim.c, bytes_nil, argsD, argDs, argD, St.slc, lk_cons, lk] <;> repeat' constructor)) rfl ?_
   simp (disch := omega) [msgOk, hp, h2, VY]
end Go.Eng.F
namespace Go.Eng.F
open Go.Eng.U (TQc THead TLimits TVote TBlock TTc TProof TIncl TMsg)
def Vote.tv (x : Vote) : Tv := .r [.i x.view, .i x.height, bsT x.block, .i x.who, bsT x.tag]
theorem Vote.enc (x : Vote) : enc TVote x.tv = x.c := by simp only [Vote.tv, enc_st, encS_cons, encS_nil, enc_int, enc_bool, enc_str, enc_bs, enc_bss', enc_ints, Vote.c, List.cons_append, List.nil_append, List.append_assoc]
theorem Vote.ex {v : Tv} (h : TvOk TVote v) : ∃ x : Vote, v = x.tv := by
 obtain ⟨vs, rfl, h⟩ := h.st
 obtain ⟨v0, _, rfl, h0, h⟩ := h.step
 obtain ⟨v1, _, rfl, h1, h⟩ := h.step
 obtain ⟨v2, _, rfl, h2, h⟩ := h.step
 obtain ⟨v3, _, rfl, h3, h⟩ := h.step
 obtain ⟨v4, _, rfl, h4, h⟩ := h.step
 obtain rfl := h.fin
 obtain ⟨n0, rfl, _⟩ := h0.int
 obtain ⟨n1, rfl, _⟩ := h1.int
 obtain ⟨n2, rfl⟩ := bsT_ex h2
 obtain ⟨n3, rfl, _⟩ := h3.int
 obtain ⟨n4, rfl⟩ := bsT_ex h4
 exact ⟨⟨n0, n1, n2, n3, n4⟩, rfl⟩
theorem Vote.of {x : Vote} (h : TvOk TVote x.tv) (hw : wt x.tv ≤ 1048576) : x.wf := by
 simp only [Vote.tv, ok_st, okS_cons] at h
 simp only [Vote.tv, wt, wts] at hw
 obtain ⟨h0, h1, h2, h3, h4, _⟩ := h
 exact ⟨i64_of (ok_int.1 h0), i64_of (ok_int.1 h1), bs_of (by omega), i64_of (ok_int.1 h3), bs_of (by omega)⟩
def Incl.tv (x : Incl) : Tv := .r [.i x.height, .i x.n, .i x.idx, bsT x.tx, bssT x.path]
theorem Incl.enc (x : Incl) : enc TIncl x.tv = x.c := by simp only [Incl.tv, enc_st, encS_cons, encS_nil, enc_int, enc_bool, enc_str, enc_bs, enc_bss', enc_ints, Incl.c, List.cons_append, List.nil_append, List.append_assoc]
theorem Incl.ex {v : Tv} (h : TvOk TIncl v) : ∃ x : Incl, v = x.tv := by
 obtain ⟨vs, rfl, h⟩ := h.st
 obtain ⟨v0, _, rfl, h0, h⟩ := h.step
 obtain ⟨v1, _, rfl, h1, h⟩ := h.step
 obtain ⟨v2, _, rfl, h2, h⟩ := h.step
 obtain ⟨v3, _, rfl, h3, h⟩ := h.step
 obtain ⟨v4, _, rfl, h4, h⟩ := h.step
 obtain rfl := h.fin
 obtain ⟨n0, rfl, _⟩ := h0.int
 obtain ⟨n1, rfl, _⟩ := h1.int
 obtain ⟨n2, rfl, _⟩ := h2.int
 obtain ⟨n3, rfl⟩ := bsT_ex h3
 obtain ⟨n4, rfl⟩ := bssT_ex h4
 exact ⟨⟨n0, n1, n2, n3, n4⟩, rfl⟩
theorem Incl.of {x : Incl} (h : TvOk TIncl x.tv) (hw : wt x.tv ≤ 1048576) : x.wc := by
 simp only [Incl.tv, ok_st, okS_cons] at h
 simp only [Incl.tv, wt, wts] at hw
 obtain ⟨h0, h1, h2, h3, h4, _⟩ := h
 exact ⟨i64_of (ok_int.1 h0), i64_of (ok_int.1 h1), i64_of (ok_int.1 h2), bs_of (by omega), bss_of (by omega)⟩
def Msg.tv (m : Msg) : Tv := .r [.i m.kind, m.vote.tv, m.qc.tv, m.head.tv, m.block.tv, m.tc.tv, m.proof.tv, m.incl.tv]
theorem Msg.enc (m : Msg) : enc TMsg m.tv = m.c := by simp only [Msg.tv, enc_st, encS_cons, encS_nil, enc_int, Vote.enc, Qc.enc, Head.enc, Block.enc, Tc.enc, Proof.enc, Incl.enc, Msg.c, Vote.c, Qc.c, Head.c, Block.c, Tc.c, Proof.c, Incl.c, List.cons_append, List.nil_append, List.append_assoc, List.append_nil]
theorem Msg.ex {v : Tv} (h : TvOk TMsg v) : ∃ m : Msg, v = m.tv := by
 obtain ⟨vs, rfl, h⟩ := h.st
 obtain ⟨v0, _, rfl, h0, h⟩ := h.step
 obtain ⟨v1, _, rfl, h1, h⟩ := h.step
 obtain ⟨v2, _, rfl, h2, h⟩ := h.step
 obtain ⟨v3, _, rfl, h3, h⟩ := h.step
 obtain ⟨v4, _, rfl, h4, h⟩ := h.step
 obtain ⟨v5, _, rfl, h5, h⟩ := h.step
 obtain ⟨v6, _, rfl, h6, h⟩ := h.step
 obtain ⟨v7, _, rfl, h7, h⟩ := h.step
 obtain rfl := h.fin
 obtain ⟨n0, rfl, _⟩ := h0.int
 obtain ⟨n1, rfl⟩ := Vote.ex h1
 obtain ⟨n2, rfl⟩ := Qc.ex h2
 obtain ⟨n3, rfl⟩ := Head.ex h3
 obtain ⟨n4, rfl⟩ := Block.ex h4
 obtain ⟨n5, rfl⟩ := Tc.ex h5
 obtain ⟨n6, rfl⟩ := Proof.ex h6
 obtain ⟨n7, rfl⟩ := Incl.ex h7
 exact ⟨⟨n0, n1, n2, n3, n4, n5, n6, n7⟩, rfl⟩
theorem Msg.of {m : Msg} (h : TvOk TMsg m.tv) (hw : wt m.tv ≤ 1048576) : m.wc := by
 simp only [Msg.tv, ok_st, okS_cons] at h
 simp only [Msg.tv, wt, wts] at hw
 obtain ⟨h0, h1, h2, h3, h4, h5, h6, h7, _⟩ := h
 have hb : wt m.block.tv = wt m.block.head.tv + (wt (bssT m.block.txs) + 0) := by simp only [Block.tv, wt, wts]
 have hi : wt m.incl.tv = 0 + (0 + (0 + (wt (bsT m.incl.tx) + (wt (bssT m.incl.path) + 0)))) := by simp only [Incl.tv, wt, wts]
 refine ⟨i64_of (ok_int.1 h0), Vote.of h1 (by omega), Qc.of h2 (by omega), Head.of h3 (by omega), ⟨Block.of h4 (by omega), fun t ht => ?_⟩, Tc.of h5 (by omega), Proof.of' h6 (by omega), Incl.of h7 (by omega), ?_⟩
 ·have := (wt_bss m.block.txs).2 t ht
  omega
 ·rw [wt_bs] at hi
  omega
theorem io_impl_MsgOk {h0 : H} {l : Lim} {m : Msg} {ms : List (Bool × List C)} (ha : ArgsRp h0 [(TLimits, l.tv), (TMsg, m.tv)] ms) (hp1 : wt m.tv ≤ 1048576) :
  WC cd n_impl_MsgOk ms h0 (Ans h0 [(.bool, .b (msgOk l m))]) := by
 obtain ⟨k0, mr0, ha0⟩ := ArgsRp.ok1 ha
 obtain ⟨k1, mr1, ha1⟩ := ArgsRp.ok1 ha0
 have w1 := Msg.of k1 hp1
 have hc := impl_MsgOk_ok l m w1
 have e : encA [(TLimits, l.tv), (TMsg, m.tv)] = [(true, l.c), (true, m.c)] := by simp only [encA, List.map, Lim.enc, Head.enc, Qc.enc, enc_bss', enc_bs, enc_int, enc_bool, enc_str, enc_hds, Msg.enc, Ty.agg]
 rw [← e] at hc
 exact hc.wc ha fun rs q => by rw [q]; exact bl_rs _
theorem io_spec_MsgOk {h0 : H} {l : Lim} {m : Msg} {ms : List (Bool × List C)} (ha : ArgsRp h0 [(TLimits, l.tv), (TMsg, m.tv)] ms) (hp1 : wt m.tv ≤ 1048576) :
  WC cd n_spec_MsgOk ms h0 (Ans h0 [(.bool, .b (msgOk l m))]) := by
 obtain ⟨k0, mr0, ha0⟩ := ArgsRp.ok1 ha
 obtain ⟨k1, mr1, ha1⟩ := ArgsRp.ok1 ha0
 have w1 := Msg.of k1 hp1
 have hc := spec_MsgOk_ok l m w1
 have e : encA [(TLimits, l.tv), (TMsg, m.tv)] = [(true, l.c), (true, m.c)] := by simp only [encA, List.map, Lim.enc, Head.enc, Qc.enc, enc_bss', enc_bs, enc_int, enc_bool, enc_str, enc_hds, Msg.enc, Ty.agg]
 rw [← e] at hc
 exact hc.wc ha fun rs q => by rw [q]; exact bl_rs _
end Go.Eng.F
