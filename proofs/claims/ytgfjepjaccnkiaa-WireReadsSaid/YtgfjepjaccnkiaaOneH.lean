/- look, call by call: the walks. (Printed by lookgen.py.) -/
import Derived.Test.YtgfjepjaccnkiaaOneF
namespace Go.Proofs.Ytgfjepjaccnkiaa
open Mem Go.RowKit Go.Proofs.YtgfjepjaccnkiaaW.PrintWords Go.Proofs.YtgfjepjaccnkiaaW.PrintLast Go.Proofs.YtgfjepjaccnkiaaW.PrintMore PWireReads

set_option maxRecDepth 100000 in
theorem look0 (g q : Nat) (A B : Option Addr) (c d : Nat) (xs : List Int) (at_ : Nat) (who op n : Int) (w : World) (h : Two w g q A B c d xs at_) (hp : provisolaw01_pick.f op 9 = some 0) :
    Calls Try.prog 10 #[.pointer (some ⟨g, 0, none⟩), .pointer (some ⟨q, 0, none⟩), .agg #[.int .i64 who, .int .i64 op, .int .i64 n]] w (Looked w g q A B c d xs) := by
  have H := Lib.hid h
  obtain ⟨p0, p1, pf⟩ := h.p.cells
  have hq : q < w.heap.size := blk_lt h.p.blk
  have hg : g < w.heap.size := blk_lt h.r.blk
  clear h
  go_enter Try.func10, Try.ntmps10
  go_wp2_with fail
  go_quiet (fail)
  go_wp2_with (first | (go_at_call 9; refine (provisolaw01_pick.calls op 9 0 _ hp).mono ?_; rintro e w' ⟨rfl, ⟨nq, rfl⟩⟩))
  refine wp_world (fun W => Two W g q A B c d xs at_ ∧ Below w.heap.size w W ∧ W.cell? ⟨w.heap.size, 2, none⟩ = some (.int .i64 n) ∧ w.heap.size < W.heap.size) ⟨H.out.below start_below, start_below, by simp, by simp⟩ ?_
  rintro W ⟨h1, hb, cn, hsz⟩
  have H1 := Lib.hid h1
  have HB := Lib.hid hb
  clear h1 hb p0 p1 pf
  obtain ⟨p0, p1, pf⟩ := H1.out.p.cells
  go_quiet ((go_at_call 11; exact Calls.quiet_of_same ((at_yes g _ at_ _ (by exact H1.out.r.blk)).mono fun e w3 ⟨k1, k2⟩ => ⟨k1, k2.symm⟩)))
  refine exit_world (fun W2 => Two W2 g q A B c d xs at_ ∧ Chg2 w W2 g q) ⟨H1.out.below (below_drawn ⟨⟨_, rfl⟩⟩), (Chg2.below HB.out).trans (Chg2.below (below_drawn ⟨⟨_, rfl⟩⟩))⟩ ?_
  rintro W2 ⟨hm, hc2⟩
  have HM := Lib.hid hm
  have HC2 := Lib.hid hc2
  clear hm hc2 p0 p1 pf
  go_wp2_with fail
  go_ret3
  exact ⟨rfl, ⟨_, HM.out⟩, HC2.out⟩

set_option maxRecDepth 100000 in
theorem look1 (g q : Nat) (A B : Option Addr) (c d : Nat) (xs : List Int) (at_ : Nat) (who op n : Int) (w : World) (h : Two w g q A B c d xs at_) (hp : provisolaw01_pick.f op 9 = some 1) :
    Calls Try.prog 10 #[.pointer (some ⟨g, 0, none⟩), .pointer (some ⟨q, 0, none⟩), .agg #[.int .i64 who, .int .i64 op, .int .i64 n]] w (Looked w g q A B c d xs) := by
  have H := Lib.hid h
  obtain ⟨p0, p1, pf⟩ := h.p.cells
  have hq : q < w.heap.size := blk_lt h.p.blk
  have hg : g < w.heap.size := blk_lt h.r.blk
  have hwl : IntKind.i64.wrap ((xs.length : Int) - (at_ : Int)) = (xs.length : Int) - at_ := IntWalk.i64_in _ (by have := h.small; have := h.r.atl; omega)
  clear h
  go_enter Try.func10, Try.ntmps10
  go_wp2_with fail
  go_quiet (fail)
  go_wp2_with (first | (go_at_call 9; refine (provisolaw01_pick.calls op 9 1 _ hp).mono ?_; rintro e w' ⟨rfl, ⟨nq, rfl⟩⟩))
  refine wp_world (fun W => Two W g q A B c d xs at_ ∧ Below w.heap.size w W ∧ W.cell? ⟨w.heap.size, 2, none⟩ = some (.int .i64 n) ∧ w.heap.size < W.heap.size) ⟨H.out.below start_below, start_below, by simp, by simp⟩ ?_
  rintro W ⟨h1, hb, cn, hsz⟩
  have H1 := Lib.hid h1
  have HB := Lib.hid hb
  clear h1 hb p0 p1 pf
  obtain ⟨p0, p1, pf⟩ := H1.out.p.cells
  go_quiet ((go_at_call 12; exact Calls.quiet_of ((left_yes g A xs.length c at_ _ H1.out.r.atl (Kd.C_max H1.out.r.rd) (by exact H1.out.r.blk)).mono fun e w3 ⟨k1, k2⟩ => ⟨k1, k2.out⟩)))
  refine exit_world (fun W2 => Two W2 g q A B c d xs at_ ∧ Chg2 w W2 g q) ⟨H1.out.below (below_drawn ⟨⟨_, rfl⟩⟩), (Chg2.below HB.out).trans (Chg2.below (below_drawn ⟨⟨_, rfl⟩⟩))⟩ ?_
  rintro W2 ⟨hm, hc2⟩
  have HM := Lib.hid hm
  have HC2 := Lib.hid hc2
  clear hm hc2 p0 p1 pf
  go_wp2_with fail
  go_ret3
  exact ⟨rfl, ⟨_, HM.out⟩, HC2.out⟩

set_option maxRecDepth 100000 in
theorem look2 (T : Int × Nat × Int) (g q : Nat) (A B : Option Addr) (c d : Nat) (xs : List Int) (at_ : Nat) (who op n : Int) (w : World) (hT : Hid (T = numRes xs at_ 1)) (h : Two w g q A B c d xs at_) (hp : provisolaw01_pick.f op 9 = some 2) :
    Calls Try.prog 10 #[.pointer (some ⟨g, 0, none⟩), .pointer (some ⟨q, 0, none⟩), .agg #[.int .i64 who, .int .i64 op, .int .i64 n]] w (Looked w g q A B c d xs) := by
  have H := Lib.hid h
  obtain ⟨p0, p1, pf⟩ := h.p.cells
  have hq : q < w.heap.size := blk_lt h.p.blk
  have hg : g < w.heap.size := blk_lt h.r.blk
  clear h
  go_enter Try.func10, Try.ntmps10
  go_wp2_with fail
  go_quiet (fail)
  go_wp2_with (first | (go_at_call 9; refine (provisolaw01_pick.calls op 9 2 _ hp).mono ?_; rintro e w' ⟨rfl, ⟨nq, rfl⟩⟩))
  refine at_world (fun W => Two W g q A B c d xs at_ ∧ Below w.heap.size w W ∧ W.cell? ⟨w.heap.size, 2, none⟩ = some (.int .i64 n) ∧ w.heap.size < W.heap.size) ⟨H.out.below start_below, start_below, by simp, by simp⟩ ?_
  rintro W ⟨h1, hb, cn, hsz⟩
  have H1 := Lib.hid h1
  have HB := Lib.hid hb
  clear h1 hb p0 p1 pf
  refine (byte_T T g A c xs at_ _ hT H1.out.r).mono ?_
  rintro e w1 ⟨rfl, hr1, hg1⟩
  have H2 := Lib.hid (H1.out.mid hr1 hg1)
  have C2 := Lib.hid ((Chg2.below (q := q) HB.out).trans (Chg2.g hg1))
  have cn1 : w1.cell? ⟨w.heap.size, 2, none⟩ = some (.int .i64 n) := (World.cell?_of_block (hg1.block _ hsz (by simp; omega))).trans cn
  obtain ⟨p0, p1, pf⟩ := H2.out.p.cells
  clear hr1 hg1 cn
  go_wp2_with fail
  go_quiet ((go_at_call 33; exact Calls.quiet_of ((refNum_T T B d xs at_ 1 _ hT (Kd.C_drewN H2.out.p.rd _) H2.out.p.cap H2.out.small H1.out.r.bytes H2.out.p.atl (by omega) _ rfl).mono fun e w3 ⟨k1, k2⟩ => ⟨k1, k2.out⟩)))
  refine block_world (fun W2 => Mid W2 g q A B c d xs T.2.1 at_ ∧ Chg2 w W2 g q) ⟨H2.out.below (below_drawn ⟨⟨_, rfl⟩⟩), C2.out.trans (Chg2.below (below_drawn ⟨⟨_, rfl⟩⟩))⟩ ?_
  rintro W2 ⟨hm, hc2⟩
  obtain ⟨q0, q1, qf⟩ := hm.p.cells
  have HM := Lib.hid hm
  have HC2 := Lib.hid hc2
  clear hm hc2 H2 C2 H1 HB p0 p1 pf cn1
  go_wp2_with fail
  go_ret3
  have h3 := HM.out.two (w' := W2.setCell ⟨q, 1, none⟩ (.int .i64 T.2.1)) ⟨⟨0, rfl⟩⟩
  exact ⟨rfl, ⟨_, h3.1⟩, HC2.out.trans (Chg2.q h3.2)⟩

set_option maxRecDepth 100000 in
theorem look3 (T : Int × Nat × Int) (g q : Nat) (A B : Option Addr) (c d : Nat) (xs : List Int) (at_ : Nat) (who op n : Int) (w : World) (hT : Hid (T = numRes xs at_ 2)) (h : Two w g q A B c d xs at_) (hp : provisolaw01_pick.f op 9 = some 3) :
    Calls Try.prog 10 #[.pointer (some ⟨g, 0, none⟩), .pointer (some ⟨q, 0, none⟩), .agg #[.int .i64 who, .int .i64 op, .int .i64 n]] w (Looked w g q A B c d xs) := by
  have H := Lib.hid h
  obtain ⟨p0, p1, pf⟩ := h.p.cells
  have hq : q < w.heap.size := blk_lt h.p.blk
  have hg : g < w.heap.size := blk_lt h.r.blk
  clear h
  go_enter Try.func10, Try.ntmps10
  go_wp2_with fail
  go_quiet (fail)
  go_wp2_with (first | (go_at_call 9; refine (provisolaw01_pick.calls op 9 3 _ hp).mono ?_; rintro e w' ⟨rfl, ⟨nq, rfl⟩⟩))
  refine at_world (fun W => Two W g q A B c d xs at_ ∧ Below w.heap.size w W ∧ W.cell? ⟨w.heap.size, 2, none⟩ = some (.int .i64 n) ∧ w.heap.size < W.heap.size) ⟨H.out.below start_below, start_below, by simp, by simp⟩ ?_
  rintro W ⟨h1, hb, cn, hsz⟩
  have H1 := Lib.hid h1
  have HB := Lib.hid hb
  clear h1 hb p0 p1 pf
  refine (word_T T g A c xs at_ _ hT H1.out.r).mono ?_
  rintro e w1 ⟨rfl, hr1, hg1⟩
  have H2 := Lib.hid (H1.out.mid hr1 hg1)
  have C2 := Lib.hid ((Chg2.below (q := q) HB.out).trans (Chg2.g hg1))
  have cn1 : w1.cell? ⟨w.heap.size, 2, none⟩ = some (.int .i64 n) := (World.cell?_of_block (hg1.block _ hsz (by simp; omega))).trans cn
  obtain ⟨p0, p1, pf⟩ := H2.out.p.cells
  clear hr1 hg1 cn
  go_wp2_with fail
  go_quiet ((go_at_call 33; exact Calls.quiet_of ((refNum_T T B d xs at_ 2 _ hT (Kd.C_drewN H2.out.p.rd _) H2.out.p.cap H2.out.small H1.out.r.bytes H2.out.p.atl (by omega) _ rfl).mono fun e w3 ⟨k1, k2⟩ => ⟨k1, k2.out⟩)))
  refine block_world (fun W2 => Mid W2 g q A B c d xs T.2.1 at_ ∧ Chg2 w W2 g q) ⟨H2.out.below (below_drawn ⟨⟨_, rfl⟩⟩), C2.out.trans (Chg2.below (below_drawn ⟨⟨_, rfl⟩⟩))⟩ ?_
  rintro W2 ⟨hm, hc2⟩
  obtain ⟨q0, q1, qf⟩ := hm.p.cells
  have HM := Lib.hid hm
  have HC2 := Lib.hid hc2
  clear hm hc2 H2 C2 H1 HB p0 p1 pf cn1
  go_wp2_with fail
  go_ret3
  have h3 := HM.out.two (w' := W2.setCell ⟨q, 1, none⟩ (.int .i64 T.2.1)) ⟨⟨0, rfl⟩⟩
  exact ⟨rfl, ⟨_, h3.1⟩, HC2.out.trans (Chg2.q h3.2)⟩

set_option maxRecDepth 100000 in
theorem look4 (T : Int × Nat × Int) (g q : Nat) (A B : Option Addr) (c d : Nat) (xs : List Int) (at_ : Nat) (who op n : Int) (w : World) (hT : Hid (T = numRes xs at_ 4)) (h : Two w g q A B c d xs at_) (hp : provisolaw01_pick.f op 9 = some 4) :
    Calls Try.prog 10 #[.pointer (some ⟨g, 0, none⟩), .pointer (some ⟨q, 0, none⟩), .agg #[.int .i64 who, .int .i64 op, .int .i64 n]] w (Looked w g q A B c d xs) := by
  have H := Lib.hid h
  obtain ⟨p0, p1, pf⟩ := h.p.cells
  have hq : q < w.heap.size := blk_lt h.p.blk
  have hg : g < w.heap.size := blk_lt h.r.blk
  clear h
  go_enter Try.func10, Try.ntmps10
  go_wp2_with fail
  go_quiet (fail)
  go_wp2_with (first | (go_at_call 9; refine (provisolaw01_pick.calls op 9 4 _ hp).mono ?_; rintro e w' ⟨rfl, ⟨nq, rfl⟩⟩))
  refine at_world (fun W => Two W g q A B c d xs at_ ∧ Below w.heap.size w W ∧ W.cell? ⟨w.heap.size, 2, none⟩ = some (.int .i64 n) ∧ w.heap.size < W.heap.size) ⟨H.out.below start_below, start_below, by simp, by simp⟩ ?_
  rintro W ⟨h1, hb, cn, hsz⟩
  have H1 := Lib.hid h1
  have HB := Lib.hid hb
  clear h1 hb p0 p1 pf
  refine (long_T T g A c xs at_ _ hT H1.out.r).mono ?_
  rintro e w1 ⟨rfl, hr1, hg1⟩
  have H2 := Lib.hid (H1.out.mid hr1 hg1)
  have C2 := Lib.hid ((Chg2.below (q := q) HB.out).trans (Chg2.g hg1))
  have cn1 : w1.cell? ⟨w.heap.size, 2, none⟩ = some (.int .i64 n) := (World.cell?_of_block (hg1.block _ hsz (by simp; omega))).trans cn
  obtain ⟨p0, p1, pf⟩ := H2.out.p.cells
  clear hr1 hg1 cn
  go_wp2_with fail
  go_quiet ((go_at_call 33; exact Calls.quiet_of ((refNum_T T B d xs at_ 4 _ hT (Kd.C_drewN H2.out.p.rd _) H2.out.p.cap H2.out.small H1.out.r.bytes H2.out.p.atl (by omega) _ rfl).mono fun e w3 ⟨k1, k2⟩ => ⟨k1, k2.out⟩)))
  refine block_world (fun W2 => Mid W2 g q A B c d xs T.2.1 at_ ∧ Chg2 w W2 g q) ⟨H2.out.below (below_drawn ⟨⟨_, rfl⟩⟩), C2.out.trans (Chg2.below (below_drawn ⟨⟨_, rfl⟩⟩))⟩ ?_
  rintro W2 ⟨hm, hc2⟩
  obtain ⟨q0, q1, qf⟩ := hm.p.cells
  have HM := Lib.hid hm
  have HC2 := Lib.hid hc2
  clear hm hc2 H2 C2 H1 HB p0 p1 pf cn1
  go_wp2_with fail
  go_ret3
  have h3 := HM.out.two (w' := W2.setCell ⟨q, 1, none⟩ (.int .i64 T.2.1)) ⟨⟨0, rfl⟩⟩
  exact ⟨rfl, ⟨_, h3.1⟩, HC2.out.trans (Chg2.q h3.2)⟩

set_option maxRecDepth 100000 in
theorem look6 (T : ByteArray × Nat × Int) (g q : Nat) (A B : Option Addr) (c d : Nat) (xs : List Int) (at_ : Nat) (who op n : Int) (w : World) (hT : Hid (T = nameOf xs at_)) (h : Two w g q A B c d xs at_) (hp : provisolaw01_pick.f op 9 = some 6) :
    Calls Try.prog 10 #[.pointer (some ⟨g, 0, none⟩), .pointer (some ⟨q, 0, none⟩), .agg #[.int .i64 who, .int .i64 op, .int .i64 n]] w (Looked w g q A B c d xs) := by
  have H := Lib.hid h
  obtain ⟨p0, p1, pf⟩ := h.p.cells
  have hq : q < w.heap.size := blk_lt h.p.blk
  have hg : g < w.heap.size := blk_lt h.r.blk
  clear h
  go_enter Try.func10, Try.ntmps10
  go_wp2_with fail
  go_quiet (fail)
  go_wp2_with (first | (go_at_call 9; refine (provisolaw01_pick.calls op 9 6 _ hp).mono ?_; rintro e w' ⟨rfl, ⟨nq, rfl⟩⟩))
  refine at_world (fun W => Two W g q A B c d xs at_ ∧ Below w.heap.size w W ∧ W.cell? ⟨w.heap.size, 2, none⟩ = some (.int .i64 n) ∧ w.heap.size < W.heap.size) ⟨H.out.below start_below, start_below, by simp, by simp⟩ ?_
  rintro W ⟨h1, hb, cn, hsz⟩
  have H1 := Lib.hid h1
  have HB := Lib.hid hb
  clear h1 hb p0 p1 pf
  refine (name_T T g A c xs at_ _ hT H1.out.r).mono ?_
  rintro e w1 ⟨rfl, hr1, hg1⟩
  have H2 := Lib.hid (H1.out.mid hr1 hg1)
  have C2 := Lib.hid ((Chg2.below (q := q) HB.out).trans (Chg2.g hg1))
  have cn1 : w1.cell? ⟨w.heap.size, 2, none⟩ = some (.int .i64 n) := (World.cell?_of_block (hg1.block _ hsz (by simp; omega))).trans cn
  obtain ⟨p0, p1, pf⟩ := H2.out.p.cells
  clear hr1 hg1 cn
  go_wp2_with fail
  go_region_held3 (fun W' => W'.cell? ⟨q, 0, none⟩ = some (.slice B xs.length d) ∧ W'.cell? ⟨q, 1, none⟩ = some (.int .i64 at_)) (first | exact ⟨p0, p1⟩ | exact ⟨pw_cell_below HB3.out p0, pw_cell_below HB3.out p1⟩) (first | (go_at_call 39; refine (refName_T T B d xs at_ _ hT (Kd.C_drew H2.out.p.rd) H2.out.p.cap H2.out.small H1.out.r.bytes H2.out.p.atl).mono ?_; rintro e w2 ⟨rfl, hb2⟩; have HB3 := Lib.hid (undrew hb2); clear hb2))
  refine exit_world (fun W2 => Mid W2 g q A B c d xs T.2.1 at_ ∧ Chg2 w W2 g q) ⟨H2.out.below HB3.out, C2.out.trans (Chg2.below HB3.out)⟩ ?_
  rintro W2 ⟨hm, hc2⟩
  obtain ⟨q0, q1, qf⟩ := hm.p.cells
  have HM := Lib.hid hm
  have HC2 := Lib.hid hc2
  clear hm hc2 HB3 H2 C2 H1 HB p0 p1 pf cn1
  go_wp2_with fail
  go_ret3
  have h3 := HM.out.two (w' := W2.setCell ⟨q, 1, none⟩ (.int .i64 T.2.1)) ⟨⟨0, rfl⟩⟩
  exact ⟨rfl, ⟨_, h3.1⟩, HC2.out.trans (Chg2.q h3.2)⟩

set_option maxRecDepth 100000 in
theorem look8y (g q : Nat) (A B : Option Addr) (c d : Nat) (xs : List Int) (at_ : Nat) (who op n : Int) (w : World) (hlt : at_ < xs.length) (h : Two w g q A B c d xs at_) (hp : provisolaw01_pick.f op 9 = some 8) :
    Calls Try.prog 10 #[.pointer (some ⟨g, 0, none⟩), .pointer (some ⟨q, 0, none⟩), .agg #[.int .i64 who, .int .i64 op, .int .i64 n]] w (Looked w g q A B c d xs) := by
  have H := Lib.hid h
  obtain ⟨p0, p1, pf⟩ := h.p.cells
  have hq : q < w.heap.size := blk_lt h.p.blk
  have hg : g < w.heap.size := blk_lt h.r.blk
  clear h
  go_enter Try.func10, Try.ntmps10
  go_wp2_with fail
  go_quiet (fail)
  go_wp2_with (first | (go_at_call 9; refine (provisolaw01_pick.calls op 9 8 _ hp).mono ?_; rintro e w' ⟨rfl, ⟨nq, rfl⟩⟩))
  refine wp_world (fun W => Two W g q A B c d xs at_ ∧ Below w.heap.size w W ∧ W.cell? ⟨w.heap.size, 2, none⟩ = some (.int .i64 n) ∧ w.heap.size < W.heap.size) ⟨H.out.below start_below, start_below, by simp, by simp⟩ ?_
  rintro W ⟨h1, hb, cn, hsz⟩
  have H1 := Lib.hid h1
  have HB := Lib.hid hb
  clear h1 hb p0 p1 pf
  obtain ⟨p0, p1, pf⟩ := H1.out.p.cells
  go_wp2_with fail
  go_quiet (fail)
  go_wp2_with fail
  refine at_world (fun W2 => Two W2 g q A B c d xs at_ ∧ Chg2 w W2 g q) ⟨H1.out.below (below_drawn ⟨⟨_, rfl⟩⟩), (Chg2.below HB.out).trans (Chg2.below (below_drawn ⟨⟨_, rfl⟩⟩))⟩ ?_
  rintro W2 ⟨hm, hc2⟩
  have HM := Lib.hid hm
  have HC2 := Lib.hid hc2
  clear hm hc2 p0 p1 pf
  refine (end_yes g A c xs at_ _ HM.out.r).mono ?_
  rw [if_pos hlt]
  rintro e W3 ⟨rfl, ⟨m3, rfl⟩⟩
  go_wp2_with fail
  go_ret3
  exact ⟨rfl, ⟨_, HM.out.below (below_drawn ⟨⟨_, rfl⟩⟩)⟩, HC2.out.trans (Chg2.below (below_drawn ⟨⟨_, rfl⟩⟩))⟩

set_option maxRecDepth 100000 in
theorem look8n (g q : Nat) (A B : Option Addr) (c d : Nat) (xs : List Int) (at_ : Nat) (who op n : Int) (w : World) (hlt : ¬ at_ < xs.length) (h : Two w g q A B c d xs at_) (hp : provisolaw01_pick.f op 9 = some 8) :
    Calls Try.prog 10 #[.pointer (some ⟨g, 0, none⟩), .pointer (some ⟨q, 0, none⟩), .agg #[.int .i64 who, .int .i64 op, .int .i64 n]] w (Looked w g q A B c d xs) := by
  have H := Lib.hid h
  obtain ⟨p0, p1, pf⟩ := h.p.cells
  have hq : q < w.heap.size := blk_lt h.p.blk
  have hg : g < w.heap.size := blk_lt h.r.blk
  clear h
  go_enter Try.func10, Try.ntmps10
  go_wp2_with fail
  go_quiet (fail)
  go_wp2_with (first | (go_at_call 9; refine (provisolaw01_pick.calls op 9 8 _ hp).mono ?_; rintro e w' ⟨rfl, ⟨nq, rfl⟩⟩))
  refine wp_world (fun W => Two W g q A B c d xs at_ ∧ Below w.heap.size w W ∧ W.cell? ⟨w.heap.size, 2, none⟩ = some (.int .i64 n) ∧ w.heap.size < W.heap.size) ⟨H.out.below start_below, start_below, by simp, by simp⟩ ?_
  rintro W ⟨h1, hb, cn, hsz⟩
  have H1 := Lib.hid h1
  have HB := Lib.hid hb
  clear h1 hb p0 p1 pf
  obtain ⟨p0, p1, pf⟩ := H1.out.p.cells
  go_wp2_with fail
  go_quiet (fail)
  go_wp2_with fail
  refine at_world (fun W2 => Two W2 g q A B c d xs at_ ∧ Chg2 w W2 g q) ⟨H1.out.below (below_drawn ⟨⟨_, rfl⟩⟩), (Chg2.below HB.out).trans (Chg2.below (below_drawn ⟨⟨_, rfl⟩⟩))⟩ ?_
  rintro W2 ⟨hm, hc2⟩
  have HM := Lib.hid hm
  have HC2 := Lib.hid hc2
  clear hm hc2 p0 p1 pf
  refine (end_yes g A c xs at_ _ HM.out.r).mono ?_
  rw [if_neg hlt]
  rintro e W3 ⟨rfl, ⟨m3, rfl⟩⟩
  go_wp2_with fail
  go_ret3
  exact ⟨rfl, ⟨_, HM.out.below (below_drawn ⟨⟨_, rfl⟩⟩)⟩, HC2.out.trans (Chg2.below (below_drawn ⟨⟨_, rfl⟩⟩))⟩

set_option maxRecDepth 100000 in
theorem look7n (T : List Int × Nat × Int) (g q : Nat) (A B : Option Addr) (c d : Nat) (xs : List Int) (at_ : Nat) (who op n : Int) (w : World) (hT : Hid (T = takeOf xs at_ n)) (he : T.2.2 ≠ 0) (h : Two w g q A B c d xs at_) (hp : provisolaw01_pick.f op 9 = some 7) :
    Calls Try.prog 10 #[.pointer (some ⟨g, 0, none⟩), .pointer (some ⟨q, 0, none⟩), .agg #[.int .i64 who, .int .i64 op, .int .i64 n]] w (Looked w g q A B c d xs) := by
  have H := Lib.hid h
  obtain ⟨p0, p1, pf⟩ := h.p.cells
  have hq : q < w.heap.size := blk_lt h.p.blk
  have hg : g < w.heap.size := blk_lt h.r.blk
  have hne : (T.2.2 != 0) = true := by simpa using he
  have HE := Lib.hid he
  clear he
  clear h
  go_enter Try.func10, Try.ntmps10
  go_wp2_with fail
  go_quiet (fail)
  go_wp2_with (first | (go_at_call 9; refine (provisolaw01_pick.calls op 9 7 _ hp).mono ?_; rintro e w' ⟨rfl, ⟨nq, rfl⟩⟩))
  refine at_world (fun W => Two W g q A B c d xs at_ ∧ Below w.heap.size w W ∧ W.cell? ⟨w.heap.size, 2, none⟩ = some (.int .i64 n) ∧ w.heap.size < W.heap.size) ⟨H.out.below start_below, start_below, by simp, by simp⟩ ?_
  rintro W ⟨h1, hb, cn, hsz⟩
  have H1 := Lib.hid h1
  have HB := Lib.hid hb
  clear h1 hb p0 p1 pf
  refine (within_bad_T T g A c xs at_ n _ hT H1.out.r H1.out.small HE.out).mono ?_
  rintro e w1 ⟨rfl, hr1, hg1⟩
  have H2 := Lib.hid (H1.out.mid hr1 hg1)
  have C2 := Lib.hid ((Chg2.below (q := q) HB.out).trans (Chg2.g hg1))
  have cn1 : w1.cell? ⟨w.heap.size, 2, none⟩ = some (.int .i64 n) := (World.cell?_of_block (hg1.block _ hsz (by simp; omega))).trans cn
  obtain ⟨p0, p1, pf⟩ := H2.out.p.cells
  clear hr1 hg1 cn
  go_wp2_with fail
  go_region_held3 (fun W' => W'.cell? ⟨q, 0, none⟩ = some (.slice B xs.length d) ∧ W'.cell? ⟨q, 1, none⟩ = some (.int .i64 at_) ∧ W'.cell? ⟨w.heap.size, 2, none⟩ = some (.int .i64 n)) (first | exact ⟨p0, p1, cn1⟩ | exact ⟨pw_cell_below HB3.out p0, pw_cell_below HB3.out p1, pw_cell_below HB3.out cn1⟩) (first | (go_at_call 37; refine (refTake_T T B d xs at_ n _ hT (Kd.C_drew H2.out.p.rd) H2.out.p.cap H2.out.small H2.out.p.atl).mono ?_; rintro e w2 ⟨v, rfl, hf, hb2⟩; have HF := Lib.hid hf; have HB3 := Lib.hid (undrew hb2); clear hf hb2))
  refine exit_world (fun W2 => Mid W2 g q A B c d xs T.2.1 at_ ∧ Chg2 w W2 g q) ⟨H2.out.below HB3.out, C2.out.trans (Chg2.below HB3.out)⟩ ?_
  rintro W2 ⟨hm, hc2⟩
  obtain ⟨q0, q1, qf⟩ := hm.p.cells
  have HM := Lib.hid hm
  have HC2 := Lib.hid hc2
  clear hm hc2 HB3 HF H2 C2 H1 HB p0 p1 pf cn1
  go_wp2_with fail
  go_ret3
  have h3 := HM.out.two (w' := W2.setCell ⟨q, 1, none⟩ (.int .i64 T.2.1)) ⟨⟨0, rfl⟩⟩
  exact ⟨rfl, ⟨_, h3.1⟩, HC2.out.trans (Chg2.q h3.2)⟩

set_option maxRecDepth 100000 in
theorem look7y (T : List Int × Nat × Int) (g q : Nat) (A B : Option Addr) (c d : Nat) (xs : List Int) (at_ : Nat) (who op n : Int) (w : World) (hT : Hid (T = takeOf xs at_ n)) (he : T.2.2 = 0) (h : Two w g q A B c d xs at_) (hp : provisolaw01_pick.f op 9 = some 7) :
    Calls Try.prog 10 #[.pointer (some ⟨g, 0, none⟩), .pointer (some ⟨q, 0, none⟩), .agg #[.int .i64 who, .int .i64 op, .int .i64 n]] w (LookedIn w g q A B c d xs T.1) := by
  have H := Lib.hid h
  obtain ⟨p0, p1, pf⟩ := h.p.cells
  have hq : q < w.heap.size := blk_lt h.p.blk
  have hg : g < w.heap.size := blk_lt h.r.blk
  have hne : (T.2.2 != 0) = false := by simpa using he
  have heq : (0 == T.2.2) = true := by simp [he]
  have HE := Lib.hid he
  clear he
  clear h
  go_enter Try.func10, Try.ntmps10
  go_wp2_with fail
  go_quiet (fail)
  go_wp2_with (first | (go_at_call 9; refine (provisolaw01_pick.calls op 9 7 _ hp).mono ?_; rintro e w' ⟨rfl, ⟨nq, rfl⟩⟩))
  refine at_world (fun W => Two W g q A B c d xs at_ ∧ Below w.heap.size w W ∧ W.cell? ⟨w.heap.size, 2, none⟩ = some (.int .i64 n) ∧ w.heap.size < W.heap.size) ⟨H.out.below start_below, start_below, by simp, by simp⟩ ?_
  rintro W ⟨h1, hb, cn, hsz⟩
  have H1 := Lib.hid h1
  have HB := Lib.hid hb
  clear h1 hb p0 p1 pf
  refine (within_ok_T T g A c xs at_ n _ hT H1.out.r H1.out.small HE.out).mono ?_
  rintro e w1 ⟨⟨b, rfl, hbs, A2, c2, hr2, had⟩, hr1, hg1⟩
  have H2 := Lib.hid (H1.out.mid hr1 hg1)
  have C2 := Lib.hid ((Chg2.below (q := q) HB.out).trans (Chg2.g hg1))
  have cn1 : w1.cell? ⟨w.heap.size, 2, none⟩ = some (.int .i64 n) := (World.cell?_of_block (hg1.block _ hsz (by simp; omega))).trans cn
  obtain ⟨p0, p1, pf⟩ := H2.out.p.cells
  have hb1 : b < w1.heap.size := blk_lt hr2.blk
  have HR2 := Lib.hid hr2
  have HAD := Lib.hid had
  clear hr1 hg1 cn hr2 had
  go_wp2_with fail
  go_region_held3 (fun W' => W'.cell? ⟨q, 0, none⟩ = some (.slice B xs.length d) ∧ W'.cell? ⟨q, 1, none⟩ = some (.int .i64 at_) ∧ W'.cell? ⟨w.heap.size, 2, none⟩ = some (.int .i64 n)) (first | exact ⟨p0, p1, cn1⟩ | exact ⟨pw_cell_below HB3.out p0, pw_cell_below HB3.out p1, pw_cell_below HB3.out cn1⟩) (first | (go_at_call 37; refine (refTake_T T B d xs at_ n _ hT (Kd.C_drew H2.out.p.rd) H2.out.p.cap H2.out.small H2.out.p.atl).mono ?_; rintro e w2 ⟨v, rfl, hf, hb2⟩; have HF := Lib.hid hf; have HB3 := Lib.hid (undrew hb2); clear hf hb2))
  obtain ⟨B2, d2, ev, hd2, hC2, had2⟩ := fresh_reads' HF.out
  subst ev
  refine exit_world (fun W2 => Mid W2 g q A B c d xs T.2.1 at_ ∧ Chg2 w W2 g q ∧ IsRd W2 b A2 c2 T.1 0 ∧ U8C W2 B2 T.1 ∧ (∀ ad, B2 = some ad → w1.heap.size ≤ ad.block ∧ ad.block < W2.heap.size) ∧ b < W2.heap.size) ⟨H2.out.below HB3.out, C2.out.trans (Chg2.below HB3.out), HR2.out.below HB3.out, hC2, had2, Nat.lt_of_lt_of_le hb1 HB3.out.size⟩ ?_
  rintro W2 ⟨hm, hc2, hr3, hC3, had3, hb4⟩
  obtain ⟨q0, q1, qf⟩ := hm.p.cells
  have HM := Lib.hid hm
  have HC2 := Lib.hid hc2
  have HR3 := Lib.hid hr3
  have HC3 := Lib.hid hC3
  have HAD3 := Lib.hid had3
  have HWS := Lib.hid HB.out.size
  clear hm hc2 hr3 hC3 had3 HB3 HF H2 C2 H1 HB p0 p1 pf cn1 had2 hC2 HR2
  go_wp2_with fail
  go_ret3
  have hsz2 := HC2.out.size
  have h3 := HM.out.two (w' := W2.setCell ⟨q, 1, none⟩ (.int .i64 T.2.1)) ⟨⟨0, rfl⟩⟩
  have hbl : Below (W2.setCell ⟨q, 1, none⟩ (.int .i64 T.2.1)).heap.size (W2.setCell ⟨q, 1, none⟩ (.int .i64 T.2.1)) ((W2.setCell ⟨q, 1, none⟩ (.int .i64 T.2.1)).alloc (.cells #[.slice B2 T.1.length d2, .int .i64 0] 32)) := (Below.refl _ _).alloc (Nat.le_refl _) _
  have hws := HWS.out
  have hbq : b ≠ q := by omega
  have hr4 : IsRd (W2.setCell ⟨q, 1, none⟩ (.int .i64 T.2.1)) b A2 c2 T.1 0 := HR3.out.grown (q := q) h3.2 hbq (fun ad h _ => by have := HAD.out ad h; omega)
  have hlen : T.1.length ≤ 140737488355000 := by
    have h1 := HM.out.small
    have h2 : T.1.length ≤ xs.length := by rw [hT.out]; exact takeOf_len
    omega
  refine ⟨b, W2.heap.size, A2, B2, c2, d2, rfl, by omega, by omega, ⟨_, h3.1.below hbl⟩, ⟨hr4.below hbl, ⟨?_, hd2, Nat.zero_le _, ?_, fun ad h _ => by have := HAD3.out ad h; omega⟩, by omega, fun ad h _ => by have := HAD.out ad h; omega, fun ad h _ => by have := HAD3.out ad h; omega, hlen⟩, HC2.out.trans ((Chg2.q h3.2).trans (Chg2.below hbl)), fun ad h => by have := HAD.out ad h; omega, fun ad h => by have := HAD3.out ad h; omega⟩
  · have := heap_alloc_new (W2.setCell ⟨q, 1, none⟩ (.int .i64 T.2.1)) (.cells #[.slice B2 T.1.length d2, .int .i64 0] 32)
    simpa using this
  · exact Kd.C_alloc (C_set_i64 HC3.out q1) _

end Go.Proofs.Ytgfjepjaccnkiaa
