/- look, call by call: the walks. -/
import Derived.Test.YtgfjepjaccnkiaaOneF
namespace Go.Proofs.Ytgfjepjaccnkiaa
open Mem Go.RowKit Go.Proofs.YtgfjepjaccnkiaaW.PrintWords Go.Proofs.YtgfjepjaccnkiaaW.PrintLast Go.Proofs.YtgfjepjaccnkiaaW.PrintMore PWireReads

set_option maxRecDepth 100000 in
theorem look5T (T : List Int × Nat × Int) (g q : Nat) (A B : Option Addr) (c d : Nat) (xs : List Int) (at_ : Nat) (who op n : Int) (w : World) (hT : Hid (T = takeOf xs at_ n)) (h : Two w g q A B c d xs at_) (hp : provisolaw01_pick.f op 9 = some 5) :
    Calls Try.prog 10 #[.pointer (some ⟨g, 0, none⟩), .pointer (some ⟨q, 0, none⟩), .agg #[.int .i64 who, .int .i64 op, .int .i64 n]] w (Looked w g q A B c d xs) := by
  have H := Lib.hid h
  obtain ⟨p0, p1, pf⟩ := h.p.cells
  have hq : q < w.heap.size := blk_lt h.p.blk
  have hg : g < w.heap.size := blk_lt h.r.blk
  clear h
  go_enter Try.func10, Try.ntmps10
  go_wp2_with fail
  go_quiet (fail)
  go_wp2_with (first | (go_at_call 9; refine (provisolaw01_pick.calls op 9 5 _ hp).mono ?_; rintro e w' ⟨rfl, ⟨nq, rfl⟩⟩))
  refine at_world (fun W => Two W g q A B c d xs at_ ∧ Below w.heap.size w W ∧ W.cell? ⟨w.heap.size, 2, none⟩ = some (.int .i64 n) ∧ w.heap.size < W.heap.size) ⟨H.out.below start_below, start_below, by simp, by simp⟩ ?_
  rintro W ⟨h1, hb, cn, hsz⟩
  have H1 := Lib.hid h1
  have HB := Lib.hid hb
  clear h1 hb p0 p1 pf
  refine (take_T T g A c xs at_ n _ hT H1.out.r H1.out.small).mono ?_
  rintro e w1 ⟨v1, rfl, hv1, hr1, hg1⟩
  have H2 := Lib.hid (H1.out.mid hr1 hg1)
  have C2 := Lib.hid ((Chg2.below (q := q) HB.out).trans (Chg2.g hg1))
  have cn1 : w1.cell? ⟨w.heap.size, 2, none⟩ = some (.int .i64 n) := (World.cell?_of_block (hg1.block _ hsz (by simp; omega))).trans cn
  obtain ⟨p0, p1, pf⟩ := H2.out.p.cells
  have HV1 := Lib.hid hv1
  clear hr1 hg1 cn hv1
  go_wp2_with fail
  go_region_held3 (fun W' => W'.cell? ⟨q, 0, none⟩ = some (.slice B xs.length d) ∧ W'.cell? ⟨q, 1, none⟩ = some (.int .i64 at_) ∧ W'.cell? ⟨w.heap.size, 2, none⟩ = some (.int .i64 n)) (first | exact ⟨p0, p1, cn1⟩ | exact ⟨pw_cell_below HB3.out p0, pw_cell_below HB3.out p1, pw_cell_below HB3.out cn1⟩) (first | (go_at_call 37; refine (refTake_T T B d xs at_ n _ hT (Kd.C_drew H2.out.p.rd) H2.out.p.cap H2.out.small H2.out.p.atl).mono ?_; rintro e w2 ⟨v, rfl, hf, hb2⟩; have HF := Lib.hid hf; have HB3 := Lib.hid (undrew hb2); clear hf hb2))
  refine exit_world (fun W2 => Mid W2 g q A B c d xs T.2.1 at_ ∧ Chg2 w W2 g q ∧ Reads8 W2 v1 T.1 ∧ Reads8 W2 v T.1) ⟨H2.out.below HB3.out, C2.out.trans (Chg2.below HB3.out), HV1.out.below HB3.out, fresh_reads HF.out⟩ ?_
  rintro W2 ⟨hm, hc2, hv1, hv2⟩
  obtain ⟨A1, c1, e1, hk1, hC1⟩ := hv1
  obtain ⟨A2, c2, e2, hk2, hC2⟩ := hv2
  subst e1
  subst e2
  obtain ⟨q0, q1, qf⟩ := hm.p.cells
  have HM := Lib.hid hm
  have HC2 := Lib.hid hc2
  have HA := Lib.hid hC1
  have HB4 := Lib.hid hC2
  clear hm hc2 hC1 hC2 HV1 HB3 HF H2 C2 H1 HB p0 p1 pf cn1
  go_wp2_with fail
  refine at_world (fun W3 => Two W3 g q A B c d xs T.2.1 ∧ Chg2 w W3 g q ∧ U8C W3 A1 T.1 ∧ U8C W3 A2 T.1) ⟨(HM.out.two ⟨⟨0, rfl⟩⟩).1, HC2.out.trans (Chg2.q (HM.out.two ⟨⟨0, rfl⟩⟩).2), C_set_i64 HA.out q1, C_set_i64 HB4.out q1⟩ ?_
  rintro W3 ⟨h3, hc3, hC1, hC2⟩
  have hlen : T.1.length ≤ 140737488355328 := by
    have h1 := h3.small
    have h2 : T.1.length ≤ xs.length := by rw [hT.out]; exact takeOf_len
    omega
  refine (eq_same A1 c1 A2 c2 T.1 _ hC1 hk1 hC2 hk2 hlen).mono ?_
  rintro e W4 ⟨rfl, ⟨m4, rfl⟩⟩
  have H3 := Lib.hid h3
  have HC3 := Lib.hid hc3
  clear h3 hc3 hC1 hC2
  go_wp2_with fail
  go_ret3
  exact ⟨rfl, ⟨_, H3.out.below (below_drawn ⟨⟨m4, rfl⟩⟩)⟩, HC3.out.trans (Chg2.below (below_drawn ⟨⟨m4, rfl⟩⟩))⟩
end Go.Proofs.Ytgfjepjaccnkiaa
