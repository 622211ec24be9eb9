/- Names that are read, by both texts. -/
import Derived.Test.YtgfjepjaccnkiaaRefs
namespace Go.Proofs.Ytgfjepjaccnkiaa
open Mem Go.RowKit Go.Proofs.YtgfjepjaccnkiaaW.PrintWords Go.Proofs.YtgfjepjaccnkiaaW.PrintLast Go.Proofs.YtgfjepjaccnkiaaW.PrintMore PWireReads

/-- The name at a place: it, the place behind, the error. -/
def nameOf (xs : List Int) (at_ : Nat) : ByteArray × Nat × Int :=
  if xs.length ≤ at_ then (⟨#[]⟩, at_, 2)
  else if rd xs at_ = 0 ∨ 24 < rd xs at_ then (⟨#[]⟩, at_, 6)
  else if xs.length < at_ + 1 + (rd xs at_).toNat then (⟨#[]⟩, at_, 2)
  else if isNameB (strOfNums (midL xs (at_ + 1) (rd xs at_).toNat)) = true then (strOfNums (midL xs (at_ + 1) (rd xs at_).toNat), at_ + 1 + (rd xs at_).toNat, 0)
  else (⟨#[]⟩, at_, 6)

theorem num32_one (xs : List Int) (at_ : Nat) (hb : ∀ x ∈ xs, 0 ≤ x ∧ x ≤ 255) (h : at_ + 1 ≤ xs.length) : num32 (midL xs at_ 1) = rd xs at_ := by
  have hl := midL_len h
  rw [num32_small _ (midL_bytes hb at_ 1) (by omega)]
  have := numI_snoc (midL xs at_ 1) 0 (by omega)
  rw [List.take_of_length_le (by omega), midL_rd (by omega)] at this
  simpa [numI] using this
theorem rd_byte (xs : List Int) (at_ : Nat) (hb : ∀ x ∈ xs, 0 ≤ x ∧ x ≤ 255) : 0 ≤ rd xs at_ ∧ rd xs at_ ≤ 255 := by
  have := mid_bytes hb xs.length 0 at_
  simpa using this

theorem name_short (g : Nat) (A : Option Addr) (c : Nat) (xs : List Int) (at_ : Nat) (w : World) (hr : IsRd w g A c xs at_) (h : xs.length ≤ at_) :
    Calls Try.prog 38 #[.pointer (some ⟨g, 0, none⟩)] w fun e w' => e = .returned (.tuple #[.string ⟨#[]⟩, .int .i64 2]) ∧ IsRd w' g A c xs at_ ∧ w.grownBy w' (some g) := by
  have HR := Lib.hid hr
  have c1 : w.cell? ⟨g, 1, none⟩ = some (.int .i64 at_) := (blk_cell hr.blk 1).trans rfl
  have f1 : w.frozen? ⟨g, 1, none⟩ = false := blk_frozen hr.blk 1
  have ha := hr.atl
  clear hr
  go_enter Try.func38, Try.ntmps38
  go_wp2_with (first | (go_at_call 42; refine (ready_yes g _ _ _ HR.out.blk).mono ?_; rintro e w' ⟨rfl, rfl⟩) | (go_at_call 32; refine (byte_short g A c xs at_ _ HR.out (by omega)).mono ?_; rintro e w' ⟨rfl, ⟨nq, rfl⟩⟩))
  go_ret2
  exact ⟨rfl, IsRd.step HR.out (n := at_) ha (drawn_set w _ _ _ _ nq 0 rfl)⟩

theorem byte_ok' (g : Nat) (A : Option Addr) (c : Nat) (xs : List Int) (at_ : Nat) (w : World) (hr : IsRd w g A c xs at_) (hn : at_ + 1 ≤ xs.length) (v : Int) (hv : Hid (v = rd xs at_)) :
    Calls Try.prog 32 #[.pointer (some ⟨g, 0, none⟩)] w fun e w' => e = .returned (.tuple #[.int .i64 v, .int .i64 0]) ∧ IsRd w' g A c xs (at_ + 1) ∧ w.grownBy w' (some g) := by
  rw [hv.out, ← num32_one xs at_ hr.bytes hn]
  exact byte_ok g A c xs at_ w hr hn

theorem name_bad (g : Nat) (A : Option Addr) (c : Nat) (xs : List Int) (at_ : Nat) (w : World) (hr : IsRd w g A c xs at_) (h : at_ + 1 ≤ xs.length) (hv : rd xs at_ = 0 ∨ 24 < rd xs at_) :
    Calls Try.prog 38 #[.pointer (some ⟨g, 0, none⟩)] w fun e w' => e = .returned (.tuple #[.string ⟨#[]⟩, .int .i64 6]) ∧ IsRd w' g A c xs at_ ∧ w.grownBy w' (some g) := by
  have HR := Lib.hid hr
  have c1 : w.cell? ⟨g, 1, none⟩ = some (.int .i64 at_) := (blk_cell hr.blk 1).trans rfl
  have ha := hr.atl
  obtain ⟨v, ev⟩ : ∃ v, v = rd xs at_ := ⟨_, rfl⟩
  have hb := rd_byte xs at_ hr.bytes
  rw [← ev] at hv hb
  have EV := Lib.hid ev
  clear hr ev
  rcases hv with hv | hv
  · have hv0 : (v == 0) = true := by simp [hv]
    clear hv
    go_enter Try.func38, Try.ntmps38
    go_wp2_with (first | (go_at_call 42; refine (ready_yes g _ _ _ HR.out.blk).mono ?_; rintro e w' ⟨rfl, rfl⟩) | (go_at_call 32; refine (byte_ok' g A c xs at_ _ HR.out h v EV).mono ?_; rintro e w1 ⟨rfl, hr1, hg1⟩; have d1 : w1.cell? ⟨g, 1, none⟩ = some (.int .i64 (at_ + 1 : Nat)) := (blk_cell hr1.blk 1).trans rfl; have f1 : w1.frozen? ⟨g, 1, none⟩ = false := blk_frozen hr1.blk 1; have HR1 := Lib.hid hr1; have HG1 := Lib.hid hg1; clear hr1 hg1))
    go_ret2
    have := IsRd.step HR1.out (n := at_) ha (drawn_set w1 g 1 (.int .i64 at_) _ 0 0 rfl)
    exact ⟨rfl, this.1, grown_trans HG1.out this.2⟩
  · have hv0 : (v == 0) = false := by simp; omega
    go_enter Try.func38, Try.ntmps38
    go_wp2_with (first | (go_at_call 42; refine (ready_yes g _ _ _ HR.out.blk).mono ?_; rintro e w' ⟨rfl, rfl⟩) | (go_at_call 32; refine (byte_ok' g A c xs at_ _ HR.out h v EV).mono ?_; rintro e w1 ⟨rfl, hr1, hg1⟩; have d1 : w1.cell? ⟨g, 1, none⟩ = some (.int .i64 (at_ + 1 : Nat)) := (blk_cell hr1.blk 1).trans rfl; have f1 : w1.frozen? ⟨g, 1, none⟩ = false := blk_frozen hr1.blk 1; have HR1 := Lib.hid hr1; have HG1 := Lib.hid hg1; clear hr1 hg1))
    go_ret2
    have := IsRd.step HR1.out (n := at_) ha (drawn_set w1 g 1 (.int .i64 at_) _ 0 0 rfl)
    exact ⟨rfl, this.1, grown_trans HG1.out this.2⟩

theorem name_cut (g : Nat) (A : Option Addr) (c : Nat) (xs : List Int) (at_ : Nat) (w : World) (hr : IsRd w g A c xs at_) (h : at_ + 1 ≤ xs.length) (hv1 : ¬ rd xs at_ = 0) (hv2 : rd xs at_ ≤ 24) (hs : (xs.length : Int) < at_ + 1 + rd xs at_) :
    Calls Try.prog 38 #[.pointer (some ⟨g, 0, none⟩)] w fun e w' => e = .returned (.tuple #[.string ⟨#[]⟩, .int .i64 2]) ∧ IsRd w' g A c xs at_ ∧ w.grownBy w' (some g) := by
  have HR := Lib.hid hr
  have c1 : w.cell? ⟨g, 1, none⟩ = some (.int .i64 at_) := (blk_cell hr.blk 1).trans rfl
  have ha := hr.atl
  obtain ⟨v, ev⟩ : ∃ v, v = rd xs at_ := ⟨_, rfl⟩
  have hb := rd_byte xs at_ hr.bytes
  rw [← ev] at hv1 hv2 hb hs
  have EV := Lib.hid ev
  clear hr ev
  have hv0 : (v == 0) = false := by simp; omega
  clear hv1
  go_enter Try.func38, Try.ntmps38
  go_wp2_with (first | (go_at_call 42; refine (ready_yes g _ _ _ HR.out.blk).mono ?_; rintro e w' ⟨rfl, rfl⟩) | (go_at_call 32; refine (byte_ok' g A c xs at_ _ HR.out h v EV).mono ?_; rintro e w1 ⟨rfl, hr1, hg1⟩; have d1 : w1.cell? ⟨g, 1, none⟩ = some (.int .i64 (at_ + 1 : Nat)) := (blk_cell hr1.blk 1).trans rfl; have f1 : w1.frozen? ⟨g, 1, none⟩ = false := blk_frozen hr1.blk 1; have HR1 := Lib.hid hr1; have HG1 := Lib.hid hg1; clear hr1 hg1) | (go_at_call 62; refine (next_short g A c xs (at_ + 1) v _ HR1.out (by omega)).mono ?_; rintro e w2 ⟨rfl, ⟨nq, rfl⟩⟩))
  go_ret2
  have := IsRd.step HR1.out (n := at_) ha (drawn_set w1 g 1 (.int .i64 at_) _ nq 0 rfl)
  exact ⟨rfl, this.1, grown_trans HG1.out this.2⟩

theorem string_mid {w : World} {g : Nat} {A : Option Addr} {c : Nat} {xs : List Int} {at_ n : Nat} (h : IsRd w g A c xs (at_ + n)) (m : Nat) :
    (convert 22 9 (.slice (cutA A c at_) n (c - at_))).run Try.prog (w.drewN m) = .ok (.string (strOfNums (midL xs at_ n))) (w.drewN m) := by
  have hC := h.cut at_ (by omega)
  have hl := midL_len h.atl
  unfold U8C at hC
  rw [show ((xs.take (at_ + n)).drop at_).length = n from hl] at hC
  exact Kd.C_string Try.underlying22 Try.underlying5 Try.underlying9 (Kd.C_drewN hC m)

theorem name_read (g : Nat) (A : Option Addr) (c : Nat) (xs : List Int) (at_ : Nat) (w : World) (hr : IsRd w g A c xs at_) (h : at_ + 1 ≤ xs.length) (hv1 : ¬ rd xs at_ = 0) (hv2 : rd xs at_ ≤ 24) (n : Nat) (hn : rd xs at_ = n) (hs : at_ + 1 + n ≤ xs.length) (b : Bool) (hb : isNameB (strOfNums (midL xs (at_ + 1) n)) = b) :
    Calls Try.prog 38 #[.pointer (some ⟨g, 0, none⟩)] w fun e w' => e = .returned (.tuple #[.string (if b = true then strOfNums (midL xs (at_ + 1) n) else ⟨#[]⟩), .int .i64 (if b = true then 0 else 6)]) ∧ IsRd w' g A c xs (if b = true then at_ + 1 + n else at_) ∧ w.grownBy w' (some g) := by
  have HR := Lib.hid hr
  have c1 : w.cell? ⟨g, 1, none⟩ = some (.int .i64 at_) := (blk_cell hr.blk 1).trans rfl
  have ha := hr.atl
  have EV := Lib.hid (show (n : Int) = rd xs at_ from hn.symm)
  rw [hn] at hv1 hv2
  have hv0 : ((n : Int) == 0) = false := by simp; omega
  obtain ⟨st, est⟩ : ∃ st, st = strOfNums (midL xs (at_ + 1) n) := ⟨_, rfl⟩
  rw [← est] at hb
  rw [← est]
  have EST := Lib.hid est
  have HB := Lib.hid hb
  clear hr hv1 est hb hn
  cases b with
  | true =>
    simp only [if_true]
    go_enter Try.func38, Try.ntmps38
    go_wp2_with (first | (go_at_call 42; refine (ready_yes g _ _ _ HR.out.blk).mono ?_; rintro e w' ⟨rfl, rfl⟩) | (go_at_call 32; refine (byte_ok' g A c xs at_ _ HR.out h n EV).mono ?_; rintro e w1 ⟨rfl, hr1, hg1⟩; have HR1 := Lib.hid hr1; have HG1 := Lib.hid hg1; clear hr1 hg1) | (go_at_call 62; refine (next_ok g A c xs (at_ + 1) n _ HR1.out hs).mono ?_; rintro e w2 ⟨rfl, hr2, hg2⟩; have hcv := string_mid hr2; rw [← EST.out] at hcv; have hcv0 := hcv 0; have e0 : w2.drewN 0 = w2 := rfl; rw [e0] at hcv0; clear e0; have HR2 := Lib.hid hr2; have HG2 := Lib.hid hg2; clear hr2 hg2) | (go_at_call 63; refine (wire_isName_calls st _).mono ?_; rw [HB.out]; rintro e w3 ⟨rfl, ⟨nq, rfl⟩⟩))
    go_ret2
    exact ⟨rfl, HR2.out.drawn ⟨⟨nq, rfl⟩⟩, grown_drawn (grown_trans HG1.out HG2.out) ⟨⟨nq, rfl⟩⟩⟩
  | false =>
    simp only [Bool.false_eq_true, if_false]
    go_enter Try.func38, Try.ntmps38
    go_wp2_with (first | (go_at_call 42; refine (ready_yes g _ _ _ HR.out.blk).mono ?_; rintro e w' ⟨rfl, rfl⟩) | (go_at_call 32; refine (byte_ok' g A c xs at_ _ HR.out h n EV).mono ?_; rintro e w1 ⟨rfl, hr1, hg1⟩; have HR1 := Lib.hid hr1; have HG1 := Lib.hid hg1; clear hr1 hg1) | (go_at_call 62; refine (next_ok g A c xs (at_ + 1) n _ HR1.out hs).mono ?_; rintro e w2 ⟨rfl, hr2, hg2⟩; have hcv := string_mid hr2; rw [← EST.out] at hcv; have hcv0 := hcv 0; have e0 : w2.drewN 0 = w2 := rfl; rw [e0] at hcv0; clear e0; have d1 : w2.cell? ⟨g, 1, none⟩ = some (.int .i64 (at_ + 1 + n : Nat)) := (blk_cell hr2.blk 1).trans rfl; have f1 : w2.frozen? ⟨g, 1, none⟩ = false := blk_frozen hr2.blk 1; have HR2 := Lib.hid hr2; have HG2 := Lib.hid hg2; clear hr2 hg2) | (go_at_call 63; refine (wire_isName_calls st _).mono ?_; rw [HB.out]; rintro e w3 ⟨rfl, ⟨nq, rfl⟩⟩))
    go_ret2
    have := IsRd.step HR2.out (n := at_) ha (drawn_set w2 g 1 (.int .i64 at_) _ nq 0 rfl)
    exact ⟨rfl, this.1, grown_trans (grown_trans HG1.out HG2.out) this.2⟩

/-- Name, of any reader. -/
theorem name_any (g : Nat) (A : Option Addr) (c : Nat) (xs : List Int) (at_ : Nat) (w : World) (hr : IsRd w g A c xs at_) :
    Calls Try.prog 38 #[.pointer (some ⟨g, 0, none⟩)] w fun e w' => e = .returned (.tuple #[.string (nameOf xs at_).1, .int .i64 (nameOf xs at_).2.2]) ∧ IsRd w' g A c xs (nameOf xs at_).2.1 ∧ w.grownBy w' (some g) := by
  unfold nameOf
  by_cases h : xs.length ≤ at_
  · rw [if_pos h]; exact name_short g A c xs at_ w hr h
  · rw [if_neg h]
    by_cases hv : rd xs at_ = 0 ∨ 24 < rd xs at_
    · rw [if_pos hv]; exact name_bad g A c xs at_ w hr (by omega) hv
    · rw [if_neg hv]
      have hb := rd_byte xs at_ hr.bytes
      by_cases hs : xs.length < at_ + 1 + (rd xs at_).toNat
      · rw [if_pos hs]; exact name_cut g A c xs at_ w hr (by omega) (by omega) (by omega) (by omega)
      · rw [if_neg hs]
        have := name_read g A c xs at_ w hr (by omega) (by omega) (by omega) (rd xs at_).toNat (by omega) (by omega) _ rfl
        by_cases hi : isNameB (strOfNums (midL xs (at_ + 1) (rd xs at_).toNat)) = true
        · simp only [hi, if_true] at this ⊢; exact this
        · simp only [hi, if_false, Bool.false_eq_true] at this ⊢; exact this
end Go.Proofs.Ytgfjepjaccnkiaa
