/- provisoref01.Name; the contracts of the reference's three calls in one form. -/
import Derived.Test.YtgfjepjaccnkiaaOneD
namespace Go.Proofs.Ytgfjepjaccnkiaa
open Mem Go.RowKit Go.Proofs.YtgfjepjaccnkiaaW.PrintWords Go.Proofs.YtgfjepjaccnkiaaW.PrintLast Go.Proofs.YtgfjepjaccnkiaaW.PrintMore PWireReads

theorem below_round {w w2 : World} {m n : Nat} (h : Below (w.drewN m).heap.size (w.drewN m) w2) : Below w.heap.size w (w2.drewN n) := ⟨h.os, h.tape, h.output, h.size, h.block⟩
theorem below_drawn {w w' : World} (h : Drawn0 w w') : Below w.heap.size w w' := h.below
theorem refNum_short_c (A : Option Addr) (c : Nat) (xs : List Int) (at_ n : Nat) (w : World) (hx : U8C w A xs) (hc : xs.length ≤ c) (hm : xs.length ≤ 140737488355000) (ha : at_ ≤ xs.length) (h : xs.length < at_ + n) :
    Calls Try.prog 33 #[.slice A xs.length c, .int .i64 at_, .int .i64 n] w fun e w' => e = .returned (.tuple #[.int .i64 0, .int .i64 at_, .int .i64 2]) ∧ Drawn0 w w' :=
  provisoref01_Number.calls 0 A c xs at_ n 0 at_ 2 w hx hc (refNumber_short xs at_ n (by omega) ha h)
theorem refNum_ok_c (A : Option Addr) (c : Nat) (xs : List Int) (at_ n : Nat) (w : World) (hx : U8C w A xs) (hc : xs.length ≤ c) (hm : xs.length ≤ 140737488355000) (hb : ∀ x ∈ xs, 0 ≤ x ∧ x ≤ 255) (h : at_ + n ≤ xs.length) (hn : n ≤ 4) :
    Calls Try.prog 33 #[.slice A xs.length c, .int .i64 at_, .int .i64 n] w fun e w' => e = .returned (.tuple #[.int .i64 (numOf xs at_ n), .int .i64 ((at_ + n : Nat) : Int), .int .i64 0]) ∧ Drawn0 w w' := by
  obtain ⟨k, hk⟩ := refNumber_ok xs at_ n (by omega) hb h hn
  exact provisoref01_Number.calls k A c xs at_ n _ _ _ w hx hc hk

def Fresh8 (w w' : World) (v : Value) (ys : List Int) : Prop := Kd.R (Kd.int .u8) 5 w' w.heap.size (fun _ => True) v ys
theorem refTake_neg_c (A : Option Addr) (c : Nat) (xs : List Int) (at_ : Nat) (n : Int) (w : World) (hx : U8C w A xs) (hc : xs.length ≤ c) (h : n < 0) :
    Calls Try.prog 37 #[.slice A xs.length c, .int .i64 at_, .int .i64 n] w fun e w' => ∃ v, e = .returned (.tuple #[v, .int .i64 at_, .int .i64 1]) ∧ Fresh8 w w' v [] ∧ Below w.heap.size w w' :=
  provisoref01_Take.calls 0 A c xs at_ n _ _ _ w hx hc (refTake_neg xs at_ n h)
theorem refTake_short_c (A : Option Addr) (c : Nat) (xs : List Int) (at_ : Nat) (n : Int) (w : World) (hx : U8C w A xs) (hc : xs.length ≤ c) (hm : xs.length ≤ 140737488355000) (ha : at_ ≤ xs.length) (h0 : 0 ≤ n) (h : (xs.length : Int) - at_ < n) :
    Calls Try.prog 37 #[.slice A xs.length c, .int .i64 at_, .int .i64 n] w fun e w' => ∃ v, e = .returned (.tuple #[v, .int .i64 at_, .int .i64 2]) ∧ Fresh8 w w' v [] ∧ Below w.heap.size w w' :=
  provisoref01_Take.calls 0 A c xs at_ n _ _ _ w hx hc (refTake_short xs at_ n (by omega) h0 ha h)
theorem refTake_ok_c (A : Option Addr) (c : Nat) (xs : List Int) (at_ n : Nat) (w : World) (hx : U8C w A xs) (hc : xs.length ≤ c) (hm : xs.length ≤ 140737488355000) (h : at_ + n ≤ xs.length) :
    Calls Try.prog 37 #[.slice A xs.length c, .int .i64 at_, .int .i64 n] w fun e w' => ∃ v, e = .returned (.tuple #[v, .int .i64 ((at_ + n : Nat) : Int), .int .i64 0]) ∧ Fresh8 w w' v (midL xs at_ n) ∧ Below w.heap.size w w' := by
  obtain ⟨k, hk⟩ := refTake_ok xs at_ n hm h
  exact provisoref01_Take.calls k A c xs at_ n _ _ _ w hx hc hk

theorem fresh_string {w w' : World} {v : Value} {ys : List Int} (h : Fresh8 w w' v ys) (m : Nat) : (convert 22 9 v).run Try.prog (w'.drewN m) = .ok (.string (strOfNums ys)) (w'.drewN m) := by
  obtain ⟨A, c, e, hc, hC⟩ := Kd.Q_reads (Kd.Q_of_R h)
  rw [e]
  exact Kd.C_string Try.underlying22 Try.underlying5 Try.underlying9 (Kd.C_drewN hC m)

theorem refNum1 (A : Option Addr) (c : Nat) (xs : List Int) (at_ : Nat) (w : World) (hx : U8C w A xs) (hc : xs.length ≤ c) (hm : xs.length ≤ 140737488355000) (hb : ∀ x ∈ xs, 0 ≤ x ∧ x ≤ 255) (h : at_ + 1 ≤ xs.length) (v : Int) (hv : Hid (v = rd xs at_)) (one : Int) (h1 : one = 1) :
    Calls Try.prog 33 #[.slice A xs.length c, .int .i64 at_, .int .i64 one] w fun e w' => e = .returned (.tuple #[.int .i64 v, .int .i64 ((at_ + 1 : Nat) : Int), .int .i64 0]) ∧ Drawn0 w w' := by
  have := refNum_ok_c A c xs at_ 1 w hx hc hm hb h (by omega)
  rw [numOf, if_neg (by omega), num32_one xs at_ hb h, ← hv.out] at this
  subst h1
  exact this

theorem refName_short (A : Option Addr) (c : Nat) (xs : List Int) (at_ : Nat) (w : World) (hx : U8C w A xs) (hc : xs.length ≤ c) (hm : xs.length ≤ 140737488355000) (ha : at_ ≤ xs.length) (h : xs.length ≤ at_) :
    Calls Try.prog 39 #[.slice A xs.length c, .int .i64 at_] w fun e w' => e = .returned (.tuple #[.string ⟨#[]⟩, .int .i64 at_, .int .i64 2]) ∧ Below w.heap.size w w' := by
  have HX := Lib.hid hx
  clear hx
  go_enter Try.func39, Try.ntmps39
  go_wp2_with (first | (go_at_call 33; refine (refNum_short_c A c xs at_ 1 _ HX.out hc hm ha (by omega)).mono ?_; rintro e w' ⟨rfl, ⟨nq, rfl⟩⟩))
  go_ret3
  exact ⟨rfl, below_drawn ⟨⟨_, rfl⟩⟩⟩

theorem refName_bad (A : Option Addr) (c : Nat) (xs : List Int) (at_ : Nat) (w : World) (hx : U8C w A xs) (hc : xs.length ≤ c) (hm : xs.length ≤ 140737488355000) (hb : ∀ x ∈ xs, 0 ≤ x ∧ x ≤ 255) (h : at_ + 1 ≤ xs.length) (hv : rd xs at_ = 0 ∨ 24 < rd xs at_) :
    Calls Try.prog 39 #[.slice A xs.length c, .int .i64 at_] w fun e w' => e = .returned (.tuple #[.string ⟨#[]⟩, .int .i64 at_, .int .i64 6]) ∧ Below w.heap.size w w' := by
  have HX := Lib.hid hx
  have HBY := Lib.hid hb
  obtain ⟨v, ev⟩ : ∃ v, v = rd xs at_ := ⟨_, rfl⟩
  have hb := rd_byte xs at_ hb
  rw [← ev] at hv hb
  have EV := Lib.hid ev
  clear hx ev
  rcases hv with hv | hv
  · have hv0 : (v == 0) = true := by simp [hv]
    clear hv
    go_enter Try.func39, Try.ntmps39
    go_wp2_with (first | (go_at_call 33; refine (refNum1 A c xs at_ _ HX.out hc hm HBY.out h v EV _ rfl).mono ?_; rintro e w' ⟨rfl, ⟨nq, rfl⟩⟩))
    go_ret3
    exact ⟨rfl, below_drawn ⟨⟨_, rfl⟩⟩⟩
  · have hv0 : (v == 0) = false := by simp; omega
    go_enter Try.func39, Try.ntmps39
    go_wp2_with (first | (go_at_call 33; refine (refNum1 A c xs at_ _ HX.out hc hm HBY.out h v EV _ rfl).mono ?_; rintro e w' ⟨rfl, ⟨nq, rfl⟩⟩))
    go_ret3
    exact ⟨rfl, below_drawn ⟨⟨_, rfl⟩⟩⟩

theorem refName_cut (A : Option Addr) (c : Nat) (xs : List Int) (at_ : Nat) (w : World) (hx : U8C w A xs) (hc : xs.length ≤ c) (hm : xs.length ≤ 140737488355000) (hb : ∀ x ∈ xs, 0 ≤ x ∧ x ≤ 255) (h : at_ + 1 ≤ xs.length) (hv1 : ¬ rd xs at_ = 0) (hv2 : rd xs at_ ≤ 24) (hs : (xs.length : Int) < at_ + 1 + rd xs at_) :
    Calls Try.prog 39 #[.slice A xs.length c, .int .i64 at_] w fun e w' => e = .returned (.tuple #[.string ⟨#[]⟩, .int .i64 at_, .int .i64 2]) ∧ Below w.heap.size w w' := by
  have HX := Lib.hid hx
  have HBY := Lib.hid hb
  obtain ⟨v, ev⟩ : ∃ v, v = rd xs at_ := ⟨_, rfl⟩
  have hb := rd_byte xs at_ hb
  rw [← ev] at hv1 hv2 hb hs
  have EV := Lib.hid ev
  clear hx ev
  have hv0 : (v == 0) = false := by simp; omega
  clear hv1
  go_enter Try.func39, Try.ntmps39
  go_wp2_with (first | (go_at_call 33; refine (refNum1 A c xs at_ _ HX.out hc hm HBY.out h v EV _ rfl).mono ?_; rintro e w' ⟨rfl, ⟨nq, rfl⟩⟩) | (go_at_call 37; refine (refTake_short_c A c xs (at_ + 1) v _ (Kd.C_drewN HX.out _) hc hm h (by omega) (by omega)).mono ?_; rintro e w2 ⟨v2, rfl, hf, hb2⟩; have HF := Lib.hid hf; have HB2 := Lib.hid hb2; clear hf hb2))
  go_ret3
  exact ⟨rfl, (below_drawn ⟨⟨_, rfl⟩⟩).trans (by exact HB2.out)⟩

theorem refName_read (A : Option Addr) (c : Nat) (xs : List Int) (at_ : Nat) (w : World) (hx : U8C w A xs) (hc : xs.length ≤ c) (hm : xs.length ≤ 140737488355000) (hb : ∀ x ∈ xs, 0 ≤ x ∧ x ≤ 255) (h : at_ + 1 ≤ xs.length) (hv1 : ¬ rd xs at_ = 0) (hv2 : rd xs at_ ≤ 24) (n : Nat) (hn : rd xs at_ = n) (hs : at_ + 1 + n ≤ xs.length) (b : Bool) (hib : isNameB (strOfNums (midL xs (at_ + 1) n)) = b) :
    Calls Try.prog 39 #[.slice A xs.length c, .int .i64 at_] w fun e w' => e = .returned (.tuple #[.string (if b = true then strOfNums (midL xs (at_ + 1) n) else ⟨#[]⟩), .int .i64 ((if b = true then at_ + 1 + n else at_ : Nat) : Int), .int .i64 (if b = true then 0 else 6)]) ∧ Below w.heap.size w w' := by
  have HX := Lib.hid hx
  have HBY := Lib.hid hb
  have EV := Lib.hid (show (n : Int) = rd xs at_ from hn.symm)
  rw [hn] at hv1 hv2
  have hv0 : ((n : Int) == 0) = false := by simp; omega
  obtain ⟨st, est⟩ : ∃ st, st = strOfNums (midL xs (at_ + 1) n) := ⟨_, rfl⟩
  rw [← est] at hib
  rw [← est]
  have EST := Lib.hid est
  have HB := Lib.hid hib
  clear hv1 est hib hn hb hx
  cases b with
  | true =>
    simp only [if_true]
    go_enter Try.func39, Try.ntmps39
    go_wp2_with (first | (go_at_call 33; refine (refNum1 A c xs at_ _ HX.out hc hm HBY.out h n EV _ rfl).mono ?_; rintro e w' ⟨rfl, ⟨nq, rfl⟩⟩) | (go_at_call 37; refine (refTake_ok_c A c xs (at_ + 1) n _ (Kd.C_drewN HX.out _) hc hm hs).mono ?_; rintro e w2 ⟨v2, rfl, hf, hb2⟩; have hcv := fresh_string hf; rw [← EST.out] at hcv; have hcv0 := hcv 0; have e0 : w2.drewN 0 = w2 := rfl; rw [e0] at hcv0; clear e0; have HF := Lib.hid hf; have HB2 := Lib.hid hb2; clear hf hb2) | (go_at_call 64; refine (ref_isName_calls st _).mono ?_; rw [HB.out]; rintro e w3 ⟨rfl, ⟨nq2, rfl⟩⟩))
    go_ret3
    exact ⟨rfl, below_round HB2.out⟩
  | false =>
    simp only [Bool.false_eq_true, if_false]
    go_enter Try.func39, Try.ntmps39
    go_wp2_with (first | (go_at_call 33; refine (refNum1 A c xs at_ _ HX.out hc hm HBY.out h n EV _ rfl).mono ?_; rintro e w' ⟨rfl, ⟨nq, rfl⟩⟩) | (go_at_call 37; refine (refTake_ok_c A c xs (at_ + 1) n _ (Kd.C_drewN HX.out _) hc hm hs).mono ?_; rintro e w2 ⟨v2, rfl, hf, hb2⟩; have hcv := fresh_string hf; rw [← EST.out] at hcv; have hcv0 := hcv 0; have e0 : w2.drewN 0 = w2 := rfl; rw [e0] at hcv0; clear e0; have HF := Lib.hid hf; have HB2 := Lib.hid hb2; clear hf hb2) | (go_at_call 64; refine (ref_isName_calls st _).mono ?_; rw [HB.out]; rintro e w3 ⟨rfl, ⟨nq2, rfl⟩⟩))
    go_ret3
    exact ⟨rfl, below_round HB2.out⟩

theorem refName_any (A : Option Addr) (c : Nat) (xs : List Int) (at_ : Nat) (w : World) (hx : U8C w A xs) (hc : xs.length ≤ c) (hm : xs.length ≤ 140737488355000) (hb : ∀ x ∈ xs, 0 ≤ x ∧ x ≤ 255) (ha : at_ ≤ xs.length) :
    Calls Try.prog 39 #[.slice A xs.length c, .int .i64 at_] w fun e w' => e = .returned (.tuple #[.string (nameOf xs at_).1, .int .i64 (nameOf xs at_).2.1, .int .i64 (nameOf xs at_).2.2]) ∧ Below w.heap.size w w' := by
  unfold nameOf
  by_cases h : xs.length ≤ at_
  · rw [if_pos h]; exact refName_short A c xs at_ w hx hc hm ha h
  · rw [if_neg h]
    by_cases hv : rd xs at_ = 0 ∨ 24 < rd xs at_
    · rw [if_pos hv]; exact refName_bad A c xs at_ w hx hc hm hb (by omega) hv
    · rw [if_neg hv]
      have hbb := rd_byte xs at_ hb
      by_cases hs : xs.length < at_ + 1 + (rd xs at_).toNat
      · rw [if_pos hs]; exact refName_cut A c xs at_ w hx hc hm hb (by omega) (by omega) (by omega) (by omega)
      · rw [if_neg hs]
        have := refName_read A c xs at_ w hx hc hm hb (by omega) (by omega) (by omega) (rd xs at_).toNat (by omega) (by omega) _ rfl
        by_cases hi : isNameB (strOfNums (midL xs (at_ + 1) (rd xs at_).toNat)) = true
        · simp only [hi, if_true] at this ⊢; exact this
        · simp only [hi, if_false, Bool.false_eq_true] at this ⊢; exact this
end Go.Proofs.Ytgfjepjaccnkiaa
