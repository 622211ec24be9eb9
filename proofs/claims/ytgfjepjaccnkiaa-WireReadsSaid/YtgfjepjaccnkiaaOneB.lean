/- The walks of wire's reader, second part. -/
import Derived.Test.YtgfjepjaccnkiaaOneA
namespace Go.Proofs.Ytgfjepjaccnkiaa
open Mem Go.RowKit Go.Proofs.YtgfjepjaccnkiaaW.PrintWords Go.Proofs.YtgfjepjaccnkiaaW.PrintLast Go.Proofs.YtgfjepjaccnkiaaW.PrintMore

def u8row (xs : List Int) : Array Value := (xs.map (Value.int .u8)).toArray
theorem size5 : (Try.prog.info? 5).map (·.size) = some 1 := by kernel_rfl
theorem underlying71 : Try.prog.underlying 71 = Try.prog.underlying 71 := rfl

def overWorld (w : World) (xs : List Int) : World :=
  (w.alloc (.cells (u8row xs) 5)).alloc (.cells #[.slice (some ⟨w.heap.size, 0, none⟩) xs.length xs.length, .int .i64 0, .bool true] 71)

theorem over_any (A : Option Addr) (c n : Nat) (xs : List Int) (w : World) (hx : U8C w A xs) (hn : Hid (n = xs.length)) (hl : n ≤ 140737488355328) :
    Calls Try.prog 7 #[.slice A n c] w fun e w' => e = .returned (.pointer (some ⟨w.heap.size + 1, 0, none⟩)) ∧ overWorld w xs = w' := by
  have hmk := run_make_len (P := Try.prog) 22 5 (.int .u8 0) 1 Try.underlying22 info5 rfl n (by omega) (by omega) n rfl
  have hcp := run_copy_new (P := Try.prog) w 5 22 22 3 Try.underlying22 size5 A n c n (xs.map (Value.int .u8)) (by simp [hn.out]) (madeCells #[.int .u8 0] n) (size_madeCells _ _) (by rw [hn.out]; exact C_int_cells hx) (one_ints _ _)
  have HX := Lib.hid hx
  clear hx
  generalize madeCells #[.int .u8 0] n = zs at hmk hcp
  go_enter Try.func7, Try.ntmps7
  go_wp2
  go_ret
  exact ⟨rfl, by rw [overWorld, ← hn.out]; rfl⟩

theorem over_rd (w : World) (xs : List Int) (hm : xs.length ≤ 9223372036854775807) (hb : ∀ x ∈ xs, 0 ≤ x ∧ x ≤ 255) :
    IsRd (overWorld w xs) (w.heap.size + 1) (some ⟨w.heap.size, 0, none⟩) xs.length xs 0 ∧ Below w.heap.size w (overWorld w xs) := by
  refine ⟨⟨?_, Nat.le_refl _, Nat.zero_le _, ?_, hb, ?_⟩, ((Below.refl _ _).alloc (Nat.le_refl _) _).alloc (by simp) _⟩
  · have := heap_alloc_new (w.alloc (.cells (u8row xs) 5)) (.cells #[.slice (some ⟨w.heap.size, 0, none⟩) xs.length xs.length, .int .i64 0, .bool true] 71)
    simpa [overWorld] using this
  · refine Kd.C_alloc (C_int_of_blk (heap_alloc_new _ _) (fun j x hj => ?_) hm) _
    simp [u8row, hj]
  · intro ad had _
    injection had with had
    subst had
    simp

theorem take_neg (g : Nat) (A : Option Addr) (c : Nat) (xs : List Int) (at_ : Nat) (n : Int) (w : World) (hr : IsRd w g A c xs at_) (hn : n < 0) :
    Calls Try.prog 36 #[.pointer (some ⟨g, 0, none⟩), .int .i64 n] w fun e w' => e = .returned (.tuple #[.slice none 0 0, .int .i64 1]) ∧ Drawn0 w w' := by
  have HR := Lib.hid hr
  clear hr
  go_enter Try.func36, Try.ntmps36
  go_wp2_with (first | (go_at_call 62; refine (next_neg g A c xs at_ n _ HR.out hn).mono ?_; rintro e w' ⟨rfl, ⟨nq, rfl⟩⟩))
  go_ret2
  exact ⟨rfl, ⟨⟨_, rfl⟩⟩⟩
theorem take_short (g : Nat) (A : Option Addr) (c : Nat) (xs : List Int) (at_ : Nat) (n : Int) (w : World) (hr : IsRd w g A c xs at_) (hn : (xs.length : Int) - at_ < n) :
    Calls Try.prog 36 #[.pointer (some ⟨g, 0, none⟩), .int .i64 n] w fun e w' => e = .returned (.tuple #[.slice none 0 0, .int .i64 2]) ∧ Drawn0 w w' := by
  have HR := Lib.hid hr
  clear hr
  go_enter Try.func36, Try.ntmps36
  go_wp2_with (first | (go_at_call 62; refine (next_short g A c xs at_ n _ HR.out hn).mono ?_; rintro e w' ⟨rfl, ⟨nq, rfl⟩⟩))
  go_ret2
  exact ⟨rfl, ⟨⟨_, rfl⟩⟩⟩
theorem within_neg (g : Nat) (A : Option Addr) (c : Nat) (xs : List Int) (at_ : Nat) (n : Int) (w : World) (hr : IsRd w g A c xs at_) (hn : n < 0) :
    Calls Try.prog 40 #[.pointer (some ⟨g, 0, none⟩), .int .i64 n] w fun e w' => e = .returned (.tuple #[.pointer none, .int .i64 1]) ∧ Drawn0 w w' := by
  have HR := Lib.hid hr
  clear hr
  go_enter Try.func40, Try.ntmps40
  go_wp2_with (first | (go_at_call 62; refine (next_neg g A c xs at_ n _ HR.out hn).mono ?_; rintro e w' ⟨rfl, ⟨nq, rfl⟩⟩))
  go_ret2
  exact ⟨rfl, ⟨⟨_, rfl⟩⟩⟩
theorem within_short (g : Nat) (A : Option Addr) (c : Nat) (xs : List Int) (at_ : Nat) (n : Int) (w : World) (hr : IsRd w g A c xs at_) (hn : (xs.length : Int) - at_ < n) :
    Calls Try.prog 40 #[.pointer (some ⟨g, 0, none⟩), .int .i64 n] w fun e w' => e = .returned (.tuple #[.pointer none, .int .i64 2]) ∧ Drawn0 w w' := by
  have HR := Lib.hid hr
  clear hr
  go_enter Try.func40, Try.ntmps40
  go_wp2_with (first | (go_at_call 62; refine (next_short g A c xs at_ n _ HR.out hn).mono ?_; rintro e w' ⟨rfl, ⟨nq, rfl⟩⟩))
  go_ret2
  exact ⟨rfl, ⟨⟨_, rfl⟩⟩⟩

theorem copy_ys {w1 : World} {A : Option Addr} {n c : Nat} {ys : List Int} (HY : Hid (ys.length = n)) (HC : Hid (U8C w1 A ys)) (zs : Array Value) (hz : zs.size = n) :
    (Builtin.copy_ #[22, 22] 3 #[.slice (some ⟨w1.heap.size, 0, none⟩) n n, .slice A n c]).run Try.prog (w1.alloc (.cells zs 5)) = .ok (goInt n) (w1.alloc (.cells (u8row ys) 5)) :=
  run_copy_new (P := Try.prog) w1 5 22 22 3 Try.underlying22 size5 A n c n (ys.map (Value.int .u8)) (by simp [HY.out]) zs hz (by rw [← HY.out]; exact C_int_cells HC.out) (one_ints _ _)

theorem take_ok (g : Nat) (A : Option Addr) (c : Nat) (xs : List Int) (at_ : Nat) (n : Nat) (w : World) (hr : IsRd w g A c xs at_) (hn : at_ + n ≤ xs.length) (hl : n ≤ 140737488355328) (ys : List Int) (hys : Hid (ys = (xs.take (at_ + n)).drop at_)) :
    Calls Try.prog 36 #[.pointer (some ⟨g, 0, none⟩), .int .i64 n] w fun e w' => (∃ b, e = .returned (.tuple #[.slice (some ⟨b, 0, none⟩) n n, .int .i64 0]) ∧ U8C w' (some ⟨b, 0, none⟩) ys) ∧ IsRd w' g A c xs (at_ + n) ∧ w.grownBy w' (some g) := by
  have HR := Lib.hid hr
  have HY := Lib.hid (show ys.length = n by rw [hys.out]; simp; omega)
  clear hr
  have hmk := run_make_len (P := Try.prog) 22 5 (.int .u8 0) 1 Try.underlying22 info5 rfl n (by omega) (by omega) n rfl
  have hzs := Lib.hid (size_madeCells #[.int .u8 0] n)
  generalize madeCells #[.int .u8 0] n = zs at hmk hzs
  go_enter Try.func36, Try.ntmps36
  go_wp2_with (first | (go_at_call 62; refine (next_ok g A c xs at_ n _ HR.out hn).mono ?_; rintro e w1 ⟨rfl, hr1, hg1⟩; have HR1 := Lib.hid hr1; have HG1 := Lib.hid hg1; have HC := Lib.hid (show U8C w1 (cutA A c at_) ys by rw [hys.out]; exact hr1.cut at_ (by omega)); have hcp := copy_ys (c := c - at_) HY HC zs hzs.out; clear hr1 hg1))
  go_ret2
  have hb : Below w1.heap.size w1 (w1.alloc (.cells (u8row ys) 5)) := (Below.refl _ _).alloc (Nat.le_refl _) _
  exact ⟨⟨_, rfl, C_int_of_blk (heap_alloc_new _ _) (fun j x hj => by simp [u8row, hj]) (Kd.C_max HC.out)⟩, HR1.out.below hb, grown_below HG1.out hb⟩

theorem within_ok (g : Nat) (A : Option Addr) (c : Nat) (xs : List Int) (at_ : Nat) (n : Nat) (w : World) (hr : IsRd w g A c xs at_) (hn : at_ + n ≤ xs.length) (hl : n ≤ 140737488355328) (ys : List Int) (hys : Hid (ys = (xs.take (at_ + n)).drop at_)) :
    Calls Try.prog 40 #[.pointer (some ⟨g, 0, none⟩), .int .i64 n] w fun e w' => (∃ b, e = .returned (.tuple #[.pointer (some ⟨b, 0, none⟩), .int .i64 0]) ∧ w.heap.size ≤ b ∧ ∃ A2 c2, IsRd w' b A2 c2 ys 0 ∧ ∀ ad, A2 = some ad → w.heap.size ≤ ad.block ∧ ad.block < b) ∧ IsRd w' g A c xs (at_ + n) ∧ w.grownBy w' (some g) := by
  have HR := Lib.hid hr
  have HY := Lib.hid (show n = ys.length by rw [hys.out]; simp; omega)
  clear hr
  go_enter Try.func40, Try.ntmps40
  go_wp2_with (first | (go_at_call 62; refine (next_ok g A c xs at_ n _ HR.out hn).mono ?_; rintro e w1 ⟨rfl, hr1, hg1⟩; have HR1 := Lib.hid hr1; have HG1 := Lib.hid hg1; have HC := Lib.hid (show U8C w1 (cutA A c at_) ys by rw [hys.out]; exact hr1.cut at_ (by omega)); clear hr1 hg1) | (go_at_call 7; refine (over_any _ _ n ys _ HC.out HY hl).mono ?_; rintro e w2 ⟨rfl, rfl⟩))
  go_ret2
  have ho := over_rd w1 ys (by have := Kd.C_max HC.out; omega) (fun x hx => by rw [hys.out] at hx; exact HR.out.bytes x (List.mem_of_mem_take (List.mem_of_mem_drop hx)))
  exact ⟨⟨_, rfl, by have := HG1.out.size; omega, _, _, ho.1, fun ad h => by cases h; have := HG1.out.size; simp; omega⟩, HR1.out.below ho.2, grown_below HG1.out ho.2⟩

theorem end_yes (g : Nat) (A : Option Addr) (c : Nat) (xs : List Int) (at_ : Nat) (w : World) (hr : IsRd w g A c xs at_) :
    Calls Try.prog 41 #[.pointer (some ⟨g, 0, none⟩)] w fun e w' => e = .returned (.int .i64 (if at_ < xs.length then 3 else 0)) ∧ Drawn0 w w' := by
  have HB := Lib.hid hr.blk
  have h1 := hr.atl
  have h2 := Kd.C_max hr.rd
  clear hr
  by_cases hlt : at_ < xs.length
  · rw [if_pos hlt]
    go_enter Try.func41, Try.ntmps41
    go_wp2_with (first | (go_at_call 42; refine (ready_yes g _ _ _ HB.out).mono ?_; rintro e w' ⟨rfl, rfl⟩) | (go_at_call 12; refine (left_yes g A xs.length c at_ _ h1 h2 HB.out).mono ?_; rintro e w' ⟨rfl, ⟨nq, rfl⟩⟩))
    go_ret
    exact ⟨rfl, ⟨⟨_, rfl⟩⟩⟩
  · rw [if_neg hlt]
    go_enter Try.func41, Try.ntmps41
    go_wp2_with (first | (go_at_call 42; refine (ready_yes g _ _ _ HB.out).mono ?_; rintro e w' ⟨rfl, rfl⟩) | (go_at_call 12; refine (left_yes g A xs.length c at_ _ h1 h2 HB.out).mono ?_; rintro e w' ⟨rfl, ⟨nq, rfl⟩⟩))
    go_ret
    exact ⟨rfl, ⟨⟨_, rfl⟩⟩⟩

end Go.Proofs.Ytgfjepjaccnkiaa
