/- The walks of wire's reader, one contract a function. -/
import Derived.Test.YtgfjepjaccnkiaaPWireReadsx1
import Derived.Test.YtgfjepjaccnkiaaPWireReadsx2
import Derived.WalkKit
import Derived.WalkSpells
import Derived.WalkLawsBesides
import Derived.Deep.QuietTactic
import Derived.BigQuiet
import Derived.Lib.Hide
import Derived.Handy
import Derived.Test.YtgfjepjaccnkiaaMem
namespace Go.Proofs.Ytgfjepjaccnkiaa
open Mem Go.RowKit Go.Proofs.YtgfjepjaccnkiaaW.PrintWords Go.Proofs.YtgfjepjaccnkiaaW.PrintLast Go.Proofs.YtgfjepjaccnkiaaW.PrintMore

abbrev U8C (w : World) (A : Option Addr) (xs : List Int) : Prop := Kd.C (Kd.int .u8) w A xs.length xs

def cutA (A : Option Addr) (c n : Nat) : Option Addr := if c = n then A else A.map (·.add n)

/-- A reader's block: its bytes lie in another one. -/
structure IsRd (w : World) (g : Nat) (A : Option Addr) (c : Nat) (xs : List Int) (at_ : Nat) : Prop where
  blk : w.heap[g]? = some (.cells #[.slice A xs.length c, .int .i64 at_, .bool true] 71 (0, 0))
  cap : xs.length ≤ c
  atl : at_ ≤ xs.length
  rd : U8C w A xs
  bytes : ∀ x ∈ xs, 0 ≤ x ∧ x ≤ 255
  ne : ∀ ad, A = some ad → 0 < xs.length → ad.block ≠ g

theorem keep_of_grown {w w' : World} {g : Nat} (h : w.grownBy w' (some g)) : KeepBut w w' g none :=
  ⟨h.size, fun i hi hne _ => h.block i hi (by simpa using hne)⟩
theorem grown_refl (w : World) (r : Option Nat) : w.grownBy w r := ⟨rfl, rfl, rfl, Nat.le_refl _, fun _ _ _ => rfl⟩
theorem grown_set (w : World) (g i : Nat) (v : Value) : w.grownBy (w.setCell ⟨g, i, none⟩ v) (some g) :=
  ⟨rfl, rfl, rfl, by simp [World.setCell], fun k _ hk => Below.heap_setCell _ _ _ _ (by simpa using hk)⟩
theorem grown_drawn {w w1 w2 : World} {r : Option Nat} (h : w.grownBy w1 r) (d : Drawn0 w1 w2) : w.grownBy w2 r := by
  obtain ⟨n, rfl⟩ := d.out
  exact ⟨h.os, h.tape, h.output, h.size, h.block⟩
theorem grown_trans {w w1 w2 : World} {r : Option Nat} (h : w.grownBy w1 r) (k : w1.grownBy w2 r) : w.grownBy w2 r :=
  ⟨k.os.trans h.os, k.tape.trans h.tape, k.output.trans h.output, Nat.le_trans h.size k.size, fun i hi hr => (k.block i (Nat.lt_of_lt_of_le hi h.size) hr).trans (h.block i hi hr)⟩
theorem grown_below {w w1 w2 : World} {r : Option Nat} (h : w.grownBy w1 r) (k : Below w1.heap.size w1 w2) : w.grownBy w2 r :=
  grown_trans h (grown_of_below k r)

theorem drawn_set (w : World) (g i : Nat) (u v : Value) (a b : Nat) (e : u = v) : Drawn0 (w.setCell ⟨g, i, none⟩ v) (((w.drewN a).setCell ⟨g, i, none⟩ u).drewN b) := by
  subst e
  exact Drawn0.step (w' := (w.drewN a).setCell ⟨g, i, none⟩ u) ⟨⟨a, rfl⟩⟩ b

theorem IsRd.drawn {w w' : World} {g : Nat} {A : Option Addr} {c : Nat} {xs : List Int} {at_ : Nat} (h : IsRd w g A c xs at_) (d : Drawn0 w w') : IsRd w' g A c xs at_ := by
  obtain ⟨n, rfl⟩ := d.out
  exact ⟨h.blk, h.cap, h.atl, Kd.C_drewN h.rd _, h.bytes, h.ne⟩
theorem IsRd.below {w w' : World} {g : Nat} {A : Option Addr} {c : Nat} {xs : List Int} {at_ : Nat} (h : IsRd w g A c xs at_) (d : Below w.heap.size w w') : IsRd w' g A c xs at_ :=
  ⟨(d.block g (blk_lt h.blk)).trans h.blk, h.cap, h.atl, Kd.C_below h.rd d, h.bytes, h.ne⟩
theorem IsRd.step {w w' : World} {g : Nat} {A : Option Addr} {c : Nat} {xs : List Int} {at_ : Nat} (h : IsRd w g A c xs at_) {n : Nat} (hn : n ≤ xs.length)
    (d : Drawn0 (w.setCell ⟨g, 1, none⟩ (.int .i64 n)) w') : IsRd w' g A c xs n ∧ w.grownBy w' (some g) := by
  have hg := grown_drawn (grown_set w g 1 (.int .i64 n)) d
  refine ⟨⟨?_, h.cap, hn, ?_, h.bytes, h.ne⟩, hg⟩
  · obtain ⟨m, rfl⟩ := d.out
    exact (blk_set h.blk 1 (.int .i64 n)).trans rfl
  · exact Kd.C_keep 0 h.rd (keep_of_grown hg) h.ne
theorem IsRd.cut {w : World} {g : Nat} {A : Option Addr} {c : Nat} {xs : List Int} {at_ : Nat} (h : IsRd w g A c xs at_) (n : Nat) (hn : n ≤ at_) : U8C w (cutA A c n) ((xs.take at_).drop n) := by
  have := Kd.C_mid (k := Kd.int .u8) h.rd hn h.atl h.cap
  have e : (Kd.int IntKind.u8).sz = 1 := rfl
  rw [e, Nat.mul_one] at this
  exact this

theorem info5 : (Try.prog.info? 5).map (fun i => (i.zero, i.size, i.bytes)) = some (some (.int .u8 0), 1, 1) := by kernel_rfl
theorem cut_u8 (A : Option Addr) (n c lo hi : Nat) (h1 : lo ≤ hi) (h2 : hi ≤ n) (hc : n ≤ c) (l h : Int) (el : l = lo) (eh : h = hi) :
    ∀ W : World, (Instr.slice 22 (.slice A n c) (some (.int .i64 l)) (some (.int .i64 h)) none).run Try.prog W = .ok (.slice (cutA A c lo) (hi - lo) (c - lo)) W := by
  subst el; subst eh
  obtain ⟨i0, hi0, hz0, hz1, hz2⟩ := info_parts info5
  intro W
  have := cut_mid (P := Try.prog) 22 5 .i64 .i64 Try.underlying22 hi0 1 hz1 A n c lo hi (by omega) (by omega) (by omega) hc W
  simpa [cutA] using this

theorem ready_yes (g : Nat) (v u : Value) (w : World) (hb : w.heap[g]? = some (.cells #[v, u, .bool true] 71 (0, 0))) :
    Calls Try.prog 42 #[.pointer (some ⟨g, 0, none⟩)] w fun e w' => e = .returned (.bool true) ∧ w = w' := by
  have c2 : w.cell? ⟨g, 2, none⟩ = some (.bool true) := (blk_cell hb 2).trans rfl
  go_enter Try.func42, Try.ntmps42
  go_wp2
  go_ret
  exact ⟨rfl, rfl⟩

theorem at_yes (g : Nat) (v : Value) (n : Int) (w : World) (hb : w.heap[g]? = some (.cells #[v, .int .i64 n, .bool true] 71 (0, 0))) :
    Calls Try.prog 11 #[.pointer (some ⟨g, 0, none⟩)] w fun e w' => e = .returned (.int .i64 n) ∧ w = w' := by
  have c1 : w.cell? ⟨g, 1, none⟩ = some (.int .i64 n) := (blk_cell hb 1).trans rfl
  have HB := Lib.hid hb
  clear hb
  go_enter Try.func11, Try.ntmps11
  go_wp2_with (go_at_call 42; refine (ready_yes g _ _ _ HB.out).mono ?_; rintro e w' ⟨rfl, rfl⟩)
  go_ret
  exact ⟨rfl, rfl⟩

theorem left_yes (g : Nat) (A : Option Addr) (l c : Nat) (n : Nat) (w : World) (hn : n ≤ l) (hl : l ≤ 9223372036854775807) (hb : w.heap[g]? = some (.cells #[.slice A l c, .int .i64 n, .bool true] 71 (0, 0))) :
    Calls Try.prog 12 #[.pointer (some ⟨g, 0, none⟩)] w fun e w' => e = .returned (.int .i64 ((l : Int) - n)) ∧ Drawn0 w w' := by
  have c0 : w.cell? ⟨g, 0, none⟩ = some (.slice A l c) := (blk_cell hb 0).trans rfl
  have c1 : w.cell? ⟨g, 1, none⟩ = some (.int .i64 n) := (blk_cell hb 1).trans rfl
  have HB := Lib.hid hb
  clear hb
  have hw : IntKind.i64.wrap ((l : Int) - (n : Int)) = (l : Int) - n := IntWalk.i64_in _ (by omega)
  go_enter Try.func12, Try.ntmps12
  go_wp2_with (go_at_call 42; refine (ready_yes g _ _ _ HB.out).mono ?_; rintro e w' ⟨rfl, rfl⟩)
  go_quiet (fail)
  go_wp2
  go_ret
  exact ⟨rfl, ⟨⟨_, rfl⟩⟩⟩

theorem next_neg (g : Nat) (A : Option Addr) (c : Nat) (xs : List Int) (at_ : Nat) (n : Int) (w : World) (hr : IsRd w g A c xs at_) (hn : n < 0) :
    Calls Try.prog 62 #[.pointer (some ⟨g, 0, none⟩), .int .i64 n] w fun e w' => e = .returned (.tuple #[.slice none 0 0, .int .i64 1]) ∧ Drawn0 w w' := by
  have HB := Lib.hid hr.blk
  clear hr
  go_enter Try.func62, Try.ntmps62
  go_wp2_with (first | (go_at_call 42; refine (ready_yes g _ _ _ HB.out).mono ?_; rintro e w' ⟨rfl, rfl⟩))
  go_ret2
  exact ⟨rfl, Drawn0.refl _⟩

theorem next_short (g : Nat) (A : Option Addr) (c : Nat) (xs : List Int) (at_ : Nat) (n : Int) (w : World) (hr : IsRd w g A c xs at_) (hn : (xs.length : Int) - at_ < n) :
    Calls Try.prog 62 #[.pointer (some ⟨g, 0, none⟩), .int .i64 n] w fun e w' => e = .returned (.tuple #[.slice none 0 0, .int .i64 2]) ∧ Drawn0 w w' := by
  have HB := Lib.hid hr.blk
  have h1 := hr.atl
  have h2 := Kd.C_max hr.rd
  clear hr
  have h0 : ¬ n < 0 := by omega
  go_enter Try.func62, Try.ntmps62
  go_wp2_with (first | (go_at_call 42; refine (ready_yes g _ _ _ HB.out).mono ?_; rintro e w' ⟨rfl, rfl⟩) | (go_at_call 12; refine (left_yes g A xs.length c at_ _ h1 h2 HB.out).mono ?_; rintro e w' ⟨rfl, ⟨nq, rfl⟩⟩))
  go_ret2
  exact ⟨rfl, ⟨⟨_, rfl⟩⟩⟩

theorem next_ok (g : Nat) (A : Option Addr) (c : Nat) (xs : List Int) (at_ : Nat) (n : Nat) (w : World) (hr : IsRd w g A c xs at_) (hn : at_ + n ≤ xs.length) :
    Calls Try.prog 62 #[.pointer (some ⟨g, 0, none⟩), .int .i64 n] w fun e w' => e = .returned (.tuple #[.slice (cutA A c at_) n (c - at_), .int .i64 0]) ∧ IsRd w' g A c xs (at_ + n) ∧ w.grownBy w' (some g) := by
  have HB := Lib.hid hr.blk
  have HR := Lib.hid hr
  have c0 : w.cell? ⟨g, 0, none⟩ = some (.slice A xs.length c) := (blk_cell hr.blk 0).trans rfl
  have c1 : w.cell? ⟨g, 1, none⟩ = some (.int .i64 at_) := (blk_cell hr.blk 1).trans rfl
  have f1 : w.frozen? ⟨g, 1, none⟩ = false := blk_frozen hr.blk 1
  have h1 := hr.atl
  have h2 := Kd.C_max hr.rd
  have h3 := hr.cap
  clear hr
  have h0 : ¬ (n : Int) < 0 := by omega
  go_enter Try.func62, Try.ntmps62
  go_wp2_with (first | (go_at_call 42; refine (ready_yes g _ _ _ HB.out).mono ?_; rintro e w' ⟨rfl, rfl⟩) | (go_at_call 12; refine (left_yes g A xs.length c at_ _ h1 h2 HB.out).mono ?_; rintro e w' ⟨rfl, ⟨nq, rfl⟩⟩))
  obtain ⟨w2, hw2⟩ : ∃ w2, w2 = (w.drewN nq).setCell ⟨g, 1, none⟩ (.int .i64 ((at_ : Int) + n)) := ⟨_, rfl⟩
  rw [← hw2]
  have d0 : w2.cell? ⟨g, 0, none⟩ = some (.slice A xs.length c) := by
    rw [hw2, World.cell?_setCell_other _ _ _ _ (by simp)]; exact c0
  have d1 : w2.cell? ⟨g, 1, none⟩ = some (.int .i64 ((at_ : Int) + n)) := by
    rw [hw2]; exact World.cell?_setCell_same _ _ _ (show (w.drewN nq).cell? ⟨g, 1, none⟩ = _ from c1)
  have HW := Lib.hid hw2
  clear hw2 c0 c1 f1
  have hwr : IntKind.i64.wrap (at_ : Int) = at_ := IntWalk.i64_in _ (by omega)
  have hwr2 : IntKind.i64.wrap ((at_ : Int) + n - n) = at_ := IntWalk.i64_in _ (by omega) |>.trans (by omega)
  have hsl := cut_u8 A xs.length c at_ (at_ + n) (by omega) hn h3 (at_ : Int) ((at_ : Int) + n) rfl (by omega)
  rw [show at_ + n - at_ = n from by omega] at hsl
  clear h1 h2 h3 hn
  go_quiet (fail)
  go_wp2
  go_ret2
  rw [HW.out]
  exact ⟨rfl, IsRd.step HR.out (n := at_ + n) (by omega) (drawn_set w _ _ _ _ _ _ rfl)⟩

/-- number: nothing is read where too little is left. -/
theorem number_short (g : Nat) (A : Option Addr) (c : Nat) (xs : List Int) (at_ : Nat) (n : Int) (w : World) (hr : IsRd w g A c xs at_) (hn : (xs.length : Int) - at_ < n) :
    Calls Try.prog 61 #[.pointer (some ⟨g, 0, none⟩), .int .i64 n] w fun e w' => e = .returned (.tuple #[.int .u32 0, .int .i64 2]) ∧ Drawn0 w w' := by
  have HR := Lib.hid hr
  clear hr
  go_enter Try.func61, Try.ntmps61
  go_wp2_with (first | (go_at_call 62; refine (next_short g A c xs at_ n _ HR.out hn).mono ?_; rintro e w' ⟨rfl, ⟨nq, rfl⟩⟩))
  go_rounds 1
  go_ret2
  exact ⟨rfl, ⟨⟨_, rfl⟩⟩⟩

def num32 (l : List Int) : Int := l.foldl (fun a c => (a * 256 + c) % 4294967296) 0
theorem num32_snoc (l : List Int) (k : Nat) (h : k < l.length) : num32 (l.take (k + 1)) = (num32 (l.take k) * 256 + rd l k) % 4294967296 := by
  have e : rd l k = l[k] := by simp [rd, h]
  rw [List.take_succ_eq_append_getElem h, num32, List.foldl_append, e]; rfl
theorem num32_bd (l : List Int) : 0 ≤ num32 l ∧ num32 l < 4294967296 := by
  rcases List.eq_nil_or_concat l with rfl | ⟨a, b, rfl⟩
  · simp [num32]
  · simp only [num32, List.concat_eq_append, List.foldl_append, List.foldl_cons, List.foldl_nil]; omega

theorem or_byte (x c : Int) (hx : 0 ≤ x ∧ x < 4294967296) (hc : 0 ≤ c ∧ c ≤ 255) : bits .or .u32 (x * 256 % 4294967296) c = (x * 256 + c) % 4294967296 := by
  obtain ⟨x, rfl⟩ := Int.eq_ofNat_of_zero_le hx.1
  obtain ⟨c, rfl⟩ := Int.eq_ofNat_of_zero_le hc.1
  rw [u32_or _ _ (by omega) (by omega) (by omega) (by omega)]
  have e1 : ((x : Int) * 256 % 4294967296).toNat = (x % 16777216) <<< 8 := by rw [Nat.shiftLeft_eq]; omega
  rw [e1, Int.toNat_natCast, ← Nat.shiftLeft_add_eq_or_of_lt (by omega), Nat.shiftLeft_eq]
  omega
theorem mid_bytes {xs : List Int} (h : ∀ x ∈ xs, 0 ≤ x ∧ x ≤ 255) (a b k : Nat) : 0 ≤ rd ((xs.take a).drop b) k ∧ rd ((xs.take a).drop b) k ≤ 255 := by
  unfold rd
  rw [List.getD_eq_getElem?_getD]
  cases e : ((xs.take a).drop b)[(k : Int).toNat]? with
  | none => simp
  | some v => exact h v (List.mem_of_mem_take (List.mem_of_mem_drop (List.mem_of_getElem? e)))

theorem number_ok (g : Nat) (A : Option Addr) (c : Nat) (xs : List Int) (at_ : Nat) (n : Nat) (w : World) (hr : IsRd w g A c xs at_) (hn : at_ + n ≤ xs.length) (ys : List Int) (hys : Hid (ys = (xs.take (at_ + n)).drop at_)) :
    Calls Try.prog 61 #[.pointer (some ⟨g, 0, none⟩), .int .i64 n] w fun e w' => e = .returned (.tuple #[.int .u32 (num32 ys), .int .i64 0]) ∧ IsRd w' g A c xs (at_ + n) ∧ w.grownBy w' (some g) := by
  have HR := Lib.hid hr
  have h2 := Kd.C_max hr.rd
  have HY := Lib.hid (show ys.length = n by rw [hys.out]; simp; omega)
  have HYB := Lib.hid (show ∀ k : Nat, 0 ≤ rd ys k ∧ rd ys k ≤ 255 from fun k => by rw [hys.out]; exact mid_bytes hr.bytes _ _ _)
  clear hr
  have hY1 : ys.length ≤ n := by have := HY.out; omega
  have hY2 : n ≤ ys.length := by have := HY.out; omega
  go_enter Try.func61, Try.ntmps61
  go_wp2_with (first | (go_at_call 62; refine (next_ok g A c xs at_ n _ HR.out hn).mono ?_; rintro e w' ⟨rfl, hr1, hg1⟩; have HR1 := Lib.hid hr1; have HG1 := Lib.hid hg1; clear hr1 hg1))
  have HC := Lib.hid (show U8C w' (cutA A c at_) ys by rw [hys.out]; exact HR1.out.cut at_ (by omega))
  generalize cutA A c at_ = A' at *
  go_loop [8, 19] (fun x i => ∃ k : Nat, k ≤ n ∧ i = .int .i64 k ∧ x = .int .u32 (num32 (ys.take k))) (fun _ i => n - (intOf i).toNat)
  case atStart => exact ⟨0, Nat.zero_le _, rfl, rfl⟩
  case round =>
    obtain ⟨k, hk, rfl, rfl⟩ := hrel
    by_cases hlt : k < n
    · obtain ⟨ad, rfl, hc⟩ := Kd.at_int HC.out (k : Int) (by omega) (by omega)
      rw [Int.toNat_natCast] at hc
      have hb := HYB.out k
      have hb2 := num32_bd (ys.take k)
      have HS := Lib.hid (num32_snoc ys k (by omega))
      go_wp2
      go_round
      case rel => exact ⟨k + 1, by omega, by go_num, by rw [or_byte _ _ hb2 hb, HS.out]⟩
      case measure => simp [intOf]; omega
    · have HS := Lib.hid (show num32 (ys.take k) = num32 ys by rw [List.take_of_length_le (by omega)])
      go_wp2
      go_ret2
      exact ⟨by rw [HS.out]; rfl, HR1.out, HG1.out⟩

theorem byte_short (g : Nat) (A : Option Addr) (c : Nat) (xs : List Int) (at_ : Nat) (w : World) (hr : IsRd w g A c xs at_) (hn : xs.length - at_ < 1) :
    Calls Try.prog 32 #[.pointer (some ⟨g, 0, none⟩)] w fun e w' => e = .returned (.tuple #[.int .i64 0, .int .i64 2]) ∧ Drawn0 w w' := by
  have HR := Lib.hid hr
  have ha := hr.atl
  clear hr
  go_enter Try.func32, Try.ntmps32
  go_wp2_with (first | (go_at_call 61; refine (number_short g A c xs at_ _ _ HR.out (by omega)).mono ?_; rintro e w' ⟨rfl, ⟨nq, rfl⟩⟩))
  go_ret2
  exact ⟨rfl, ⟨⟨_, rfl⟩⟩⟩
theorem word_short (g : Nat) (A : Option Addr) (c : Nat) (xs : List Int) (at_ : Nat) (w : World) (hr : IsRd w g A c xs at_) (hn : xs.length - at_ < 2) :
    Calls Try.prog 34 #[.pointer (some ⟨g, 0, none⟩)] w fun e w' => e = .returned (.tuple #[.int .i64 0, .int .i64 2]) ∧ Drawn0 w w' := by
  have HR := Lib.hid hr
  have ha := hr.atl
  clear hr
  go_enter Try.func34, Try.ntmps34
  go_wp2_with (first | (go_at_call 61; refine (number_short g A c xs at_ _ _ HR.out (by omega)).mono ?_; rintro e w' ⟨rfl, ⟨nq, rfl⟩⟩))
  go_ret2
  exact ⟨rfl, ⟨⟨_, rfl⟩⟩⟩
theorem long_short (g : Nat) (A : Option Addr) (c : Nat) (xs : List Int) (at_ : Nat) (w : World) (hr : IsRd w g A c xs at_) (hn : xs.length - at_ < 4) :
    Calls Try.prog 35 #[.pointer (some ⟨g, 0, none⟩)] w fun e w' => e = .returned (.tuple #[.int .i64 0, .int .i64 2]) ∧ Drawn0 w w' := by
  have HR := Lib.hid hr
  have ha := hr.atl
  clear hr
  go_enter Try.func35, Try.ntmps35
  go_wp2_with (first | (go_at_call 61; refine (number_short g A c xs at_ _ _ HR.out (by omega)).mono ?_; rintro e w' ⟨rfl, ⟨nq, rfl⟩⟩))
  go_ret2
  exact ⟨rfl, ⟨⟨_, rfl⟩⟩⟩
theorem byte_ok (g : Nat) (A : Option Addr) (c : Nat) (xs : List Int) (at_ : Nat) (w : World) (hr : IsRd w g A c xs at_) (hn : at_ + 1 ≤ xs.length) :
    Calls Try.prog 32 #[.pointer (some ⟨g, 0, none⟩)] w fun e w' => e = .returned (.tuple #[.int .i64 (num32 ((xs.take (at_ + 1)).drop at_)), .int .i64 0]) ∧ IsRd w' g A c xs (at_ + 1) ∧ w.grownBy w' (some g) := by
  have HR := Lib.hid hr
  clear hr
  obtain ⟨ys, hys⟩ : ∃ ys, ys = (xs.take (at_ + 1)).drop at_ := ⟨_, rfl⟩
  have HYS := Lib.hid hys
  rw [← hys]
  clear hys
  have hb := num32_bd ys
  go_enter Try.func32, Try.ntmps32
  go_wp2_with (first | (go_at_call 61; refine (number_ok g A c xs at_ 1 _ HR.out hn ys HYS).mono ?_; rintro e w' ⟨rfl, hr1, hg1⟩; have HR1 := Lib.hid hr1; have HG1 := Lib.hid hg1; clear hr1 hg1))
  go_ret2
  exact ⟨rfl, HR1.out, HG1.out⟩
theorem word_ok (g : Nat) (A : Option Addr) (c : Nat) (xs : List Int) (at_ : Nat) (w : World) (hr : IsRd w g A c xs at_) (hn : at_ + 2 ≤ xs.length) :
    Calls Try.prog 34 #[.pointer (some ⟨g, 0, none⟩)] w fun e w' => e = .returned (.tuple #[.int .i64 (num32 ((xs.take (at_ + 2)).drop at_)), .int .i64 0]) ∧ IsRd w' g A c xs (at_ + 2) ∧ w.grownBy w' (some g) := by
  have HR := Lib.hid hr
  clear hr
  obtain ⟨ys, hys⟩ : ∃ ys, ys = (xs.take (at_ + 2)).drop at_ := ⟨_, rfl⟩
  have HYS := Lib.hid hys
  rw [← hys]
  clear hys
  have hb := num32_bd ys
  go_enter Try.func34, Try.ntmps34
  go_wp2_with (first | (go_at_call 61; refine (number_ok g A c xs at_ 2 _ HR.out hn ys HYS).mono ?_; rintro e w' ⟨rfl, hr1, hg1⟩; have HR1 := Lib.hid hr1; have HG1 := Lib.hid hg1; clear hr1 hg1))
  go_ret2
  exact ⟨rfl, HR1.out, HG1.out⟩
theorem w64_w32 (z : Int) : wrap64 (wrap32 z) = wrap32 z := by unfold wrap64 wrap32; omega
theorem long_ok (g : Nat) (A : Option Addr) (c : Nat) (xs : List Int) (at_ : Nat) (w : World) (hr : IsRd w g A c xs at_) (hn : at_ + 4 ≤ xs.length) :
    Calls Try.prog 35 #[.pointer (some ⟨g, 0, none⟩)] w fun e w' => e = .returned (.tuple #[.int .i64 (wrap32 (num32 ((xs.take (at_ + 4)).drop at_))), .int .i64 0]) ∧ IsRd w' g A c xs (at_ + 4) ∧ w.grownBy w' (some g) := by
  have HR := Lib.hid hr
  clear hr
  obtain ⟨ys, hys⟩ : ∃ ys, ys = (xs.take (at_ + 4)).drop at_ := ⟨_, rfl⟩
  have HYS := Lib.hid hys
  rw [← hys]
  clear hys
  have hb := num32_bd ys
  go_enter Try.func35, Try.ntmps35
  go_wp2_with (first | (go_at_call 61; refine (number_ok g A c xs at_ 4 _ HR.out hn ys HYS).mono ?_; rintro e w' ⟨rfl, hr1, hg1⟩; have HR1 := Lib.hid hr1; have HG1 := Lib.hid hg1; clear hr1 hg1))
  go_ret2
  exact ⟨by rw [w64_w32]; rfl, HR1.out, HG1.out⟩

end Go.Proofs.Ytgfjepjaccnkiaa
