/- The walks of wire's reader (turned from another seat's by port.py). -/
import Derived.Test.YtcjniogdjbplbaaMA1
import Derived.Outline
import Derived.Deep.LoopGhost
/-! Rdr -/
namespace Go.Proofs.Ytcjniogdjbplbaa.Rdr
open Mem Go.RowKit Go.Proofs.YtcjniogdjbplbaaW.PrintWords Go.Proofs.YtcjniogdjbplbaaW.PrintLast Go.Proofs.YtcjniogdjbplbaaW.PrintMore PStorePlays


abbrev U8C (w : World) (A : Option Addr) (xs : List Int) : Prop := Kd.C (Kd.int .u8) w A xs.length xs
def cutA (A : Option Addr) (c n : Nat) : Option Addr := if c = n then A else A.map (·.add n)
/-- A reader's block: its bytes lie in another one. -/
structure IsRd (w : World) (g : Nat) (A : Option Addr) (c : Nat) (xs : List Int) (at_ : Nat) : Prop where
  blk : w.heap[g]? = some (.cells #[.slice A xs.length c, .int .i64 at_, .bool true] 116 (0, 0))
  cap : xs.length ≤ c
  atl : at_ ≤ xs.length
  rd : U8C w A xs
  bytes : ∀ x ∈ xs, 0 ≤ x ∧ x ≤ 255
  ne : ∀ ad, A = some ad → 0 < xs.length → ad.block ≠ g
theorem keep_of_grown {w w' : World} {g : Nat} (h : w.grownBy w' (some g)) : KeepBut w w' g none :=
  ⟨h.size, fun i hi hne _ => h.block i hi (by simpa using hne)⟩
theorem grown_refl (w : World) (r : Option Nat) : w.grownBy w r := ⟨rfl, rfl, rfl, Nat.le_refl _, fun _ _ _ => rfl⟩
theorem grown_set (w : World) (g i : Nat) (v : Value) : w.grownBy (w.setCell ⟨g, i, none⟩ v) (some g) :=
  ⟨rfl, rfl, rfl, by simp [World.setCell], fun k _ hk => Below.heap_setCell _ _ _ _ (by simpa using hk)⟩
theorem grown_drawn {w w1 w2 : World} {r : Option Nat} (h : w.grownBy w1 r) (d : Drawn0 w1 w2) : w.grownBy w2 r := by
  obtain ⟨n, rfl⟩ := d.out
  exact ⟨h.os, h.tape, h.output, h.size, h.block⟩
theorem grown_trans {w w1 w2 : World} {r : Option Nat} (h : w.grownBy w1 r) (k : w1.grownBy w2 r) : w.grownBy w2 r :=
  ⟨k.os.trans h.os, k.tape.trans h.tape, k.output.trans h.output, Nat.le_trans h.size k.size, fun i hi hr => (k.block i (Nat.lt_of_lt_of_le hi h.size) hr).trans (h.block i hi hr)⟩
theorem grown_below {w w1 w2 : World} {r : Option Nat} (h : w.grownBy w1 r) (k : Below w1.heap.size w1 w2) : w.grownBy w2 r :=
  grown_trans h (grown_of_below k r)
theorem drawn_set (w : World) (g i : Nat) (u v : Value) (a b : Nat) (e : u = v) : Drawn0 (w.setCell ⟨g, i, none⟩ v) (((w.drewN a).setCell ⟨g, i, none⟩ u).drewN b) := by
  subst e
  exact Drawn0.step (w' := (w.drewN a).setCell ⟨g, i, none⟩ u) ⟨⟨a, rfl⟩⟩ b
theorem IsRd.drawn {w w' : World} {g : Nat} {A : Option Addr} {c : Nat} {xs : List Int} {at_ : Nat} (h : IsRd w g A c xs at_) (d : Drawn0 w w') : IsRd w' g A c xs at_ := by
  obtain ⟨n, rfl⟩ := d.out
  exact ⟨h.blk, h.cap, h.atl, Kd.C_drewN h.rd _, h.bytes, h.ne⟩
theorem IsRd.below {w w' : World} {g : Nat} {A : Option Addr} {c : Nat} {xs : List Int} {at_ : Nat} (h : IsRd w g A c xs at_) (d : Below w.heap.size w w') : IsRd w' g A c xs at_ :=
  ⟨(d.block g (blk_lt h.blk)).trans h.blk, h.cap, h.atl, Kd.C_below h.rd d, h.bytes, h.ne⟩
theorem IsRd.step {w w' : World} {g : Nat} {A : Option Addr} {c : Nat} {xs : List Int} {at_ : Nat} (h : IsRd w g A c xs at_) {n : Nat} (hn : n ≤ xs.length)
    (d : Drawn0 (w.setCell ⟨g, 1, none⟩ (.int .i64 n)) w') : IsRd w' g A c xs n ∧ w.grownBy w' (some g) := by
  have hg := grown_drawn (grown_set w g 1 (.int .i64 n)) d
  refine ⟨⟨?_, h.cap, hn, ?_, h.bytes, h.ne⟩, hg⟩
  · obtain ⟨m, rfl⟩ := d.out
    exact (blk_set h.blk 1 (.int .i64 n)).trans rfl
  · exact Kd.C_keep 0 h.rd (keep_of_grown hg) h.ne
theorem IsRd.cut {w : World} {g : Nat} {A : Option Addr} {c : Nat} {xs : List Int} {at_ : Nat} (h : IsRd w g A c xs at_) (n : Nat) (hn : n ≤ at_) : U8C w (cutA A c n) ((xs.take at_).drop n) := by
  have := Kd.C_mid (k := Kd.int .u8) h.rd hn h.atl h.cap
  have e : (Kd.int IntKind.u8).sz = 1 := rfl
  rw [e, Nat.mul_one] at this
  exact this
theorem cut_u8 (A : Option Addr) (n c lo hi : Nat) (h1 : lo ≤ hi) (h2 : hi ≤ n) (hc : n ≤ c) (l h : Int) (el : l = lo) (eh : h = hi) :
    ∀ W : World, (Instr.slice 23 (.slice A n c) (some (.int .i64 l)) (some (.int .i64 h)) none).run Try.prog W = .ok (.slice (cutA A c lo) (hi - lo) (c - lo)) W := by
  subst el; subst eh
  obtain ⟨i0, hi0, hz0, hz1, hz2⟩ := info_parts info5
  intro W
  have := cut_mid (P := Try.prog) 23 5 .i64 .i64 Try.underlying23 hi0 1 hz1 A n c lo hi (by omega) (by omega) (by omega) hc W
  simpa [cutA] using this
theorem ready_yes (g : Nat) (v u : Value) (w : World) (hb : w.heap[g]? = some (.cells #[v, u, .bool true] 116 (0, 0))) :
    Calls Try.prog 70 #[.pointer (some ⟨g, 0, none⟩)] w fun e w' => e = .returned (.bool true) ∧ w = w' := by
  have c2 : w.cell? ⟨g, 2, none⟩ = some (.bool true) := (blk_cell hb 2).trans rfl
  go_enter Try.func70, Try.ntmps70
  go_wp2
  go_ret
  exact ⟨rfl, rfl⟩
theorem at_yes (g : Nat) (v : Value) (n : Int) (w : World) (hb : w.heap[g]? = some (.cells #[v, .int .i64 n, .bool true] 116 (0, 0))) :
    Calls Try.prog 53 #[.pointer (some ⟨g, 0, none⟩)] w fun e w' => e = .returned (.int .i64 n) ∧ w = w' := by
  have c1 : w.cell? ⟨g, 1, none⟩ = some (.int .i64 n) := (blk_cell hb 1).trans rfl
  have HB := Lib.hid hb
  clear hb
  go_enter Try.func53, Try.ntmps53
  go_wp2_with (go_at_call 70; refine (ready_yes g _ _ _ HB.out).mono ?_; rintro e w' ⟨rfl, rfl⟩)
  go_ret
  exact ⟨rfl, rfl⟩
theorem left_yes (g : Nat) (A : Option Addr) (l c : Nat) (n : Nat) (w : World) (hn : n ≤ l) (hl : l ≤ 9223372036854775807) (hb : w.heap[g]? = some (.cells #[.slice A l c, .int .i64 n, .bool true] 116 (0, 0))) :
    Calls Try.prog 52 #[.pointer (some ⟨g, 0, none⟩)] w fun e w' => e = .returned (.int .i64 ((l : Int) - n)) ∧ Drawn0 w w' := by
  have c0 : w.cell? ⟨g, 0, none⟩ = some (.slice A l c) := (blk_cell hb 0).trans rfl
  have c1 : w.cell? ⟨g, 1, none⟩ = some (.int .i64 n) := (blk_cell hb 1).trans rfl
  have HB := Lib.hid hb
  clear hb
  have hw : IntKind.i64.wrap ((l : Int) - (n : Int)) = (l : Int) - n := IntWalk.i64_in _ (by omega)
  go_enter Try.func52, Try.ntmps52
  go_wp2_with (go_at_call 70; refine (ready_yes g _ _ _ HB.out).mono ?_; rintro e w' ⟨rfl, rfl⟩)
  go_quiet (fail)
  go_wp2
  go_ret
  exact ⟨rfl, ⟨⟨_, rfl⟩⟩⟩
theorem next_neg (g : Nat) (A : Option Addr) (c : Nat) (xs : List Int) (at_ : Nat) (n : Int) (w : World) (hr : IsRd w g A c xs at_) (hn : n < 0) :
    Calls Try.prog 79 #[.pointer (some ⟨g, 0, none⟩), .int .i64 n] w fun e w' => e = .returned (.tuple #[.slice none 0 0, .int .i64 1]) ∧ Drawn0 w w' := by
  have HB := Lib.hid hr.blk
  clear hr
  go_enter Try.func79, Try.ntmps79
  go_wp2_with (first | (go_at_call 70; refine (ready_yes g _ _ _ HB.out).mono ?_; rintro e w' ⟨rfl, rfl⟩))
  go_ret2
  exact ⟨rfl, Drawn0.refl _⟩
theorem next_short (g : Nat) (A : Option Addr) (c : Nat) (xs : List Int) (at_ : Nat) (n : Int) (w : World) (hr : IsRd w g A c xs at_) (hn : (xs.length : Int) - at_ < n) :
    Calls Try.prog 79 #[.pointer (some ⟨g, 0, none⟩), .int .i64 n] w fun e w' => e = .returned (.tuple #[.slice none 0 0, .int .i64 2]) ∧ Drawn0 w w' := by
  have HB := Lib.hid hr.blk
  have h1 := hr.atl
  have h2 := Kd.C_max hr.rd
  clear hr
  have h0 : ¬ n < 0 := by omega
  go_enter Try.func79, Try.ntmps79
  go_wp2_with (first | (go_at_call 70; refine (ready_yes g _ _ _ HB.out).mono ?_; rintro e w' ⟨rfl, rfl⟩) | (go_at_call 52; refine (left_yes g A xs.length c at_ _ h1 h2 HB.out).mono ?_; rintro e w' ⟨rfl, ⟨nq, rfl⟩⟩))
  go_ret2
  exact ⟨rfl, ⟨⟨_, rfl⟩⟩⟩
theorem next_ok (g : Nat) (A : Option Addr) (c : Nat) (xs : List Int) (at_ : Nat) (n : Nat) (w : World) (hr : IsRd w g A c xs at_) (hn : at_ + n ≤ xs.length) :
    Calls Try.prog 79 #[.pointer (some ⟨g, 0, none⟩), .int .i64 n] w fun e w' => e = .returned (.tuple #[.slice (cutA A c at_) n (c - at_), .int .i64 0]) ∧ IsRd w' g A c xs (at_ + n) ∧ w.grownBy w' (some g) := by
  have HB := Lib.hid hr.blk
  have HR := Lib.hid hr
  have c0 : w.cell? ⟨g, 0, none⟩ = some (.slice A xs.length c) := (blk_cell hr.blk 0).trans rfl
  have c1 : w.cell? ⟨g, 1, none⟩ = some (.int .i64 at_) := (blk_cell hr.blk 1).trans rfl
  have f1 : w.frozen? ⟨g, 1, none⟩ = false := blk_frozen hr.blk 1
  have h1 := hr.atl
  have h2 := Kd.C_max hr.rd
  have h3 := hr.cap
  clear hr
  have h0 : ¬ (n : Int) < 0 := by omega
  go_enter Try.func79, Try.ntmps79
  go_wp2_with (first | (go_at_call 70; refine (ready_yes g _ _ _ HB.out).mono ?_; rintro e w' ⟨rfl, rfl⟩) | (go_at_call 52; refine (left_yes g A xs.length c at_ _ h1 h2 HB.out).mono ?_; rintro e w' ⟨rfl, ⟨nq, rfl⟩⟩))
  obtain ⟨w2, hw2⟩ : ∃ w2, w2 = (w.drewN nq).setCell ⟨g, 1, none⟩ (.int .i64 ((at_ : Int) + n)) := ⟨_, rfl⟩
  rw [← hw2]
  have d0 : w2.cell? ⟨g, 0, none⟩ = some (.slice A xs.length c) := by
    rw [hw2, World.cell?_setCell_other _ _ _ _ (by simp)]; exact c0
  have d1 : w2.cell? ⟨g, 1, none⟩ = some (.int .i64 ((at_ : Int) + n)) := by
    rw [hw2]; exact World.cell?_setCell_same _ _ _ (show (w.drewN nq).cell? ⟨g, 1, none⟩ = _ from c1)
  have HW := Lib.hid hw2
  clear hw2 c0 c1 f1
  have hwr : IntKind.i64.wrap (at_ : Int) = at_ := IntWalk.i64_in _ (by omega)
  have hwr2 : IntKind.i64.wrap ((at_ : Int) + n - n) = at_ := IntWalk.i64_in _ (by omega) |>.trans (by omega)
  have hsl := cut_u8 A xs.length c at_ (at_ + n) (by omega) hn h3 (at_ : Int) ((at_ : Int) + n) rfl (by omega)
  rw [show at_ + n - at_ = n from by omega] at hsl
  clear h1 h2 h3 hn
  go_quiet (fail)
  go_wp2
  go_ret2
  rw [HW.out]
  exact ⟨rfl, IsRd.step HR.out (n := at_ + n) (by omega) (drawn_set w _ _ _ _ _ _ rfl)⟩
/-- number: nothing is read where too little is left. -/
theorem number_short (g : Nat) (A : Option Addr) (c : Nat) (xs : List Int) (at_ : Nat) (n : Int) (w : World) (hr : IsRd w g A c xs at_) (hn : (xs.length : Int) - at_ < n) :
    Calls Try.prog 78 #[.pointer (some ⟨g, 0, none⟩), .int .i64 n] w fun e w' => e = .returned (.tuple #[.int .u32 0, .int .i64 2]) ∧ Drawn0 w w' := by
  have HR := Lib.hid hr
  clear hr
  go_enter Try.func78, Try.ntmps78
  go_wp2_with (first | (go_at_call 79; refine (next_short g A c xs at_ n _ HR.out hn).mono ?_; rintro e w' ⟨rfl, ⟨nq, rfl⟩⟩))
  go_rounds 1
  go_ret2
  exact ⟨rfl, ⟨⟨_, rfl⟩⟩⟩
def num32 (l : List Int) : Int := l.foldl (fun a c => (a * 256 + c) % 4294967296) 0
theorem num32_snoc (l : List Int) (k : Nat) (h : k < l.length) : num32 (l.take (k + 1)) = (num32 (l.take k) * 256 + rd l k) % 4294967296 := by
  have e : rd l k = l[k] := by simp [rd, h]
  rw [List.take_succ_eq_append_getElem h, num32, List.foldl_append, e]; rfl
theorem num32_bd (l : List Int) : 0 ≤ num32 l ∧ num32 l < 4294967296 := by
  rcases List.eq_nil_or_concat l with rfl | ⟨a, b, rfl⟩
  · simp [num32]
  · simp only [num32, List.concat_eq_append, List.foldl_append, List.foldl_cons, List.foldl_nil]; omega
theorem or_byte (x c : Int) (hx : 0 ≤ x ∧ x < 4294967296) (hc : 0 ≤ c ∧ c ≤ 255) : bits .or .u32 (x * 256 % 4294967296) c = (x * 256 + c) % 4294967296 := by
  obtain ⟨x, rfl⟩ := Int.eq_ofNat_of_zero_le hx.1
  obtain ⟨c, rfl⟩ := Int.eq_ofNat_of_zero_le hc.1
  rw [u32_or _ _ (by omega) (by omega) (by omega) (by omega)]
  have e1 : ((x : Int) * 256 % 4294967296).toNat = (x % 16777216) <<< 8 := by rw [Nat.shiftLeft_eq]; omega
  rw [e1, Int.toNat_natCast, ← Nat.shiftLeft_add_eq_or_of_lt (by omega), Nat.shiftLeft_eq]
  omega
theorem mid_bytes {xs : List Int} (h : ∀ x ∈ xs, 0 ≤ x ∧ x ≤ 255) (a b k : Nat) : 0 ≤ rd ((xs.take a).drop b) k ∧ rd ((xs.take a).drop b) k ≤ 255 := by
  unfold rd
  rw [List.getD_eq_getElem?_getD]
  cases e : ((xs.take a).drop b)[(k : Int).toNat]? with
  | none => simp
  | some v => exact h v (List.mem_of_mem_take (List.mem_of_mem_drop (List.mem_of_getElem? e)))
theorem number_ok (g : Nat) (A : Option Addr) (c : Nat) (xs : List Int) (at_ : Nat) (n : Nat) (w : World) (hr : IsRd w g A c xs at_) (hn : at_ + n ≤ xs.length) (ys : List Int) (hys : Hid (ys = (xs.take (at_ + n)).drop at_)) :
    Calls Try.prog 78 #[.pointer (some ⟨g, 0, none⟩), .int .i64 n] w fun e w' => e = .returned (.tuple #[.int .u32 (num32 ys), .int .i64 0]) ∧ IsRd w' g A c xs (at_ + n) ∧ w.grownBy w' (some g) := by
  have HR := Lib.hid hr
  have h2 := Kd.C_max hr.rd
  have HY := Lib.hid (show ys.length = n by rw [hys.out]; simp; omega)
  have HYB := Lib.hid (show ∀ k : Nat, 0 ≤ rd ys k ∧ rd ys k ≤ 255 from fun k => by rw [hys.out]; exact mid_bytes hr.bytes _ _ _)
  clear hr
  have hY1 : ys.length ≤ n := by have := HY.out; omega
  have hY2 : n ≤ ys.length := by have := HY.out; omega
  go_enter Try.func78, Try.ntmps78
  go_wp2_with (first | (go_at_call 79; refine (next_ok g A c xs at_ n _ HR.out hn).mono ?_; rintro e w' ⟨rfl, hr1, hg1⟩; have HR1 := Lib.hid hr1; have HG1 := Lib.hid hg1; clear hr1 hg1))
  have HC := Lib.hid (show U8C w' (cutA A c at_) ys by rw [hys.out]; exact HR1.out.cut at_ (by omega))
  generalize cutA A c at_ = A' at *
  go_loop [8, 19] (fun x i => ∃ k : Nat, k ≤ n ∧ i = .int .i64 k ∧ x = .int .u32 (num32 (ys.take k))) (fun _ i => n - (intOf i).toNat)
  case atStart => exact ⟨0, Nat.zero_le _, rfl, rfl⟩
  case round =>
    obtain ⟨k, hk, rfl, rfl⟩ := hrel
    by_cases hlt : k < n
    · obtain ⟨ad, rfl, hc⟩ := Kd.at_int HC.out (k : Int) (by omega) (by omega)
      rw [Int.toNat_natCast] at hc
      have hb := HYB.out k
      have hb2 := num32_bd (ys.take k)
      have HS := Lib.hid (num32_snoc ys k (by omega))
      go_wp2
      go_round
      case rel => exact ⟨k + 1, by omega, by go_num, by rw [or_byte _ _ hb2 hb, HS.out]⟩
      case measure => simp [intOf]; omega
    · have HS := Lib.hid (show num32 (ys.take k) = num32 ys by rw [List.take_of_length_le (by omega)])
      go_wp2
      go_ret2
      exact ⟨by rw [HS.out]; rfl, HR1.out, HG1.out⟩
theorem byte_short (g : Nat) (A : Option Addr) (c : Nat) (xs : List Int) (at_ : Nat) (w : World) (hr : IsRd w g A c xs at_) (hn : xs.length - at_ < 1) :
    Calls Try.prog 71 #[.pointer (some ⟨g, 0, none⟩)] w fun e w' => e = .returned (.tuple #[.int .i64 0, .int .i64 2]) ∧ Drawn0 w w' := by
  have HR := Lib.hid hr
  have ha := hr.atl
  clear hr
  go_enter Try.func71, Try.ntmps71
  go_wp2_with (first | (go_at_call 78; refine (number_short g A c xs at_ _ _ HR.out (by omega)).mono ?_; rintro e w' ⟨rfl, ⟨nq, rfl⟩⟩))
  go_ret2
  exact ⟨rfl, ⟨⟨_, rfl⟩⟩⟩
theorem word_short (g : Nat) (A : Option Addr) (c : Nat) (xs : List Int) (at_ : Nat) (w : World) (hr : IsRd w g A c xs at_) (hn : xs.length - at_ < 2) :
    Calls Try.prog 73 #[.pointer (some ⟨g, 0, none⟩)] w fun e w' => e = .returned (.tuple #[.int .i64 0, .int .i64 2]) ∧ Drawn0 w w' := by
  have HR := Lib.hid hr
  have ha := hr.atl
  clear hr
  go_enter Try.func73, Try.ntmps73
  go_wp2_with (first | (go_at_call 78; refine (number_short g A c xs at_ _ _ HR.out (by omega)).mono ?_; rintro e w' ⟨rfl, ⟨nq, rfl⟩⟩))
  go_ret2
  exact ⟨rfl, ⟨⟨_, rfl⟩⟩⟩
theorem byte_ok (g : Nat) (A : Option Addr) (c : Nat) (xs : List Int) (at_ : Nat) (w : World) (hr : IsRd w g A c xs at_) (hn : at_ + 1 ≤ xs.length) :
    Calls Try.prog 71 #[.pointer (some ⟨g, 0, none⟩)] w fun e w' => e = .returned (.tuple #[.int .i64 (num32 ((xs.take (at_ + 1)).drop at_)), .int .i64 0]) ∧ IsRd w' g A c xs (at_ + 1) ∧ w.grownBy w' (some g) := by
  have HR := Lib.hid hr
  clear hr
  obtain ⟨ys, hys⟩ : ∃ ys, ys = (xs.take (at_ + 1)).drop at_ := ⟨_, rfl⟩
  have HYS := Lib.hid hys
  rw [← hys]
  clear hys
  have hb := num32_bd ys
  go_enter Try.func71, Try.ntmps71
  go_wp2_with (first | (go_at_call 78; refine (number_ok g A c xs at_ 1 _ HR.out hn ys HYS).mono ?_; rintro e w' ⟨rfl, hr1, hg1⟩; have HR1 := Lib.hid hr1; have HG1 := Lib.hid hg1; clear hr1 hg1))
  go_ret2
  exact ⟨rfl, HR1.out, HG1.out⟩
theorem word_ok (g : Nat) (A : Option Addr) (c : Nat) (xs : List Int) (at_ : Nat) (w : World) (hr : IsRd w g A c xs at_) (hn : at_ + 2 ≤ xs.length) :
    Calls Try.prog 73 #[.pointer (some ⟨g, 0, none⟩)] w fun e w' => e = .returned (.tuple #[.int .i64 (num32 ((xs.take (at_ + 2)).drop at_)), .int .i64 0]) ∧ IsRd w' g A c xs (at_ + 2) ∧ w.grownBy w' (some g) := by
  have HR := Lib.hid hr
  clear hr
  obtain ⟨ys, hys⟩ : ∃ ys, ys = (xs.take (at_ + 2)).drop at_ := ⟨_, rfl⟩
  have HYS := Lib.hid hys
  rw [← hys]
  clear hys
  have hb := num32_bd ys
  go_enter Try.func73, Try.ntmps73
  go_wp2_with (first | (go_at_call 78; refine (number_ok g A c xs at_ 2 _ HR.out hn ys HYS).mono ?_; rintro e w' ⟨rfl, hr1, hg1⟩; have HR1 := Lib.hid hr1; have HG1 := Lib.hid hg1; clear hr1 hg1))
  go_ret2
  exact ⟨rfl, HR1.out, HG1.out⟩
theorem w64_w32 (z : Int) : wrap64 (wrap32 z) = wrap32 z := by unfold wrap64 wrap32; omega
def overWorld (w : World) (xs : List Int) : World :=
  (w.alloc (.cells (u8row xs) 5)).alloc (.cells #[.slice (some ⟨w.heap.size, 0, none⟩) xs.length xs.length, .int .i64 0, .bool true] 116)
theorem over_any (A : Option Addr) (c n : Nat) (xs : List Int) (w : World) (hx : U8C w A xs) (hn : Hid (n = xs.length)) (hl : n ≤ 140737488355328) :
    Calls Try.prog 51 #[.slice A n c] w fun e w' => e = .returned (.pointer (some ⟨w.heap.size + 1, 0, none⟩)) ∧ overWorld w xs = w' := by
  have hmk := run_make_len (P := Try.prog) 23 5 (.int .u8 0) 1 Try.underlying23 info5 rfl n (by omega) (by omega) n rfl
  have hcp := run_copy_new (P := Try.prog) w 5 23 23 3 Try.underlying23 size5 A n c n (xs.map (Value.int .u8)) (by simp [hn.out]) (madeCells #[.int .u8 0] n) (size_madeCells _ _) (by rw [hn.out]; exact C_int_cells hx) (one_ints _ _)
  have HX := Lib.hid hx
  clear hx
  generalize madeCells #[.int .u8 0] n = zs at hmk hcp
  go_enter Try.func51, Try.ntmps51
  go_wp2
  go_ret
  exact ⟨rfl, by rw [overWorld, ← hn.out]; rfl⟩
theorem over_rd (w : World) (xs : List Int) (hm : xs.length ≤ 9223372036854775807) (hb : ∀ x ∈ xs, 0 ≤ x ∧ x ≤ 255) :
    IsRd (overWorld w xs) (w.heap.size + 1) (some ⟨w.heap.size, 0, none⟩) xs.length xs 0 ∧ Below w.heap.size w (overWorld w xs) := by
  refine ⟨⟨?_, Nat.le_refl _, Nat.zero_le _, ?_, hb, ?_⟩, ((Below.refl _ _).alloc (Nat.le_refl _) _).alloc (by simp) _⟩
  · have := heap_alloc_new (w.alloc (.cells (u8row xs) 5)) (.cells #[.slice (some ⟨w.heap.size, 0, none⟩) xs.length xs.length, .int .i64 0, .bool true] 116)
    simpa [overWorld] using this
  · refine Kd.C_alloc (C_int_of_blk (heap_alloc_new _ _) (fun j x hj => ?_) hm) _
    simp [u8row, nums8, hj]
  · intro ad had _
    injection had with had
    subst had
    simp
theorem take_neg (g : Nat) (A : Option Addr) (c : Nat) (xs : List Int) (at_ : Nat) (n : Int) (w : World) (hr : IsRd w g A c xs at_) (hn : n < 0) :
    Calls Try.prog 74 #[.pointer (some ⟨g, 0, none⟩), .int .i64 n] w fun e w' => e = .returned (.tuple #[.slice none 0 0, .int .i64 1]) ∧ Drawn0 w w' := by
  have HR := Lib.hid hr
  clear hr
  go_enter Try.func74, Try.ntmps74
  go_wp2_with (first | (go_at_call 79; refine (next_neg g A c xs at_ n _ HR.out hn).mono ?_; rintro e w' ⟨rfl, ⟨nq, rfl⟩⟩))
  go_ret2
  exact ⟨rfl, ⟨⟨_, rfl⟩⟩⟩
theorem take_short (g : Nat) (A : Option Addr) (c : Nat) (xs : List Int) (at_ : Nat) (n : Int) (w : World) (hr : IsRd w g A c xs at_) (hn : (xs.length : Int) - at_ < n) :
    Calls Try.prog 74 #[.pointer (some ⟨g, 0, none⟩), .int .i64 n] w fun e w' => e = .returned (.tuple #[.slice none 0 0, .int .i64 2]) ∧ Drawn0 w w' := by
  have HR := Lib.hid hr
  clear hr
  go_enter Try.func74, Try.ntmps74
  go_wp2_with (first | (go_at_call 79; refine (next_short g A c xs at_ n _ HR.out hn).mono ?_; rintro e w' ⟨rfl, ⟨nq, rfl⟩⟩))
  go_ret2
  exact ⟨rfl, ⟨⟨_, rfl⟩⟩⟩
theorem take_ok (g : Nat) (A : Option Addr) (c : Nat) (xs : List Int) (at_ : Nat) (n : Nat) (w : World) (hr : IsRd w g A c xs at_) (hn : at_ + n ≤ xs.length) (hl : n ≤ 140737488355328) (ys : List Int) (hys : Hid (ys = (xs.take (at_ + n)).drop at_)) :
    Calls Try.prog 74 #[.pointer (some ⟨g, 0, none⟩), .int .i64 n] w fun e w' => (∃ b, e = .returned (.tuple #[.slice (some ⟨b, 0, none⟩) n n, .int .i64 0]) ∧ U8C w' (some ⟨b, 0, none⟩) ys) ∧ IsRd w' g A c xs (at_ + n) ∧ w.grownBy w' (some g) := by
  have HR := Lib.hid hr
  have HY := Lib.hid (show ys.length = n by rw [hys.out]; simp; omega)
  clear hr
  have hmk := run_make_len (P := Try.prog) 23 5 (.int .u8 0) 1 Try.underlying23 info5 rfl n (by omega) (by omega) n rfl
  have hzs := Lib.hid (size_madeCells #[.int .u8 0] n)
  generalize madeCells #[.int .u8 0] n = zs at hmk hzs
  go_enter Try.func74, Try.ntmps74
  go_wp2_with (first | (go_at_call 79; refine (next_ok g A c xs at_ n _ HR.out hn).mono ?_; rintro e w1 ⟨rfl, hr1, hg1⟩; have HR1 := Lib.hid hr1; have HG1 := Lib.hid hg1; have HC := Lib.hid (show U8C w1 (cutA A c at_) ys by rw [hys.out]; exact hr1.cut at_ (by omega)); have hcp := copy_ys (c := c - at_) HY.out HC.out zs hzs.out; clear hr1 hg1))
  go_ret2
  have hb : Below w1.heap.size w1 (w1.alloc (.cells (u8row ys) 5)) := (Below.refl _ _).alloc (Nat.le_refl _) _
  exact ⟨⟨_, rfl, C_int_of_blk (heap_alloc_new _ _) (fun j x hj => by simp [u8row, nums8, hj]) (Kd.C_max HC.out)⟩, HR1.out.below hb, grown_below HG1.out hb⟩

def numI (l : List Int) : Int := l.foldl (fun a c => a * 256 + c) 0
theorem numI_snoc (l : List Int) (k : Nat) (h : k < l.length) : numI (l.take (k + 1)) = numI (l.take k) * 256 + rd l k := by
  have e : rd l k = l[k] := by simp [rd, h]
  rw [List.take_succ_eq_append_getElem h, numI, List.foldl_append, e]; rfl
theorem num32_mod (l : List Int) : num32 l = numI l % 4294967296 := by
  have : ∀ (l : List Int) (a : Int), l.foldl (fun a c => (a * 256 + c) % 4294967296) (a % 4294967296) = (l.foldl (fun a c => a * 256 + c) a) % 4294967296 := by
    intro l
    induction l with
    | nil => intro a; simp
    | cons c l ih =>
      intro a
      simp only [List.foldl_cons]
      rw [← ih]
      congr 1
      omega
  exact this l 0
theorem numI_bd (l : List Int) (h : ∀ x ∈ l, 0 ≤ x ∧ x ≤ 255) : 0 ≤ numI l ∧ numI l < 256 ^ l.length := by
  have : ∀ (l : List Int) (a : Int) (b : Nat), (∀ x ∈ l, 0 ≤ x ∧ x ≤ 255) → 0 ≤ a → a < 256 ^ b → 0 ≤ l.foldl (fun a c => a * 256 + c) a ∧ l.foldl (fun a c => a * 256 + c) a < 256 ^ (b + l.length) := by
    intro l
    induction l with
    | nil => intro a b _ h0 h1; exact ⟨h0, by simpa using h1⟩
    | cons c l ih =>
      intro a b hl h0 h1
      have hc := hl c (by simp)
      have := ih (a * 256 + c) (b + 1) (fun x hx => hl x (by simp [hx])) (by omega) (by rw [Int.pow_succ]; omega)
      simp only [List.foldl_cons, List.length_cons]
      rw [show b + (l.length + 1) = b + 1 + l.length from by omega]
      exact this
  have := this l 0 0 h (by omega) (by simp)
  simpa [numI] using this
theorem num32_small (l : List Int) (h : ∀ x ∈ l, 0 ≤ x ∧ x ≤ 255) (hl : l.length ≤ 4) : num32 l = numI l := by
  have hb := numI_bd l h
  have : (256 : Int) ^ l.length ≤ 4294967296 := by
    have : l.length = 0 ∨ l.length = 1 ∨ l.length = 2 ∨ l.length = 3 ∨ l.length = 4 := by omega
    rcases this with e | e | e | e | e <;> rw [e] <;> decide
  rw [num32_mod]
  omega
/-- The bytes from a place on. -/
def midL (xs : List Int) (at_ n : Nat) : List Int := (xs.take (at_ + n)).drop at_
theorem midL_len {xs : List Int} {at_ n : Nat} (h : at_ + n ≤ xs.length) : (midL xs at_ n).length = n := by simp [midL]; omega
theorem midL_rd {xs : List Int} {at_ n j : Nat} (h : j < n) : rd (midL xs at_ n) j = rd xs ((at_ : Int) + j) := by
  unfold rd midL
  rw [List.getD_eq_getElem?_getD, List.getD_eq_getElem?_getD, List.getElem?_drop, List.getElem?_take]
  rw [if_pos (by omega), Int.toNat_natCast, show ((at_ : Int) + j).toNat = at_ + j from by omega]
theorem midL_bytes {xs : List Int} (h : ∀ x ∈ xs, 0 ≤ x ∧ x ≤ 255) (at_ n : Nat) : ∀ x ∈ midL xs at_ n, 0 ≤ x ∧ x ≤ 255 :=
  fun x hx => h x (List.mem_of_mem_take (List.mem_of_mem_drop hx))
def numOf (xs : List Int) (at_ n : Nat) : Int := if n = 4 then wrap32 (num32 (midL xs at_ n)) else num32 (midL xs at_ n)

/-- The name at a place: it, the place behind, the error. -/
def nameOf (xs : List Int) (at_ : Nat) : ByteArray × Nat × Int :=
  if xs.length ≤ at_ then (⟨#[]⟩, at_, 2)
  else if rd xs at_ = 0 ∨ 24 < rd xs at_ then (⟨#[]⟩, at_, 6)
  else if xs.length < at_ + 1 + (rd xs at_).toNat then (⟨#[]⟩, at_, 2)
  else if isNameB (strOfNums (midL xs (at_ + 1) (rd xs at_).toNat)) = true then (strOfNums (midL xs (at_ + 1) (rd xs at_).toNat), at_ + 1 + (rd xs at_).toNat, 0)
  else (⟨#[]⟩, at_, 6)
theorem num32_one (xs : List Int) (at_ : Nat) (hb : ∀ x ∈ xs, 0 ≤ x ∧ x ≤ 255) (h : at_ + 1 ≤ xs.length) : num32 (midL xs at_ 1) = rd xs at_ := by
  have hl := midL_len h
  rw [num32_small _ (midL_bytes hb at_ 1) (by omega)]
  have := numI_snoc (midL xs at_ 1) 0 (by omega)
  rw [List.take_of_length_le (by omega), midL_rd (by omega)] at this
  simpa [numI] using this
theorem rd_byte (xs : List Int) (at_ : Nat) (hb : ∀ x ∈ xs, 0 ≤ x ∧ x ≤ 255) : 0 ≤ rd xs at_ ∧ rd xs at_ ≤ 255 := by
  have := mid_bytes hb xs.length 0 at_
  simpa using this
theorem name_short (g : Nat) (A : Option Addr) (c : Nat) (xs : List Int) (at_ : Nat) (w : World) (hr : IsRd w g A c xs at_) (h : xs.length ≤ at_) :
    Calls Try.prog 72 #[.pointer (some ⟨g, 0, none⟩)] w fun e w' => e = .returned (.tuple #[.string ⟨#[]⟩, .int .i64 2]) ∧ IsRd w' g A c xs at_ ∧ w.grownBy w' (some g) := by
  have HR := Lib.hid hr
  have c1 : w.cell? ⟨g, 1, none⟩ = some (.int .i64 at_) := (blk_cell hr.blk 1).trans rfl
  have f1 : w.frozen? ⟨g, 1, none⟩ = false := blk_frozen hr.blk 1
  have ha := hr.atl
  clear hr
  go_enter Try.func72, Try.ntmps72
  go_wp2_with (first | (go_at_call 70; refine (ready_yes g _ _ _ HR.out.blk).mono ?_; rintro e w' ⟨rfl, rfl⟩) | (go_at_call 71; refine (byte_short g A c xs at_ _ HR.out (by omega)).mono ?_; rintro e w' ⟨rfl, ⟨nq, rfl⟩⟩))
  go_ret2
  exact ⟨rfl, IsRd.step HR.out (n := at_) ha (drawn_set w _ _ _ _ nq 0 rfl)⟩
theorem byte_ok' (g : Nat) (A : Option Addr) (c : Nat) (xs : List Int) (at_ : Nat) (w : World) (hr : IsRd w g A c xs at_) (hn : at_ + 1 ≤ xs.length) (v : Int) (hv : Hid (v = rd xs at_)) :
    Calls Try.prog 71 #[.pointer (some ⟨g, 0, none⟩)] w fun e w' => e = .returned (.tuple #[.int .i64 v, .int .i64 0]) ∧ IsRd w' g A c xs (at_ + 1) ∧ w.grownBy w' (some g) := by
  rw [hv.out, ← num32_one xs at_ hr.bytes hn]
  exact byte_ok g A c xs at_ w hr hn
theorem name_bad (g : Nat) (A : Option Addr) (c : Nat) (xs : List Int) (at_ : Nat) (w : World) (hr : IsRd w g A c xs at_) (h : at_ + 1 ≤ xs.length) (hv : rd xs at_ = 0 ∨ 24 < rd xs at_) :
    Calls Try.prog 72 #[.pointer (some ⟨g, 0, none⟩)] w fun e w' => e = .returned (.tuple #[.string ⟨#[]⟩, .int .i64 6]) ∧ IsRd w' g A c xs at_ ∧ w.grownBy w' (some g) := by
  have HR := Lib.hid hr
  have c1 : w.cell? ⟨g, 1, none⟩ = some (.int .i64 at_) := (blk_cell hr.blk 1).trans rfl
  have ha := hr.atl
  obtain ⟨v, ev⟩ : ∃ v, v = rd xs at_ := ⟨_, rfl⟩
  have hb := rd_byte xs at_ hr.bytes
  rw [← ev] at hv hb
  have EV := Lib.hid ev
  clear hr ev
  rcases hv with hv | hv
  · have hv0 : (v == 0) = true := by simp [hv]
    clear hv
    go_enter Try.func72, Try.ntmps72
    go_wp2_with (first | (go_at_call 70; refine (ready_yes g _ _ _ HR.out.blk).mono ?_; rintro e w' ⟨rfl, rfl⟩) | (go_at_call 71; refine (byte_ok' g A c xs at_ _ HR.out h v EV).mono ?_; rintro e w1 ⟨rfl, hr1, hg1⟩; have d1 : w1.cell? ⟨g, 1, none⟩ = some (.int .i64 (at_ + 1 : Nat)) := (blk_cell hr1.blk 1).trans rfl; have f1 : w1.frozen? ⟨g, 1, none⟩ = false := blk_frozen hr1.blk 1; have HR1 := Lib.hid hr1; have HG1 := Lib.hid hg1; clear hr1 hg1))
    go_ret2
    have := IsRd.step HR1.out (n := at_) ha (drawn_set w1 g 1 (.int .i64 at_) _ 0 0 rfl)
    exact ⟨rfl, this.1, grown_trans HG1.out this.2⟩
  · have hv0 : (v == 0) = false := by simp; omega
    go_enter Try.func72, Try.ntmps72
    go_wp2_with (first | (go_at_call 70; refine (ready_yes g _ _ _ HR.out.blk).mono ?_; rintro e w' ⟨rfl, rfl⟩) | (go_at_call 71; refine (byte_ok' g A c xs at_ _ HR.out h v EV).mono ?_; rintro e w1 ⟨rfl, hr1, hg1⟩; have d1 : w1.cell? ⟨g, 1, none⟩ = some (.int .i64 (at_ + 1 : Nat)) := (blk_cell hr1.blk 1).trans rfl; have f1 : w1.frozen? ⟨g, 1, none⟩ = false := blk_frozen hr1.blk 1; have HR1 := Lib.hid hr1; have HG1 := Lib.hid hg1; clear hr1 hg1))
    go_ret2
    have := IsRd.step HR1.out (n := at_) ha (drawn_set w1 g 1 (.int .i64 at_) _ 0 0 rfl)
    exact ⟨rfl, this.1, grown_trans HG1.out this.2⟩
theorem name_cut (g : Nat) (A : Option Addr) (c : Nat) (xs : List Int) (at_ : Nat) (w : World) (hr : IsRd w g A c xs at_) (h : at_ + 1 ≤ xs.length) (hv1 : ¬ rd xs at_ = 0) (hv2 : rd xs at_ ≤ 24) (hs : (xs.length : Int) < at_ + 1 + rd xs at_) :
    Calls Try.prog 72 #[.pointer (some ⟨g, 0, none⟩)] w fun e w' => e = .returned (.tuple #[.string ⟨#[]⟩, .int .i64 2]) ∧ IsRd w' g A c xs at_ ∧ w.grownBy w' (some g) := by
  have HR := Lib.hid hr
  have c1 : w.cell? ⟨g, 1, none⟩ = some (.int .i64 at_) := (blk_cell hr.blk 1).trans rfl
  have ha := hr.atl
  obtain ⟨v, ev⟩ : ∃ v, v = rd xs at_ := ⟨_, rfl⟩
  have hb := rd_byte xs at_ hr.bytes
  rw [← ev] at hv1 hv2 hb hs
  have EV := Lib.hid ev
  clear hr ev
  have hv0 : (v == 0) = false := by simp; omega
  clear hv1
  go_enter Try.func72, Try.ntmps72
  go_wp2_with (first | (go_at_call 70; refine (ready_yes g _ _ _ HR.out.blk).mono ?_; rintro e w' ⟨rfl, rfl⟩) | (go_at_call 71; refine (byte_ok' g A c xs at_ _ HR.out h v EV).mono ?_; rintro e w1 ⟨rfl, hr1, hg1⟩; have d1 : w1.cell? ⟨g, 1, none⟩ = some (.int .i64 (at_ + 1 : Nat)) := (blk_cell hr1.blk 1).trans rfl; have f1 : w1.frozen? ⟨g, 1, none⟩ = false := blk_frozen hr1.blk 1; have HR1 := Lib.hid hr1; have HG1 := Lib.hid hg1; clear hr1 hg1) | (go_at_call 79; refine (next_short g A c xs (at_ + 1) v _ HR1.out (by omega)).mono ?_; rintro e w2 ⟨rfl, ⟨nq, rfl⟩⟩))
  go_ret2
  have := IsRd.step HR1.out (n := at_) ha (drawn_set w1 g 1 (.int .i64 at_) _ nq 0 rfl)
  exact ⟨rfl, this.1, grown_trans HG1.out this.2⟩
theorem string_mid {w : World} {g : Nat} {A : Option Addr} {c : Nat} {xs : List Int} {at_ n : Nat} (h : IsRd w g A c xs (at_ + n)) (m : Nat) :
    (convert 23 9 (.slice (cutA A c at_) n (c - at_))).run Try.prog (w.drewN m) = .ok (.string (strOfNums (midL xs at_ n))) (w.drewN m) := by
  have hC := h.cut at_ (by omega)
  have hl := midL_len h.atl
  unfold U8C at hC
  rw [show ((xs.take (at_ + n)).drop at_).length = n from hl] at hC
  exact Kd.C_string Try.underlying23 Try.underlying5 Try.underlying9 (Kd.C_drewN hC m)
theorem name_read (g : Nat) (A : Option Addr) (c : Nat) (xs : List Int) (at_ : Nat) (w : World) (hr : IsRd w g A c xs at_) (h : at_ + 1 ≤ xs.length) (hv1 : ¬ rd xs at_ = 0) (hv2 : rd xs at_ ≤ 24) (n : Nat) (hn : rd xs at_ = n) (hs : at_ + 1 + n ≤ xs.length) (b : Bool) (hb : isNameB (strOfNums (midL xs (at_ + 1) n)) = b) :
    Calls Try.prog 72 #[.pointer (some ⟨g, 0, none⟩)] w fun e w' => e = .returned (.tuple #[.string (if b = true then strOfNums (midL xs (at_ + 1) n) else ⟨#[]⟩), .int .i64 (if b = true then 0 else 6)]) ∧ IsRd w' g A c xs (if b = true then at_ + 1 + n else at_) ∧ w.grownBy w' (some g) := by
  have HR := Lib.hid hr
  have c1 : w.cell? ⟨g, 1, none⟩ = some (.int .i64 at_) := (blk_cell hr.blk 1).trans rfl
  have ha := hr.atl
  have EV := Lib.hid (show (n : Int) = rd xs at_ from hn.symm)
  rw [hn] at hv1 hv2
  have hv0 : ((n : Int) == 0) = false := by simp; omega
  obtain ⟨st, est⟩ : ∃ st, st = strOfNums (midL xs (at_ + 1) n) := ⟨_, rfl⟩
  rw [← est] at hb
  rw [← est]
  have EST := Lib.hid est
  have HB := Lib.hid hb
  clear hr hv1 est hb hn
  cases b with
  | true =>
    simp only [if_true]
    go_enter Try.func72, Try.ntmps72
    go_wp2_with (first | (go_at_call 70; refine (ready_yes g _ _ _ HR.out.blk).mono ?_; rintro e w' ⟨rfl, rfl⟩) | (go_at_call 71; refine (byte_ok' g A c xs at_ _ HR.out h n EV).mono ?_; rintro e w1 ⟨rfl, hr1, hg1⟩; have HR1 := Lib.hid hr1; have HG1 := Lib.hid hg1; clear hr1 hg1) | (go_at_call 79; refine (next_ok g A c xs (at_ + 1) n _ HR1.out hs).mono ?_; rintro e w2 ⟨rfl, hr2, hg2⟩; have hcv := string_mid hr2; rw [← EST.out] at hcv; have hcv0 := hcv 0; have e0 : w2.drewN 0 = w2 := rfl; rw [e0] at hcv0; clear e0; have HR2 := Lib.hid hr2; have HG2 := Lib.hid hg2; clear hr2 hg2) | (go_at_call 33; refine (wire_isName_calls st _).mono ?_; rw [HB.out]; rintro e w3 ⟨rfl, ⟨nq, rfl⟩⟩))
    go_ret2
    exact ⟨rfl, HR2.out.drawn ⟨⟨nq, rfl⟩⟩, grown_drawn (grown_trans HG1.out HG2.out) ⟨⟨nq, rfl⟩⟩⟩
  | false =>
    simp only [Bool.false_eq_true, if_false]
    go_enter Try.func72, Try.ntmps72
    go_wp2_with (first | (go_at_call 70; refine (ready_yes g _ _ _ HR.out.blk).mono ?_; rintro e w' ⟨rfl, rfl⟩) | (go_at_call 71; refine (byte_ok' g A c xs at_ _ HR.out h n EV).mono ?_; rintro e w1 ⟨rfl, hr1, hg1⟩; have HR1 := Lib.hid hr1; have HG1 := Lib.hid hg1; clear hr1 hg1) | (go_at_call 79; refine (next_ok g A c xs (at_ + 1) n _ HR1.out hs).mono ?_; rintro e w2 ⟨rfl, hr2, hg2⟩; have hcv := string_mid hr2; rw [← EST.out] at hcv; have hcv0 := hcv 0; have e0 : w2.drewN 0 = w2 := rfl; rw [e0] at hcv0; clear e0; have d1 : w2.cell? ⟨g, 1, none⟩ = some (.int .i64 (at_ + 1 + n : Nat)) := (blk_cell hr2.blk 1).trans rfl; have f1 : w2.frozen? ⟨g, 1, none⟩ = false := blk_frozen hr2.blk 1; have HR2 := Lib.hid hr2; have HG2 := Lib.hid hg2; clear hr2 hg2) | (go_at_call 33; refine (wire_isName_calls st _).mono ?_; rw [HB.out]; rintro e w3 ⟨rfl, ⟨nq, rfl⟩⟩))
    go_ret2
    have := IsRd.step HR2.out (n := at_) ha (drawn_set w2 g 1 (.int .i64 at_) _ nq 0 rfl)
    exact ⟨rfl, this.1, grown_trans (grown_trans HG1.out HG2.out) this.2⟩
/-- Name, of any reader. -/
theorem name_any (g : Nat) (A : Option Addr) (c : Nat) (xs : List Int) (at_ : Nat) (w : World) (hr : IsRd w g A c xs at_) :
    Calls Try.prog 72 #[.pointer (some ⟨g, 0, none⟩)] w fun e w' => e = .returned (.tuple #[.string (nameOf xs at_).1, .int .i64 (nameOf xs at_).2.2]) ∧ IsRd w' g A c xs (nameOf xs at_).2.1 ∧ w.grownBy w' (some g) := by
  unfold nameOf
  by_cases h : xs.length ≤ at_
  · rw [if_pos h]; exact name_short g A c xs at_ w hr h
  · rw [if_neg h]
    by_cases hv : rd xs at_ = 0 ∨ 24 < rd xs at_
    · rw [if_pos hv]; exact name_bad g A c xs at_ w hr (by omega) hv
    · rw [if_neg hv]
      have hb := rd_byte xs at_ hr.bytes
      by_cases hs : xs.length < at_ + 1 + (rd xs at_).toNat
      · rw [if_pos hs]; exact name_cut g A c xs at_ w hr (by omega) (by omega) (by omega) (by omega)
      · rw [if_neg hs]
        have := name_read g A c xs at_ w hr (by omega) (by omega) (by omega) (rd xs at_).toNat (by omega) (by omega) _ rfl
        by_cases hi : isNameB (strOfNums (midL xs (at_ + 1) (rd xs at_).toNat)) = true
        · simp only [hi, if_true] at this ⊢; exact this
        · simp only [hi, if_false, Bool.false_eq_true] at this ⊢; exact this
/-- What Take comes to: the bytes, the place behind, the error. -/
def takeOf (xs : List Int) (at_ : Nat) (n : Int) : List Int × Nat × Int :=
  if n < 0 then ([], at_, 1) else if (xs.length : Int) - at_ < n then ([], at_, 2) else (midL xs at_ n.toNat, at_ + n.toNat, 0)
def numRes (xs : List Int) (at_ n : Nat) : Int × Nat × Int :=
  if xs.length < at_ + n then (0, at_, 2) else (numOf xs at_ n, at_ + n, 0)
theorem takeOf_le {xs : List Int} {at_ : Nat} {n : Int} (h : at_ ≤ xs.length) : (takeOf xs at_ n).2.1 ≤ xs.length := by
  unfold takeOf
  split
  · exact h
  · split
    · exact h
    · simp; omega
theorem numRes_le {xs : List Int} {at_ n : Nat} (h : at_ ≤ xs.length) : (numRes xs at_ n).2.1 ≤ xs.length := by
  unfold numRes
  split
  · exact h
  · simp; omega
theorem nameOf_le {xs : List Int} {at_ : Nat} (h : at_ ≤ xs.length) : (nameOf xs at_).2.1 ≤ xs.length := by
  unfold nameOf
  repeat' split
  all_goals first | exact h | (simp; omega)
/-- A slice that reads as bytes. -/
def Reads8 (w : World) (v : Value) (ys : List Int) : Prop := ∃ A c, v = .slice A ys.length c ∧ ys.length ≤ c ∧ U8C w A ys
theorem reads_nil (w : World) : Reads8 w (.slice none 0 0) [] := ⟨none, 0, rfl, Nat.le_refl _, Kd.C_nil _ _⟩
theorem Reads8.below {w w' : World} {v : Value} {ys : List Int} (h : Reads8 w v ys) (b : Below w.heap.size w w') : Reads8 w' v ys := by
  obtain ⟨A, c, e, hc, hC⟩ := h
  exact ⟨A, c, e, hc, Kd.C_below hC b⟩
theorem take_any (g : Nat) (A : Option Addr) (c : Nat) (xs : List Int) (at_ : Nat) (n : Int) (w : World) (hr : IsRd w g A c xs at_) (hm : xs.length ≤ 140737488355000) :
    Calls Try.prog 74 #[.pointer (some ⟨g, 0, none⟩), .int .i64 n] w fun e w' => ∃ v, e = .returned (.tuple #[v, .int .i64 (takeOf xs at_ n).2.2]) ∧ Reads8 w' v (takeOf xs at_ n).1 ∧ IsRd w' g A c xs (takeOf xs at_ n).2.1 ∧ w.grownBy w' (some g) := by
  unfold takeOf
  by_cases h1 : n < 0
  · rw [if_pos h1]
    exact (take_neg g A c xs at_ n w hr h1).mono fun e w' ⟨h, d⟩ => ⟨_, h, reads_nil _, hr.drawn d, grown_drawn (grown_refl _ _) d⟩
  · rw [if_neg h1]
    by_cases h2 : (xs.length : Int) - at_ < n
    · rw [if_pos h2]
      exact (take_short g A c xs at_ n w hr h2).mono fun e w' ⟨h, d⟩ => ⟨_, h, reads_nil _, hr.drawn d, grown_drawn (grown_refl _ _) d⟩
    · rw [if_neg h2]
      obtain ⟨m, rfl⟩ := Int.eq_ofNat_of_zero_le (show 0 ≤ n by omega)
      have ha := hr.atl
      rw [Int.toNat_natCast]
      refine (take_ok g A c xs at_ m w hr (by omega) (by omega) (midL xs at_ m) rfl).mono ?_
      rintro e w' ⟨⟨b, h, hC⟩, hr', hg⟩
      have hl : (midL xs at_ m).length = m := midL_len (by omega)
      exact ⟨_, h, ⟨_, m, by simp only [hl], by simp only [hl]; exact Nat.le_refl _, hC⟩, hr', hg⟩
theorem byte_any (g : Nat) (A : Option Addr) (c : Nat) (xs : List Int) (at_ : Nat) (w : World) (hr : IsRd w g A c xs at_) :
    Calls Try.prog 71 #[.pointer (some ⟨g, 0, none⟩)] w fun e w' => e = .returned (.tuple #[.int .i64 (numRes xs at_ 1).1, .int .i64 (numRes xs at_ 1).2.2]) ∧ IsRd w' g A c xs (numRes xs at_ 1).2.1 ∧ w.grownBy w' (some g) := by
  have ha := hr.atl
  unfold numRes
  by_cases h : xs.length < at_ + 1
  · rw [if_pos h]; exact (byte_short g A c xs at_ w hr (by omega)).mono fun e w' ⟨h, d⟩ => ⟨h, hr.drawn d, grown_drawn (grown_refl _ _) d⟩
  · rw [if_neg h, numOf, if_neg (by omega)]; exact byte_ok g A c xs at_ w hr (by omega)
theorem word_any (g : Nat) (A : Option Addr) (c : Nat) (xs : List Int) (at_ : Nat) (w : World) (hr : IsRd w g A c xs at_) :
    Calls Try.prog 73 #[.pointer (some ⟨g, 0, none⟩)] w fun e w' => e = .returned (.tuple #[.int .i64 (numRes xs at_ 2).1, .int .i64 (numRes xs at_ 2).2.2]) ∧ IsRd w' g A c xs (numRes xs at_ 2).2.1 ∧ w.grownBy w' (some g) := by
  have ha := hr.atl
  unfold numRes
  by_cases h : xs.length < at_ + 2
  · rw [if_pos h]; exact (word_short g A c xs at_ w hr (by omega)).mono fun e w' ⟨h, d⟩ => ⟨h, hr.drawn d, grown_drawn (grown_refl _ _) d⟩
  · rw [if_neg h, numOf, if_neg (by omega)]; exact word_ok g A c xs at_ w hr (by omega)
theorem take_T (T : List Int × Nat × Int) (g : Nat) (A : Option Addr) (c : Nat) (xs : List Int) (at_ : Nat) (n : Int) (w : World) (hT : Hid (T = takeOf xs at_ n)) (hr : IsRd w g A c xs at_) (hm : xs.length ≤ 140737488355000) :
    Calls Try.prog 74 #[.pointer (some ⟨g, 0, none⟩), .int .i64 n] w fun e w' => ∃ v, e = .returned (.tuple #[v, .int .i64 T.2.2]) ∧ Reads8 w' v T.1 ∧ IsRd w' g A c xs T.2.1 ∧ w.grownBy w' (some g) := by
  rw [hT.out]; exact take_any g A c xs at_ n w hr hm
theorem byte_T (T : Int × Nat × Int) (g : Nat) (A : Option Addr) (c : Nat) (xs : List Int) (at_ : Nat) (w : World) (hT : Hid (T = numRes xs at_ 1)) (hr : IsRd w g A c xs at_) :
    Calls Try.prog 71 #[.pointer (some ⟨g, 0, none⟩)] w fun e w' => e = .returned (.tuple #[.int .i64 T.1, .int .i64 T.2.2]) ∧ IsRd w' g A c xs T.2.1 ∧ w.grownBy w' (some g) := by
  rw [hT.out]; exact byte_any g A c xs at_ w hr
theorem word_T (T : Int × Nat × Int) (g : Nat) (A : Option Addr) (c : Nat) (xs : List Int) (at_ : Nat) (w : World) (hT : Hid (T = numRes xs at_ 2)) (hr : IsRd w g A c xs at_) :
    Calls Try.prog 73 #[.pointer (some ⟨g, 0, none⟩)] w fun e w' => e = .returned (.tuple #[.int .i64 T.1, .int .i64 T.2.2]) ∧ IsRd w' g A c xs T.2.1 ∧ w.grownBy w' (some g) := by
  rw [hT.out]; exact word_any g A c xs at_ w hr
theorem name_T (T : ByteArray × Nat × Int) (g : Nat) (A : Option Addr) (c : Nat) (xs : List Int) (at_ : Nat) (w : World) (hT : Hid (T = nameOf xs at_)) (hr : IsRd w g A c xs at_) :
    Calls Try.prog 72 #[.pointer (some ⟨g, 0, none⟩)] w fun e w' => e = .returned (.tuple #[.string T.1, .int .i64 T.2.2]) ∧ IsRd w' g A c xs T.2.1 ∧ w.grownBy w' (some g) := by
  rw [hT.out]; exact name_any g A c xs at_ w hr
theorem takeOf_len {xs : List Int} {at_ : Nat} {n : Int} : (takeOf xs at_ n).1.length ≤ xs.length := by
  unfold takeOf
  split
  · simp
  · split
    · simp
    · simp [midL]; omega
end Go.Proofs.Ytcjniogdjbplbaa.Rdr

/-! Op1 -/
namespace Go.Proofs.Ytcjniogdjbplbaa
open Rdr Mem Go.RowKit Go.Proofs.YtcjniogdjbplbaaW.PrintWords Go.Proofs.YtcjniogdjbplbaaW.PrintLast Go.Proofs.YtcjniogdjbplbaaW.PrintMore PStorePlays
variable {X : Nat → Prop}

theorem take_ok2 (g : Nat) (A : Option Addr) (c : Nat) (xs : List Int) (at_ : Nat) (n : Nat) (w : World) (hr : IsRd w g A c xs at_) (hn : at_ + n ≤ xs.length) (hl : n ≤ 140737488355328) (ys : List Int) (hys : Hid (ys = (xs.take (at_ + n)).drop at_)) :
    Calls Try.prog 74 #[.pointer (some ⟨g, 0, none⟩), .int .i64 n] w fun e w' => (∃ b, e = .returned (.tuple #[.slice (some ⟨b, 0, none⟩) n n, .int .i64 0]) ∧ w.heap.size ≤ b ∧ w'.heap[b]? = some (.cells (u8row ys) 5 (0, 0))) ∧ IsRd w' g A c xs (at_ + n) ∧ w.grownBy w' (some g) := by
  have HR := Lib.hid hr
  have HY := Lib.hid (show ys.length = n by rw [hys.out]; simp; omega)
  clear hr
  have hmk := run_make_len (P := Try.prog) 23 5 (.int .u8 0) 1 Try.underlying23 info5 rfl n (by omega) (by omega) n rfl
  have hzs := Lib.hid (size_madeCells #[.int .u8 0] n)
  generalize madeCells #[.int .u8 0] n = zs at hmk hzs
  go_enter Try.func74, Try.ntmps74
  go_wp2_with (first | (go_at_call 79; refine (next_ok g A c xs at_ n _ HR.out hn).mono ?_; rintro e w1 ⟨rfl, hr1, hg1⟩; have HR1 := Lib.hid hr1; have HG1 := Lib.hid hg1; have HC := Lib.hid (show U8C w1 (cutA A c at_) ys by rw [hys.out]; exact hr1.cut at_ (by omega)); have hcp := copy_ys (c := c - at_) HY.out HC.out zs hzs.out; clear hr1 hg1))
  go_ret2
  have hb : Below w1.heap.size w1 (w1.alloc (.cells (u8row ys) 5)) := (Below.refl _ _).alloc (Nat.le_refl _) _
  exact ⟨⟨_, rfl, HG1.out.size, heap_alloc_new _ _⟩, HR1.out.below hb, grown_below HG1.out hb⟩

/-- A new store, none of whose values lies in an elder block. -/
theorem st_fresh (w : World) : Calls Try.prog 9 #[] w fun e w' => e = .returned (.pointer (some ⟨w.heap.size + 1, 0, none⟩)) ∧ StAt (fun k => k < w.heap.size) w' (w.heap.size + 1) w.heap.size (.slice none 0 0) [] [] ∧ Below w.heap.size w w' := by
  have hmk := fun W : World => run_makeMap (P := Try.prog) 75 W
  go_enter Try.func9, Try.ntmps9
  go_wp2
  go_ret
  refine ⟨rfl, ⟨?_, ⟨rfl, .inl ⟨rfl, rfl⟩⟩, ?_, List.Pairwise.nil, by simp, by simp, by simp, fun k h => by simp; omega⟩, ?_⟩
  · have := heap_alloc_new (w.alloc (.map #[] 0)) (.cells #[.slice none 0 0, .map (some w.heap.size), .bool true] 77)
    simpa using this
  · refine (MapIs.made w _).step (Below.heap_alloc _ _ _ (by simp)) (fun k _ hlt => Below.heap_alloc _ _ _ hlt)
  · exact ((Below.refl _ w).alloc (Nat.le_refl _) _).alloc (by simp) _

/-- Bytes that Take tells: in a block that is new. -/
def New8 (w w' : World) (v : Value) (ys : List Int) : Prop := (ys = [] ∧ v = .slice none 0 0) ∨ ∃ b, v = .slice (some ⟨b, 0, none⟩) ys.length ys.length ∧ w.heap.size ≤ b ∧ w'.heap[b]? = some (.cells (u8row ys) 5 (0, 0))
theorem New8.form {w w' : World} {v : Value} {ys : List Int} (h : New8 w w' v ys) : ∃ A n c, v = .slice A n c := by
  rcases h with ⟨_, rfl⟩ | ⟨b, rfl, _⟩
  · exact ⟨_, _, _, rfl⟩
  · exact ⟨_, _, _, rfl⟩
theorem New8.val {w w' : World} {v : Value} {ys : List Int} {ok : Nat → Prop} (h : New8 w w' v ys) (hok : ∀ k, w.heap.size ≤ k → ok k) (hm : ys.length ≤ 9223372036854775807) : Val8 w' ok v ys := by
  rcases h with ⟨rfl, rfl⟩ | ⟨b, rfl, hb, hrow⟩
  · exact ⟨none, 0, rfl, Nat.le_refl _, fun _ _ => Kd.C_nil _ _⟩
  · exact ⟨_, _, rfl, Nat.le_refl _, fun _ hW => C8_blk (C_int_of_blk hrow (fun j x hj => u8row_at hj) hm) (fun ad e _ => by injection e with e; subst e; exact hW b (hok b hb) (blk_lt hrow))⟩

theorem take_new (T : List Int × Nat × Int) (g : Nat) (A : Option Addr) (c : Nat) (xs : List Int) (at_ : Nat) (n : Int) (w : World) (hT : Hid (T = takeOf xs at_ n)) (hr : IsRd w g A c xs at_) (hm : xs.length ≤ 140737488355000) :
    Calls Try.prog 74 #[.pointer (some ⟨g, 0, none⟩), .int .i64 n] w fun e w' => ∃ v, e = .returned (.tuple #[v, .int .i64 T.2.2]) ∧ New8 w w' v T.1 ∧ IsRd w' g A c xs T.2.1 ∧ w.grownBy w' (some g) := by
  rw [hT.out]
  unfold takeOf
  by_cases h1 : n < 0
  · rw [if_pos h1]
    exact (take_neg g A c xs at_ n w hr h1).mono fun e w' ⟨h, d⟩ => ⟨_, h, .inl ⟨rfl, rfl⟩, hr.drawn d, grown_drawn (grown_refl _ _) d⟩
  · rw [if_neg h1]
    by_cases h2 : (xs.length : Int) - at_ < n
    · rw [if_pos h2]
      exact (take_short g A c xs at_ n w hr h2).mono fun e w' ⟨h, d⟩ => ⟨_, h, .inl ⟨rfl, rfl⟩, hr.drawn d, grown_drawn (grown_refl _ _) d⟩
    · rw [if_neg h2]
      obtain ⟨m, rfl⟩ := Int.eq_ofNat_of_zero_le (show 0 ≤ n by omega)
      have ha := hr.atl
      rw [Int.toNat_natCast]
      refine (take_ok2 g A c xs at_ m w hr (by omega) (by omega) (midL xs at_ m) rfl).mono ?_
      rintro e w' ⟨⟨b, h, hb, hrow⟩, hr', hg⟩
      have hl : (midL xs at_ m).length = m := midL_len (by omega)
      exact ⟨_, h, .inr ⟨b, by simp only [hl], hb, hrow⟩, hr', hg⟩

/-- A record at a place: what is kept behind it, and where the next one stands. -/
def recS (xs : List Int) (at_ : Nat) (l : List S99) : Option (List S99 × Nat) :=
  if (nameOf xs (numRes xs at_ 1).2.1).2.2 ≠ 0 then none
  else if (numRes xs at_ 1).1 = 2 ∧ (plc l (nameOf xs (numRes xs at_ 1).2.1).1).2 = true then some (rem l (nameOf xs (numRes xs at_ 1).2.1).1, (nameOf xs (numRes xs at_ 1).2.1).2.1)
  else if (numRes xs at_ 1).1 ≠ 1 then none
  else if (numRes xs (nameOf xs (numRes xs at_ 1).2.1).2.1 2).2.2 ≠ 0 ∨ 4096 < (numRes xs (nameOf xs (numRes xs at_ 1).2.1).2.1 2).1 then none
  else if (takeOf xs (numRes xs (nameOf xs (numRes xs at_ 1).2.1).2.1 2).2.1 (numRes xs (nameOf xs (numRes xs at_ 1).2.1).2.1 2).1).2.2 ≠ 0 then none
  else if (ins l (nameOf xs (numRes xs at_ 1).2.1).1 (takeOf xs (numRes xs (nameOf xs (numRes xs at_ 1).2.1).2.1 2).2.1 (numRes xs (nameOf xs (numRes xs at_ 1).2.1).2.1 2).1).1).length ≤ 16
    then some (ins l (nameOf xs (numRes xs at_ 1).2.1).1 (takeOf xs (numRes xs (nameOf xs (numRes xs at_ 1).2.1).2.1 2).2.1 (numRes xs (nameOf xs (numRes xs at_ 1).2.1).2.1 2).1).1, (takeOf xs (numRes xs (nameOf xs (numRes xs at_ 1).2.1).2.1 2).2.1 (numRes xs (nameOf xs (numRes xs at_ 1).2.1).2.1 2).1).2.1)
    else none

theorem nameOf_name (xs : List Int) (at_ : Nat) : (nameOf xs at_).1.size ≤ 24 ∧ ((nameOf xs at_).2.2 = 0 → isNameB (nameOf xs at_).1 = true) := by
  unfold nameOf
  split
  · exact ⟨show (0 : Nat) ≤ 24 by omega, fun h => by cases h⟩
  · split
    · exact ⟨show (0 : Nat) ≤ 24 by omega, fun h => by cases h⟩
    · split
      · exact ⟨show (0 : Nat) ≤ 24 by omega, fun h => by cases h⟩
      · split
        · rename_i hi
          exact ⟨isNameB_size hi, fun _ => hi⟩
        · exact ⟨show (0 : Nat) ≤ 24 by omega, fun h => by cases h⟩

theorem StAt.turn {w w' : World} {g M : Nat} {vi : Value} {img : List Int} {l : List S99} (h : StAt X w g M vi img l) (hb : Chg X w w') (hX : ∀ k, X k → Rest g M vi k) : StAt X w' g M vi img l := by
  have hk : ∀ k, k < w.heap.size → ¬ X k → w'.heap[k]? = w.heap[k]? := fun k h1 h2 => hb.block k h1 h2
  refine ⟨?_, ?_, ?_, h.rise, h.room, h.few, h.small, fun k hk => Nat.lt_of_lt_of_le (h.low k hk) hb.size⟩
  · exact (hk g (blk_lt h.blk) (fun x => (hX g x).1 rfl)).trans h.blk
  · exact own_step h.own (fun k e => hk k (own_low h.own k e).2 (fun x => (hX k x).2.2 e))
  · exact h.map.step (hk M h.map.lt (fun x => (hX M x).2.1 rfl)) (fun k ho hlt => hk k hlt ho.2)
theorem Rdr.IsRd.other {w w' : World} {g M : Nat} {A : Option Addr} {c : Nat} {xs : List Int} {at_ : Nat} (h : IsRd w g A c xs at_) (hb : ∀ k, k < w.heap.size → k ≠ M → w'.heap[k]? = w.heap[k]?) (hM : g ≠ M) (hA : ∀ ad, A = some ad → 0 < xs.length → ad.block ≠ M) : IsRd w' g A c xs at_ :=
  ⟨(hb g (blk_lt h.blk) hM).trans h.blk, h.cap, h.atl, C8_blk h.rd (fun ad e hp => hb ad.block (by subst e; exact C_lt' h.rd hp) (hA ad e hp)), h.bytes, h.ne⟩
end Go.Proofs.Ytcjniogdjbplbaa

/-! Op2 -/
namespace Go.Proofs.Ytcjniogdjbplbaa
open Rdr Mem Go.RowKit Go.Proofs.YtcjniogdjbplbaaW.PrintWords Go.Proofs.YtcjniogdjbplbaaW.PrintLast Go.Proofs.YtcjniogdjbplbaaW.PrintMore PStorePlays

/-- What a record comes to in memory. -/
def RecOut (B : Nat) (w : World) (g M gr : Nat) (A : Option Addr) (c : Nat) (xs : List Int) (r : Option (List S99 × Nat)) (e : Ending) (w' : World) : Prop :=
  Chg (fun k => k = gr ∨ k = M) w w' ∧ match r with
  | none => e = .returned (.bool false)
  | some (l', at') => e = .returned (.bool true) ∧ StAt (fun k => k < B ∨ k = gr) w' g M (.slice none 0 0) [] l' ∧ IsRd w' gr A c xs at'

/-- The store and the reader, side by side. -/
structure SR (B : Nat) (w W : World) (g M gr : Nat) (A : Option Addr) (c : Nat) (xs : List Int) (at_ : Nat) (l : List S99) : Prop where
  st : StAt (fun k => k < B ∨ k = gr) W g M (.slice none 0 0) [] l
  rd : IsRd W gr A c xs at_
  chg : Chg (fun k => k = gr ∨ k = M) w W
  lg : B ≤ g
  lM : B ≤ M
theorem SR.next {B : Nat} {w W W' : World} {g M gr : Nat} {A : Option Addr} {c : Nat} {xs : List Int} {at_ at2 : Nat} {l : List S99} (h : SR B w W g M gr A c xs at_ l) (hg : W.grownBy W' (some gr)) (hr : IsRd W' gr A c xs at2) (h1 : gr ≠ g) (h2 : gr ≠ M) : SR B w W' g M gr A c xs at2 l :=
  ⟨h.st.turn (Chg.of_grown hg (fun k e => by injection e with e; exact .inr e.symm)) (fun k e => e.elim (fun e => ⟨by have := h.lg; omega, by have := h.lM; omega, by simp [Value.ownBlock]⟩) (fun e => by subst e; exact ⟨h1, h2, by simp [Value.ownBlock]⟩)), hr, h.chg.trans (Chg.of_grown hg (fun k e => by injection e with e; exact .inl e.symm)), h.lg, h.lM⟩

theorem SR.put {B : Nat} {w W : World} {g M gr : Nat} {A : Option Addr} {c : Nat} {xs : List Int} {at_ : Nat} {l : List S99} (h : SR B w W g M gr A c xs at_ l) (h2 : gr ≠ M) (hA : ∀ ad, A = some ad → 0 < xs.length → ad.block ≠ M) (s : ByteArray) (hs : isNameB s = true) (hm : s.size ≤ maxLen) (v : Value) (b : List Int) (hb : b.length ≤ 4096) (hv : Val8 W (RX (fun k => k < B ∨ k = gr) g M (.slice none 0 0)) v b) :
    ∃ w', (Instr.mapUpdate 75 (.map (some M)) (.string s) v).run Try.prog W = .ok () w' ∧ (∀ ty, (Builtin.len_ #[75] ty #[.map (some M)]).run Try.prog w' = .ok (.int .i64 (ins l s b).length) w') ∧ w'.cell? ⟨g, 1, none⟩ = some (.map (some M)) ∧ ((ins l s b).length ≤ 16 → SR B w w' g M gr A c xs at_ (ins l s b)) ∧ Chg (fun k => k = gr ∨ k = M) w w' := by
  obtain ⟨w', hrun, hm4, ht⟩ := h.st.map.store h.st.rise (by have := h.st.few; omega) (fun hM => hM.1.2.1 rfl) s hm v b hv
  have hgr := ht.grown
  have hk : ∀ k, k < W.heap.size → k ≠ M → w'.heap[k]? = W.heap[k]? := fun k hk hne => hgr.block k hk (fun e => by injection e with e; exact hne e)
  have hgM := h.st.gM.1
  have hc := h.chg.trans (Chg.of_grown hgr (S := fun k => k = gr ∨ k = M) (fun k e => by injection e with e; exact .inr e.symm))
  refine ⟨w', hrun, fun ty => hm4.len ty, ?_, fun h16 => ⟨⟨(hk g (blk_lt h.st.blk) hgM).trans h.st.blk, own_step h.st.own (fun k e => by simp [Value.ownBlock] at e), hm4, h.st.rise.ins s b, h.st.room, h16, fun x hx => (ins_mem hx).elim (fun e => by subst e; exact ⟨hb, hs⟩) (fun hx => h.st.small x hx), fun k e => Nat.lt_of_lt_of_le (h.st.low k e) hgr.size⟩, h.rd.other hk h2 hA, hc, h.lg, h.lM⟩, hc⟩
  exact (World.cell?_of_block (hk g (blk_lt h.st.blk) hgM)).trans ((blk_cell h.st.blk 1).trans rfl)
theorem SR.del {B : Nat} {w W : World} {g M gr : Nat} {A : Option Addr} {c : Nat} {xs : List Int} {at_ : Nat} {l : List S99} (h : SR B w W g M gr A c xs at_ l) (h2 : gr ≠ M) (hA : ∀ ad, A = some ad → 0 < xs.length → ad.block ≠ M) (s : ByteArray) (hm : s.size ≤ maxLen) (hin : (plc l s).2 = true) (ty : TypeId) :
    ∃ w', (Builtin.delete_ #[75, 9] ty #[.map (some M), .string s]).run Try.prog W = .ok (.tuple #[]) w' ∧ SR B w w' g M gr A c xs at_ (rem l s) := by
  obtain ⟨w', hrun, hm4, ht⟩ := h.st.map.drop h.st.rise (fun hM => hM.1.2.1 rfl) s hm hin ty
  have hgr := ht.grown
  have hk : ∀ k, k < W.heap.size → k ≠ M → w'.heap[k]? = W.heap[k]? := fun k hk hne => hgr.block k hk (fun e => by injection e with e; exact hne e)
  have hgM := h.st.gM.1
  have hc := h.chg.trans (Chg.of_grown hgr (S := fun k => k = gr ∨ k = M) (fun k e => by injection e with e; exact .inr e.symm))
  refine ⟨w', hrun, ⟨(hk g (blk_lt h.st.blk) hgM).trans h.st.blk, own_step h.st.own (fun k e => by simp [Value.ownBlock] at e), hm4, h.st.rise.rem s, h.st.room, ?_, fun x hx => h.st.small x (rem_mem hx), fun k e => Nat.lt_of_lt_of_le (h.st.low k e) hgr.size⟩, h.rd.other hk h2 hA, hc, h.lg, h.lM⟩
  have := h.st.few
  rw [rem_len', hin, if_pos rfl]
  omega

theorem takeOf_small {xs b : List Int} {at_ a : Nat} {n e : Int} (hT : Hid ((b, a, e) = takeOf xs at_ n)) (h4 : n ≤ 4096) : b.length ≤ 4096 := by
  have h := hT.out
  unfold takeOf at h
  split at h
  · injection h with h; subst h; simp
  · split at h
    · injection h with h; subst h; simp
    · injection h with h; subst h
      simp [midL]
      omega

set_option maxHeartbeats 4000000 in
set_option maxRecDepth 100000 in
theorem record_any (B : Nat) (g M gr : Nat) (A : Option Addr) (c : Nat) (xs : List Int) (at_ : Nat) (l : List S99) (w : World) (h : SR B w w g M gr A c xs at_ l) (h1 : gr ≠ g) (h2 : gr ≠ M) (hA : ∀ ad, A = some ad → 0 < xs.length → ad.block ≠ M) (hm : xs.length ≤ 1048576) :
    Calls Try.prog 54 #[.pointer (some ⟨g, 0, none⟩), .pointer (some ⟨gr, 0, none⟩)] w fun e w' => RecOut B w g M gr A c xs (recS xs at_ l) e w' := by
  unfold recS
  obtain ⟨T1, hT1⟩ : ∃ T, T = numRes xs at_ 1 := ⟨_, rfl⟩
  have HT1 := Lib.hid hT1
  rw [← hT1]
  clear hT1
  obtain ⟨kd, a1, e1⟩ := T1
  simp only
  obtain ⟨T2, hT2⟩ : ∃ T, T = nameOf xs a1 := ⟨_, rfl⟩
  have HT2 := Lib.hid hT2
  have hnn := nameOf_name xs a1
  rw [← hT2] at hnn ⊢
  clear hT2
  obtain ⟨nm, a2, e2⟩ := T2
  simp only at hnn ⊢
  obtain ⟨T3, hT3⟩ : ∃ T, T = numRes xs a2 2 := ⟨_, rfl⟩
  have HT3 := Lib.hid hT3
  rw [← hT3]
  clear hT3
  obtain ⟨n, a3, e3⟩ := T3
  simp only
  obtain ⟨T4, hT4⟩ : ∃ T, T = takeOf xs a3 n := ⟨_, rfl⟩
  have HT4 := Lib.hid hT4
  rw [← hT4]
  clear hT4
  obtain ⟨b, a4, e4⟩ := T4
  simp only
  have HSR := Lib.hid h
  have HNN := Lib.hid hnn
  have hnm : nm.size ≤ maxLen := by have := hnn.1; unfold maxLen; omega
  clear h hnn
  obtain ⟨tv, htv⟩ : ∃ tv, (plc l nm).2 = tv := ⟨_, rfl⟩
  have HTV := Lib.hid htv
  rw [htv]
  clear htv
  have HGL := Lib.hid (blk_lt HSR.out.st.blk)
  have HML := Lib.hid HSR.out.st.map.lt
  have HGRL := Lib.hid (blk_lt HSR.out.rd.blk)
  by_cases he2 : e2 = 0
  · rw [if_neg (by simp [he2])]
    have t1 : (e2 != 0) = false := by simp [he2]
    have HISN := Lib.hid (HNN.out.2 he2)
    clear he2
    by_cases hk2 : kd = 2 ∧ tv = true
    · rw [if_pos hk2]
      obtain ⟨rfl, rfl⟩ := hk2
      go_enter Try.func54, Try.ntmps54
      go_wp2_with (first
        | (go_at_call 71; refine (byte_T _ gr A c xs at_ _ HT1 HSR.out.rd).mono ?_; rintro e w1 ⟨rfl, hr1, hg1⟩; have HSR1 := Lib.hid (HSR.out.next hg1 hr1 h1 h2); clear hr1 hg1)
        | (go_at_call 72; refine (name_T _ gr A c xs a1 _ HT2 HSR1.out.rd).mono ?_; rintro e w2 ⟨rfl, hr2, hg2⟩; have hsr2 := HSR1.out.next hg2 hr2 h1 h2; obtain ⟨v2, hrun2, hgot2⟩ := hsr2.st.map.lookup nm hnm; rw [HTV.out] at hrun2; have x2 : w2.cell? ⟨g, 1, none⟩ = some (.map (some M)) := (blk_cell hsr2.st.blk 1).trans rfl; obtain ⟨w3, hrun3, hsr3⟩ := hsr2.del h2 hA nm hnm HTV.out 0; have HSR3 := Lib.hid hsr3; clear hsr3; have HSR2 := Lib.hid hsr2; clear hr2 hg2 hsr2 hgot2))
      go_ret
      exact ⟨HSR3.out.chg, rfl, HSR3.out.st, HSR3.out.rd⟩
    · rw [if_neg hk2]
      by_cases hk1 : kd = 1
      · subst hk1
        rw [if_neg (by simp)]
        clear hk2
        by_cases h3 : e3 ≠ 0 ∨ 4096 < n
        · rw [if_pos h3]
          by_cases he3 : e3 = 0
          · have h4 : 4096 < n := h3.resolve_left (by simp [he3])
            have t3 : (e3 != 0) = false := by simp [he3]
            clear h3 he3
            go_enter Try.func54, Try.ntmps54
            go_wp2_with (first
              | (go_at_call 71; refine (byte_T _ gr A c xs at_ _ HT1 HSR.out.rd).mono ?_; rintro e w1 ⟨rfl, hr1, hg1⟩; have HSR1 := Lib.hid (HSR.out.next hg1 hr1 h1 h2); clear hr1 hg1)
              | (go_at_call 72; refine (name_T _ gr A c xs a1 _ HT2 HSR1.out.rd).mono ?_; rintro e w2 ⟨rfl, hr2, hg2⟩; have hsr2 := HSR1.out.next hg2 hr2 h1 h2; obtain ⟨v2, hrun2, hgot2⟩ := hsr2.st.map.lookup nm hnm; rw [HTV.out] at hrun2; have x2 : w2.cell? ⟨g, 1, none⟩ = some (.map (some M)) := (blk_cell hsr2.st.blk 1).trans rfl; have HSR2 := Lib.hid hsr2; clear hr2 hg2 hsr2 hgot2)
              | (go_at_call 73; refine (word_T _ gr A c xs a2 _ HT3 HSR2.out.rd).mono ?_; rintro e w3 ⟨rfl, hr3, hg3⟩; have HSR3 := Lib.hid (HSR2.out.next hg3 hr3 h1 h2); clear hr3 hg3))
            go_ret
            exact ⟨HSR3.out.chg, rfl⟩
          · have t3 : (e3 != 0) = true := by simp [he3]
            clear h3 he3
            go_enter Try.func54, Try.ntmps54
            go_wp2_with (first
              | (go_at_call 71; refine (byte_T _ gr A c xs at_ _ HT1 HSR.out.rd).mono ?_; rintro e w1 ⟨rfl, hr1, hg1⟩; have HSR1 := Lib.hid (HSR.out.next hg1 hr1 h1 h2); clear hr1 hg1)
              | (go_at_call 72; refine (name_T _ gr A c xs a1 _ HT2 HSR1.out.rd).mono ?_; rintro e w2 ⟨rfl, hr2, hg2⟩; have hsr2 := HSR1.out.next hg2 hr2 h1 h2; obtain ⟨v2, hrun2, hgot2⟩ := hsr2.st.map.lookup nm hnm; rw [HTV.out] at hrun2; have x2 : w2.cell? ⟨g, 1, none⟩ = some (.map (some M)) := (blk_cell hsr2.st.blk 1).trans rfl; have HSR2 := Lib.hid hsr2; clear hr2 hg2 hsr2 hgot2)
              | (go_at_call 73; refine (word_T _ gr A c xs a2 _ HT3 HSR2.out.rd).mono ?_; rintro e w3 ⟨rfl, hr3, hg3⟩; have HSR3 := Lib.hid (HSR2.out.next hg3 hr3 h1 h2); clear hr3 hg3))
            go_ret
            exact ⟨HSR3.out.chg, rfl⟩
        · rw [if_neg h3]
          have t3 : (e3 != 0) = false := by
            have : e3 = 0 := Decidable.byContradiction fun e => h3 (.inl e)
            simp [this]
          have h4 : n ≤ 4096 := Int.not_lt.1 fun e => h3 (.inr e)
          clear h3
          by_cases he4 : e4 = 0
          · rw [if_neg (by simp [he4])]
            have t4 : (e4 != 0) = false := by simp [he4]
            have HBL := Lib.hid (show b.length ≤ 4096 from takeOf_small HT4 h4)
            clear he4
            by_cases h16 : (ins l nm b).length ≤ 16
            · rw [if_pos h16]
              have t5 : decide (((ins l nm b).length : Int) ≤ 16) = true := by simp; omega
              have H16 := Lib.hid h16
              clear h16
              go_enter Try.func54, Try.ntmps54
              go_wp2_with (first
                | (go_at_call 71; refine (byte_T _ gr A c xs at_ _ HT1 HSR.out.rd).mono ?_; rintro e w1 ⟨rfl, hr1, hg1⟩; have HSR1 := Lib.hid (HSR.out.next hg1 hr1 h1 h2); clear hr1 hg1)
                | (go_at_call 72; refine (name_T _ gr A c xs a1 _ HT2 HSR1.out.rd).mono ?_; rintro e w2 ⟨rfl, hr2, hg2⟩; have hsr2 := HSR1.out.next hg2 hr2 h1 h2; obtain ⟨v2, hrun2, hgot2⟩ := hsr2.st.map.lookup nm hnm; rw [HTV.out] at hrun2; have x2 : w2.cell? ⟨g, 1, none⟩ = some (.map (some M)) := (blk_cell hsr2.st.blk 1).trans rfl; have HSR2 := Lib.hid hsr2; clear hr2 hg2 hsr2 hgot2)
                | (go_at_call 73; refine (word_T _ gr A c xs a2 _ HT3 HSR2.out.rd).mono ?_; rintro e w3 ⟨rfl, hr3, hg3⟩; have HSR3 := Lib.hid (HSR2.out.next hg3 hr3 h1 h2); clear hr3 hg3)
                | (go_at_call 74; refine (take_new _ gr A c xs a3 n _ HT4 HSR3.out.rd (by omega)).mono ?_; rintro e w4 ⟨v4, rfl, hnew, hr4, hg4⟩; have hsr4 := HSR3.out.next hg4 hr4 h1 h2; obtain ⟨A4, n4, c4, ev4⟩ := hnew.form; subst ev4; have x4 : w4.cell? ⟨g, 1, none⟩ = some (.map (some M)) := (blk_cell hsr4.st.blk 1).trans rfl; obtain ⟨w5, hrun5, hlen5, x5, hsr5, hch5⟩ := hsr4.put h2 hA nm HISN.out hnm _ b (by have := HBL.out; omega) (hnew.val (fun k hk => ⟨⟨by have := HGL.out; have := HSR3.out.chg.size; omega, by have := HML.out; have := HSR3.out.chg.size; omega, by simp [Value.ownBlock]⟩, fun x => by have := HGRL.out; have := HSR3.out.chg.size; have := HSR.out.lg; have := HGL.out; omega⟩) (show b.length ≤ 9223372036854775807 by have := HBL.out; omega)); have hlen5' := hlen5 3; have HSR5 := Lib.hid hsr5; have HCH5 := Lib.hid hch5; clear hsr5 hch5 hlen5; have HSR4 := Lib.hid hsr4; clear hr4 hg4 hsr4 hnew))
              go_ret
              exact ⟨HCH5.out, rfl, (HSR5.out H16.out).st, (HSR5.out H16.out).rd⟩
            · rw [if_neg h16]
              have t5 : decide (((ins l nm b).length : Int) ≤ 16) = false := by simp; omega
              clear h16
              go_enter Try.func54, Try.ntmps54
              go_wp2_with (first
                | (go_at_call 71; refine (byte_T _ gr A c xs at_ _ HT1 HSR.out.rd).mono ?_; rintro e w1 ⟨rfl, hr1, hg1⟩; have HSR1 := Lib.hid (HSR.out.next hg1 hr1 h1 h2); clear hr1 hg1)
                | (go_at_call 72; refine (name_T _ gr A c xs a1 _ HT2 HSR1.out.rd).mono ?_; rintro e w2 ⟨rfl, hr2, hg2⟩; have hsr2 := HSR1.out.next hg2 hr2 h1 h2; obtain ⟨v2, hrun2, hgot2⟩ := hsr2.st.map.lookup nm hnm; rw [HTV.out] at hrun2; have x2 : w2.cell? ⟨g, 1, none⟩ = some (.map (some M)) := (blk_cell hsr2.st.blk 1).trans rfl; have HSR2 := Lib.hid hsr2; clear hr2 hg2 hsr2 hgot2)
                | (go_at_call 73; refine (word_T _ gr A c xs a2 _ HT3 HSR2.out.rd).mono ?_; rintro e w3 ⟨rfl, hr3, hg3⟩; have HSR3 := Lib.hid (HSR2.out.next hg3 hr3 h1 h2); clear hr3 hg3)
                | (go_at_call 74; refine (take_new _ gr A c xs a3 n _ HT4 HSR3.out.rd (by omega)).mono ?_; rintro e w4 ⟨v4, rfl, hnew, hr4, hg4⟩; have hsr4 := HSR3.out.next hg4 hr4 h1 h2; obtain ⟨A4, n4, c4, ev4⟩ := hnew.form; subst ev4; have x4 : w4.cell? ⟨g, 1, none⟩ = some (.map (some M)) := (blk_cell hsr4.st.blk 1).trans rfl; obtain ⟨w5, hrun5, hlen5, x5, hsr5, hch5⟩ := hsr4.put h2 hA nm HISN.out hnm _ b (by have := HBL.out; omega) (hnew.val (fun k hk => ⟨⟨by have := HGL.out; have := HSR3.out.chg.size; omega, by have := HML.out; have := HSR3.out.chg.size; omega, by simp [Value.ownBlock]⟩, fun x => by have := HGRL.out; have := HSR3.out.chg.size; have := HSR.out.lg; have := HGL.out; omega⟩) (show b.length ≤ 9223372036854775807 by have := HBL.out; omega)); have hlen5' := hlen5 3; have HSR5 := Lib.hid hsr5; have HCH5 := Lib.hid hch5; clear hsr5 hch5 hlen5; have HSR4 := Lib.hid hsr4; clear hr4 hg4 hsr4 hnew))
              go_ret
              exact ⟨HCH5.out, rfl⟩
          · rw [if_pos he4]
            have t4 : (e4 != 0) = true := by simp [he4]
            clear he4
            go_enter Try.func54, Try.ntmps54
            go_wp2_with (first
              | (go_at_call 71; refine (byte_T _ gr A c xs at_ _ HT1 HSR.out.rd).mono ?_; rintro e w1 ⟨rfl, hr1, hg1⟩; have HSR1 := Lib.hid (HSR.out.next hg1 hr1 h1 h2); clear hr1 hg1)
              | (go_at_call 72; refine (name_T _ gr A c xs a1 _ HT2 HSR1.out.rd).mono ?_; rintro e w2 ⟨rfl, hr2, hg2⟩; have hsr2 := HSR1.out.next hg2 hr2 h1 h2; obtain ⟨v2, hrun2, hgot2⟩ := hsr2.st.map.lookup nm hnm; rw [HTV.out] at hrun2; have x2 : w2.cell? ⟨g, 1, none⟩ = some (.map (some M)) := (blk_cell hsr2.st.blk 1).trans rfl; have HSR2 := Lib.hid hsr2; clear hr2 hg2 hsr2 hgot2)
              | (go_at_call 73; refine (word_T _ gr A c xs a2 _ HT3 HSR2.out.rd).mono ?_; rintro e w3 ⟨rfl, hr3, hg3⟩; have HSR3 := Lib.hid (HSR2.out.next hg3 hr3 h1 h2); clear hr3 hg3)
              | (go_at_call 74; refine (take_new _ gr A c xs a3 n _ HT4 HSR3.out.rd (by omega)).mono ?_; rintro e w4 ⟨v4, rfl, hnew, hr4, hg4⟩; have hsr4 := HSR3.out.next hg4 hr4 h1 h2; obtain ⟨A4, n4, c4, ev4⟩ := hnew.form; subst ev4; have x4 : w4.cell? ⟨g, 1, none⟩ = some (.map (some M)) := (blk_cell hsr4.st.blk 1).trans rfl; have HSR4 := Lib.hid hsr4; clear hr4 hg4 hsr4 hnew))
            go_ret
            exact ⟨HSR4.out.chg, rfl⟩
      · rw [if_pos hk1]
        have t2 : (kd != 1) = true := by simp [hk1]
        by_cases hkk : kd = 2
        · subst hkk
          have ht : tv = false := by simpa using hk2
          subst ht
          clear hk2 hk1
          go_enter Try.func54, Try.ntmps54
          go_wp2_with (first
            | (go_at_call 71; refine (byte_T _ gr A c xs at_ _ HT1 HSR.out.rd).mono ?_; rintro e w1 ⟨rfl, hr1, hg1⟩; have HSR1 := Lib.hid (HSR.out.next hg1 hr1 h1 h2); clear hr1 hg1)
            | (go_at_call 72; refine (name_T _ gr A c xs a1 _ HT2 HSR1.out.rd).mono ?_; rintro e w2 ⟨rfl, hr2, hg2⟩; have hsr2 := HSR1.out.next hg2 hr2 h1 h2; obtain ⟨v2, hrun2, hgot2⟩ := hsr2.st.map.lookup nm hnm; rw [HTV.out] at hrun2; have x2 : w2.cell? ⟨g, 1, none⟩ = some (.map (some M)) := (blk_cell hsr2.st.blk 1).trans rfl; have HSR2 := Lib.hid hsr2; clear hr2 hg2 hsr2 hgot2))
          go_ret
          exact ⟨HSR2.out.chg, rfl⟩
        · have t6 : (kd == 2) = false := by simp [hkk]
          clear hk2 hk1 hkk
          go_enter Try.func54, Try.ntmps54
          go_wp2_with (first
            | (go_at_call 71; refine (byte_T _ gr A c xs at_ _ HT1 HSR.out.rd).mono ?_; rintro e w1 ⟨rfl, hr1, hg1⟩; have HSR1 := Lib.hid (HSR.out.next hg1 hr1 h1 h2); clear hr1 hg1)
            | (go_at_call 72; refine (name_T _ gr A c xs a1 _ HT2 HSR1.out.rd).mono ?_; rintro e w2 ⟨rfl, hr2, hg2⟩; have hsr2 := HSR1.out.next hg2 hr2 h1 h2; obtain ⟨v2, hrun2, hgot2⟩ := hsr2.st.map.lookup nm hnm; rw [HTV.out] at hrun2; have x2 : w2.cell? ⟨g, 1, none⟩ = some (.map (some M)) := (blk_cell hsr2.st.blk 1).trans rfl; have HSR2 := Lib.hid hsr2; clear hr2 hg2 hsr2 hgot2))
          go_ret
          exact ⟨HSR2.out.chg, rfl⟩
  · rw [if_pos he2]
    have t1 : (e2 != 0) = true := by simp [he2]
    clear he2
    go_enter Try.func54, Try.ntmps54
    go_wp2_with (first
      | (go_at_call 71; refine (byte_T _ gr A c xs at_ _ HT1 HSR.out.rd).mono ?_; rintro e w1 ⟨rfl, hr1, hg1⟩; have HSR1 := Lib.hid (HSR.out.next hg1 hr1 h1 h2); clear hr1 hg1)
      | (go_at_call 72; refine (name_T _ gr A c xs a1 _ HT2 HSR1.out.rd).mono ?_; rintro e w2 ⟨rfl, hr2, hg2⟩; have hsr2 := HSR1.out.next hg2 hr2 h1 h2; obtain ⟨v2, hrun2, hgot2⟩ := hsr2.st.map.lookup nm hnm; rw [HTV.out] at hrun2; have x2 : w2.cell? ⟨g, 1, none⟩ = some (.map (some M)) := (blk_cell hsr2.st.blk 1).trans rfl; have HSR2 := Lib.hid hsr2; clear hr2 hg2 hsr2 hgot2))
    go_ret
    exact ⟨HSR2.out.chg, rfl⟩

end Go.Proofs.Ytcjniogdjbplbaa

/-! Op3 -/
namespace Go.Proofs.Ytcjniogdjbplbaa
open Rdr Mem Go.RowKit Go.Proofs.YtcjniogdjbplbaaW.PrintWords Go.Proofs.YtcjniogdjbplbaaW.PrintLast Go.Proofs.YtcjniogdjbplbaaW.PrintMore PStorePlays

/-- What an image comes to: what is kept, and where it ends. -/
def openF : Nat → List Int → Nat → List S99 → Option (List S99 × Nat)
  | 0, _, _, _ => none
  | f + 1, xs, at_, l => if at_ < xs.length ∧ rd xs at_ ≠ 0 then (recS xs at_ l).bind (fun p => openF f xs p.2 p.1) else some (l, at_)
def openS (xs : List Int) : Option (List S99 × Nat) := openF (xs.length + 1) xs 0 []

theorem numRes_ge (xs : List Int) (at_ n : Nat) : at_ ≤ (numRes xs at_ n).2.1 := by
  unfold numRes
  split
  · exact Nat.le_refl _
  · simp
theorem takeOf_ge (xs : List Int) (at_ : Nat) (n : Int) : at_ ≤ (takeOf xs at_ n).2.1 := by
  unfold takeOf
  split
  · exact Nat.le_refl _
  · split
    · exact Nat.le_refl _
    · simp
theorem nameOf_gt (xs : List Int) (at_ : Nat) (h : (nameOf xs at_).2.2 = 0) : at_ < (nameOf xs at_).2.1 := by
  unfold nameOf at h ⊢
  split at h
  · cases h
  · rename_i h1
    rw [if_neg h1]
    split at h
    · cases h
    · rename_i h2
      rw [if_neg h2]
      split at h
      · cases h
      · rename_i h3
        rw [if_neg h3]
        split at h
        · rename_i h4
          rw [if_pos h4]
          simp only
          omega
        · cases h
theorem recS_lt {xs : List Int} {at_ at2 : Nat} {l l2 : List S99} (h : recS xs at_ l = some (l2, at2)) : at_ < at2 := by
  unfold recS at h
  split at h
  · cases h
  · rename_i h2
    have h2 : (nameOf xs (numRes xs at_ 1).2.1).2.2 = 0 := Decidable.byContradiction h2
    have g1 := numRes_ge xs at_ 1
    have g2 := nameOf_gt xs _ h2
    split at h
    · injection h with h; injection h with _ h; omega
    · split at h
      · cases h
      · split at h
        · cases h
        · split at h
          · cases h
          · split at h
            · injection h with h; injection h with _ h
              have g3 := numRes_ge xs (nameOf xs (numRes xs at_ 1).2.1).2.1 2
              have g4 := takeOf_ge xs (numRes xs (nameOf xs (numRes xs at_ 1).2.1).2.1 2).2.1 (numRes xs (nameOf xs (numRes xs at_ 1).2.1).2.1 2).1
              omega
            · cases h

/-- What Open comes to. -/
def OpenOut (w : World) (xs : List Int) (r : Option (List S99 × Nat)) (e : Ending) (w' : World) : Prop :=
  Below w.heap.size w w' ∧ match r with
  | none => e = .returned (.tuple #[.pointer none, .int .i64 210])
  | some (l, at_) => ∃ g M vi, e = .returned (.tuple #[.pointer (some ⟨g, 0, none⟩), .int .i64 0]) ∧ w.heap.size ≤ g ∧ w.heap.size ≤ M ∧ (∀ k, vi.ownBlock = some k → w.heap.size ≤ k) ∧ StAt (fun k => k < w.heap.size) w' g M vi (xs.take at_) l

theorem open_long (A : Option Addr) (n c : Nat) (xs : List Int) (w : World) (hn : 1048576 < n) : Calls Try.prog 23 #[.slice A n c] w fun e w' => OpenOut w xs none e w' := by
  go_enter Try.func23, Try.ntmps23
  go_wp2
  go_ret2
  exact ⟨Below.refl _ _, rfl⟩

theorem SR.drewN {B : Nat} {w W : World} {g M gr : Nat} {A : Option Addr} {c : Nat} {xs : List Int} {at_ : Nat} {l : List S99} (h : SR B w W g M gr A c xs at_ l) (m : Nat) : SR B w (W.drewN m) g M gr A c xs at_ l :=
  ⟨h.st.keep (fun _ _ => rfl), h.rd.drawn ⟨⟨m, rfl⟩⟩, h.chg.trans ⟨rfl, rfl, rfl, Nat.le_refl _, fun _ _ _ => rfl⟩, h.lg, h.lM⟩

theorem open_end {w W0 W : World} {g0 gr at_ : Nat} {Ar : Option Addr} {c : Nat} {xs : List Int} {l : List S99} (hg : w.heap.size = g0) (hb : Below w.heap.size w W) (h : SR g0 W0 W (g0 + 1) g0 gr Ar c xs at_ l) (_ : g0 < gr) (ha : at_ ≤ xs.length) (hm : xs.length ≤ 1048576) :
    OpenOut w xs (some (l, at_)) (.returned (.tuple #[.pointer (some ⟨g0 + 1, 0, none⟩), .int .i64 0])) ((W.alloc (.cells (u8row (xs.take at_)) 5)).setCell ⟨g0 + 1, 0, none⟩ (.slice (some ⟨W.heap.size, 0, none⟩) at_ at_)) := by
  have hgl : g0 + 1 < W.heap.size := blk_lt h.st.blk
  have hle := hb.size
  have hk : ∀ k, k < W.heap.size → k ≠ g0 + 1 → ((W.alloc (.cells (u8row (xs.take at_)) 5)).setCell ⟨g0 + 1, 0, none⟩ (.slice (some ⟨W.heap.size, 0, none⟩) at_ at_)).heap[k]? = W.heap[k]? := fun k hk hne => by
    rw [Below.heap_setCell _ _ _ _ hne, Below.heap_alloc _ _ _ hk]
  have htl : (xs.take at_).length = at_ := by simp; omega
  have hown := u8row_own W (xs.take at_) (by omega)
  rw [htl] at hown
  refine ⟨⟨hb.os, hb.tape, hb.output, by simp [World.setCell]; omega, fun k hlt => (hk k (by omega) (by omega)).trans (hb.block k hlt)⟩, g0 + 1, g0, .slice (some ⟨W.heap.size, 0, none⟩) at_ at_, rfl, by omega, by omega, fun k e => ?_, ⟨?_, ?_, ?_, h.st.rise, by rw [htl]; omega, h.st.few, h.st.small, fun k e => by simp [World.setCell]; omega⟩⟩
  · simp [Value.ownBlock] at e
    omega
  · exact (blk_set ((Below.heap_alloc W _ _ hgl).trans h.st.blk) 0 _).trans rfl
  · rw [htl]
    exact own_drop (own_step hown (fun k hk => Below.heap_setCell _ _ _ _ (fun e => by have h5 := (own_low hown k hk).1; simp at e; omega))) (fun k _ => Nat.zero_le k)
  · have hm : MapIs W g0 (fun k => RX (fun k => k < g0 ∨ k = gr) (g0 + 1) g0 (.slice none 0 0) k ∧ k < W.heap.size) l := h.st.map.mono (fun k hk hlt => ⟨hk, hlt⟩)
    refine (hm.step (hk g0 (by omega) (by omega)) (fun k ho hlt => hk k hlt ho.1.1.1)).mono (fun k ho _ => ⟨⟨ho.1.1.1, ho.1.1.2.1, fun e => ?_⟩, fun x => ho.1.2 (.inl (by omega))⟩)
    have := ho.2
    simp [Value.ownBlock] at e
    omega

set_option maxHeartbeats 4000000 in
set_option maxRecDepth 100000 in
theorem open_any (A : Option Addr) (n c : Nat) (xs : List Int) (w : World) (hx : U8C w A xs) (hn : Hid (n = xs.length)) (hc : n ≤ c) (hl : n ≤ 1048576) (hb : ∀ x ∈ xs, 0 ≤ x ∧ x ≤ 255) :
    Calls Try.prog 23 #[.slice A n c] w fun e w' => OpenOut w xs (openS xs) e w' := by
  have HX := Lib.hid hx
  have HBY := Lib.hid hb
  clear hx hb
  go_enter Try.func23, Try.ntmps23
  go_wp2_with fail
  refine (st_fresh w).mono ?_
  rintro e w1 ⟨rfl, hst, hb1⟩
  have HST := Lib.hid hst
  have HB1 := Lib.hid hb1
  clear hst hb1
  go_wp2_with fail
  refine (over_any A c n xs w1 (Kd.C_below HX.out HB1.out) hn (by omega)).mono ?_
  rintro e w2 ⟨rfl, rfl⟩
  have hov := over_rd w1 xs (by have := hn.out; omega) HBY.out
  have HG0 := Lib.hid (blk_lt HST.out.blk)
  have hsr : SR w.heap.size (overWorld w1 xs) (overWorld w1 xs) (w.heap.size + 1) w.heap.size (w1.heap.size + 1) (some ⟨w1.heap.size, 0, none⟩) xs.length xs 0 [] :=
    ⟨(HST.out.shun hov.2 rfl rfl).less (fun k e => e.elim (fun e => .inl e) (fun e => .inr ⟨by omega, by have := blk_lt hov.1.blk; omega⟩)), hov.1, Chg.refl _ _, by omega, Nat.le_refl _⟩
  have HBO := Lib.hid (HB1.out.trans (hov.2.mono HB1.out.size))
  have HAB := Lib.hid (show ∀ ad, (some ⟨w1.heap.size, 0, none⟩ : Option Addr) = some ad → 0 < xs.length → ad.block ≠ w.heap.size from fun ad e _ => by injection e with e; subst e; have := HG0.out; simp; omega)
  have HGR := Lib.hid (show w1.heap.size + 1 ≠ w.heap.size + 1 ∧ w1.heap.size + 1 ≠ w.heap.size ∧ w1.heap.size + 1 < (overWorld w1 xs).heap.size by have := HG0.out; exact ⟨by omega, by omega, blk_lt hov.1.blk⟩)
  have HLT := Lib.hid (show w.heap.size < w1.heap.size + 1 ∧ w.heap.size < (overWorld w1 xs).heap.size by have := HG0.out; have := blk_lt hov.1.blk; omega)
  have HSR := Lib.hid hsr
  clear hsr hov HST
  generalize overWorld w1 xs = W0 at *
  generalize (some ⟨w1.heap.size, 0, none⟩ : Option Addr) = Ar at *
  generalize w1.heap.size + 1 = gr at *
  generalize hg0 : w.heap.size = g0 at *
  have HW := Lib.hid hg0
  clear hg0 HB1 HG0
  go_wp2_with fail
  go_loopg [12] (xs.length + 1) (fun k t wr => ∃ (at_ : Nat) (l : List S99), xs.length - at_ < k ∧ openF k xs at_ l = openS xs ∧ SR g0 W0 wr (g0 + 1) g0 gr Ar xs.length xs at_ l)
  case atStart => exact ⟨0, [], by omega, rfl, HSR.out⟩
  case round =>
    obtain ⟨at_, l, hk, hop, hsr⟩ := hrel
    have HSR := Lib.hid hsr
    have HOP := Lib.hid hop
    have HK := Lib.hid hk
    have hatl := hsr.rd.atl
    clear hsr hop hk
    have hmx : xs.length ≤ 9223372036854775807 := by have := hn.out; omega
    have HBW := Lib.hid (show Below w.heap.size w wr from HW.out.symm ▸ HBO.out.trans (HSR.out.chg.below (by have := HLT.out; omega) (fun k hk e => by have := HLT.out; rcases e with e | e <;> omega)))
    by_cases hco : at_ < xs.length ∧ rd xs at_ ≠ 0
    · obtain ⟨hlt, hz⟩ := hco
      obtain ⟨ad, rfl, hcell⟩ := Kd.at_int (Kd.C_below HX.out HBW.out) (at_ : Int) (by omega) (by omega)
      rw [Int.toNat_natCast] at hcell
      have hzb : (rd xs at_ != 0) = true := by simp [hz]
      have hgt : decide ((xs.length : Int) - at_ > 0) = true := by simp; omega
      have hn2 : (at_ : Int) < n := by have := hn.out; omega
      obtain ⟨y, hy⟩ : ∃ y, rd xs at_ = y := ⟨_, rfl⟩
      rw [hy] at hcell hzb
      have HZ := Lib.hid hz
      clear hz hy
      go_wp2_with (first
        | (go_at_call 52; refine (left_yes gr Ar xs.length xs.length at_ wr hatl hmx HSR.out.rd.blk).mono ?_; rintro e w3 ⟨rfl, ⟨m3, rfl⟩⟩)
        | (go_at_call 53; refine (at_yes gr _ at_ (wr.drewN m3) HSR.out.rd.blk).mono ?_; rintro e w4 ⟨rfl, rfl⟩))
      have HSRd := HSR.out.drewN m3
      refine (record_any g0 (g0 + 1) g0 gr Ar xs.length xs at_ l (wr.drewN m3) ⟨HSRd.st, HSRd.rd, Chg.refl _ _, HSRd.lg, HSRd.lM⟩ HGR.out.1 HGR.out.2.1 (by exact HAB.out) (by have := hn.out; omega)).mono ?_
      rintro e w5 ⟨hch5, hres⟩
      have hop2 := HOP.out
      have hkk := HK.out
      obtain ⟨f, rfl⟩ : ∃ f, gk = f + 1 := ⟨gk - 1, by omega⟩
      rw [openF, if_pos ⟨hlt, HZ.out⟩] at hop2
      have HCH := Lib.hid (HSRd.chg.trans hch5)
      cases hr : recS xs at_ l with
      | none =>
        rw [hr] at hres hop2
        simp only at hres
        subst hres
        have HOS := Lib.hid hop2.symm
        clear hop2 hkk hr hch5 HSRd
        go_wp2_with fail
        go_ret2
        rw [HOS.out]
        exact ⟨show Below w.heap.size w w5 from HW.out.symm ▸ HBO.out.trans (HCH.out.below (by have := HLT.out; omega) (fun k hk e => by have := HLT.out; rcases e with e | e <;> omega)), rfl⟩
      | some p =>
        obtain ⟨l2, at2⟩ := p
        rw [hr] at hres hop2
        simp only at hres
        obtain ⟨rfl, hst5, hrd5⟩ := hres
        have HS5 := Lib.hid (show SR g0 W0 w5 (g0 + 1) g0 gr Ar xs.length xs at2 l2 from ⟨hst5, hrd5, HCH.out, by omega, by omega⟩)
        have HO5 := Lib.hid (show openF f xs at2 l2 = openS xs from hop2)
        have HK5 := Lib.hid (show xs.length - at2 < f by have := recS_lt hr; have := hrd5.atl; omega)
        clear hop2 hkk hr hch5 HSRd hst5 hrd5
        go_wp2_with fail
        go_roundg f
        case measure => omega
        case rel => exact ⟨at2, l2, HK5.out, HO5.out, HS5.out⟩
    · have HEND := Lib.hid (show openS xs = some (l, at_) by
        have h1 := HOP.out
        have h2 := HK.out
        obtain ⟨f, rfl⟩ : ∃ f, gk = f + 1 := ⟨gk - 1, by omega⟩
        rw [openF, if_neg hco] at h1
        exact h1.symm)
      obtain ⟨i0, hi0, _⟩ := info_parts info5
      have hsl := cut_to (P := Try.prog) 23 5 .i64 Try.underlying23 hi0 A n c (at_ : Int) (by omega) (by have := hn.out; omega) hc
      rw [Int.toNat_natCast] at hsl
      have HTL := Lib.hid (show at_ = (xs.take at_).length by simp; omega)
      have HCT := Lib.hid (show U8C wr A (xs.take at_) from Kd.C_take (Kd.C_below HX.out HBW.out) (by omega))
      have hl4 : at_ ≤ 140737488355328 := by have := hn.out; omega
      have u0 : wr.cell? ⟨g0 + 1, 0, none⟩ = some (.slice none 0 0) := (blk_cell HSR.out.st.blk 0).trans rfl
      have f0 : wr.frozen? ⟨g0 + 1, 0, none⟩ = false := blk_frozen HSR.out.st.blk 0
      have hgl : g0 + 1 < wr.heap.size := blk_lt HSR.out.st.blk
      rcases Nat.lt_or_ge at_ xs.length with hlt | hge
      · have hz : rd xs at_ = 0 := Decidable.byContradiction fun e => hco ⟨hlt, e⟩
        obtain ⟨ad, rfl, hcell⟩ := Kd.at_int (Kd.C_below HX.out HBW.out) (at_ : Int) (by omega) (by omega)
        rw [Int.toNat_natCast, hz] at hcell
        have hgt : decide ((xs.length : Int) - at_ > 0) = true := by simp; omega
        have hn2 : (at_ : Int) < n := by have := hn.out; omega
        clear hco hz
        go_wp2_with (first
          | (go_at_call 52; refine (left_yes gr Ar xs.length xs.length at_ wr hatl hmx HSR.out.rd.blk).mono ?_; rintro e w3 ⟨rfl, ⟨m3, rfl⟩⟩)
          | (go_at_call 53; refine (at_yes gr (.slice Ar xs.length xs.length) at_ (wr.drewN m3) HSR.out.rd.blk).mono ?_; rintro e w4 ⟨rfl, rfl⟩)
          | (go_at_call 38; refine (cloned_any _ c at_ (xs.take at_) (wr.drewN m3) (Kd.C_drewN HCT.out m3) HTL hl4).mono ?_; rintro e w6 ⟨rfl, rfl⟩; have u1 : ((wr.drewN m3).alloc (.cells (u8row (xs.take at_)) 5)).cell? ⟨g0 + 1, 0, none⟩ = some (.slice none 0 0) := (blk_cell ((Below.heap_alloc (wr.drewN m3) _ _ hgl).trans HSR.out.st.blk) 0).trans rfl; have f1 : ((wr.drewN m3).alloc (.cells (u8row (xs.take at_)) 5)).frozen? ⟨g0 + 1, 0, none⟩ = false := blk_frozen ((Below.heap_alloc (wr.drewN m3) _ _ hgl).trans HSR.out.st.blk) 0))
        go_ret2
        rw [HEND.out]
        exact open_end (W := wr.drewN m3) (HW.out) (pw_below_drewN HBW.out m3) (HSR.out.drewN m3) HLT.out.1 hatl (by have := hn.out; omega)
      · have hgt : decide ((xs.length : Int) - at_ > 0) = false := by simp; omega
        clear hco
        go_wp2_with (first
          | (go_at_call 52; refine (left_yes gr Ar xs.length xs.length at_ wr hatl hmx HSR.out.rd.blk).mono ?_; rintro e w3 ⟨rfl, ⟨m3, rfl⟩⟩)
          | (go_at_call 53; refine (at_yes gr (.slice Ar xs.length xs.length) at_ (wr.drewN m3) HSR.out.rd.blk).mono ?_; rintro e w4 ⟨rfl, rfl⟩)
          | (go_at_call 38; refine (cloned_any _ c at_ (xs.take at_) (wr.drewN m3) (Kd.C_drewN HCT.out m3) HTL hl4).mono ?_; rintro e w6 ⟨rfl, rfl⟩; have u1 : ((wr.drewN m3).alloc (.cells (u8row (xs.take at_)) 5)).cell? ⟨g0 + 1, 0, none⟩ = some (.slice none 0 0) := (blk_cell ((Below.heap_alloc (wr.drewN m3) _ _ hgl).trans HSR.out.st.blk) 0).trans rfl; have f1 : ((wr.drewN m3).alloc (.cells (u8row (xs.take at_)) 5)).frozen? ⟨g0 + 1, 0, none⟩ = false := blk_frozen ((Below.heap_alloc (wr.drewN m3) _ _ hgl).trans HSR.out.st.blk) 0))
        go_ret2
        rw [HEND.out]
        exact open_end (W := wr.drewN m3) (HW.out) (pw_below_drewN HBW.out m3) (HSR.out.drewN m3) HLT.out.1 hatl (by have := hn.out; omega)

end Go.Proofs.Ytcjniogdjbplbaa

/-! Pl1 -/
namespace Go.Proofs.Ytcjniogdjbplbaa
open Rdr Mem Go.RowKit Go.Proofs.YtcjniogdjbplbaaW.PrintWords Go.Proofs.YtcjniogdjbplbaaW.PrintLast Go.Proofs.YtcjniogdjbplbaaW.PrintMore PStorePlays

theorem midL_app (a r : List Int) (i n at_ : Nat) (e : at_ = a.length + i) : midL (a ++ r) at_ n = (r.drop i).take n := by
  subst e
  unfold midL
  rw [List.drop_take, show a.length + i + n - (a.length + i) = n by omega, List.drop_append]
  rw [List.drop_of_length_le (by omega), List.nil_append, show a.length + i - a.length = i by omega]
theorem rd_app (a r : List Int) (i : Nat) (at_ : Nat) (e : at_ = a.length + i) : rd (a ++ r) at_ = rd r i := by
  subst e
  unfold rd
  simp only [Int.toNat_natCast, List.getD_eq_getElem?_getD]
  rw [List.getElem?_append_right (by omega), show a.length + i - a.length = i by omega]
theorem strOfNums_bts (s : ByteArray) : strOfNums (bts s) = s := by
  refine nm_inj ?_
  show (strOfNums (bts s)).data.toList = s.data.toList
  rw [strOfNums_data]
  unfold bts
  rw [List.map_map]
  conv => rhs; rw [← List.map_id s.data.toList]
  refine List.map_congr_left (fun b _ => ?_)
  simp

theorem num_one (xs : List Int) (at_ : Nat) (k : Int) (hl : at_ + 1 ≤ xs.length) (hm : midL xs at_ 1 = [k]) (h0 : 0 ≤ k) (h1 : k ≤ 255) : numRes xs at_ 1 = (k, at_ + 1, 0) := by
  unfold numRes
  rw [if_neg (by omega)]
  unfold numOf
  rw [if_neg (by omega), hm]
  have : num32 [k] = k := by simp [num32]; omega
  rw [this]
theorem num_two (xs : List Int) (at_ n : Nat) (hl : at_ + 2 ≤ xs.length) (hm : midL xs at_ 2 = [(n : Int) / 256, (n : Int) % 256]) (h1 : n ≤ 65535) : numRes xs at_ 2 = ((n : Int), at_ + 2, 0) := by
  unfold numRes
  rw [if_neg (by omega)]
  unfold numOf
  rw [if_neg (by omega), hm]
  have : num32 [(n : Int) / 256, (n : Int) % 256] = n := by simp [num32]; omega
  rw [this]
theorem take_at (xs : List Int) (at_ : Nat) (b : List Int) (hl : at_ + b.length ≤ xs.length) (hm : midL xs at_ b.length = b) : takeOf xs at_ b.length = (b, at_ + b.length, 0) := by
  unfold takeOf
  rw [if_neg (by omega), if_neg (by omega), Int.toNat_natCast, hm]
theorem name_at (xs : List Int) (at_ : Nat) (s : ByteArray) (hs : isNameB s = true) (hl : at_ + 1 + s.size ≤ xs.length) (hr : rd xs at_ = s.size) (hm : midL xs (at_ + 1) s.size = bts s) : nameOf xs at_ = (s, at_ + 1 + s.size, 0) := by
  have h24 := isNameB_size hs
  have h1 : 1 ≤ s.size := by
    unfold isNameB at hs
    simp only [Bool.and_eq_true, decide_eq_true_eq] at hs
    exact hs.1.1
  unfold nameOf
  rw [if_neg (by omega), hr, if_neg (by omega), Int.toNat_natCast, if_neg (by omega), hm, strOfNums_bts, if_pos hs]

/-- A record of a name and its bytes is read again. -/
theorem rec_put (img tail : List Int) (l : List S99) (s : ByteArray) (b : List Int) (hs : isNameB s = true) (hb : b.length ≤ 4096) (h16 : (ins l s b).length ≤ 16) :
    recS (img ++ (recB 1 s b ++ tail)) img.length l = some (ins l s b, img.length + (recB 1 s b).length) := by
  have h24 := isNameB_size hs
  have hrl : (recB 1 s b).length = 4 + s.size + b.length := by rw [recB_len]; simp
  have hbl := bts_len s
  have er : recB 1 s b = [1, (s.size : Int)] ++ (bts s ++ ([(b.length : Int) / 256, (b.length : Int) % 256] ++ b)) := by simp [recB]
  have e1 : numRes (img ++ (recB 1 s b ++ tail)) img.length 1 = (1, img.length + 1, 0) :=
    num_one _ _ _ (by simp; omega) (by rw [midL_app img _ 0 1 img.length rfl, er]; simp) (by omega) (by omega)
  have e2 : nameOf (img ++ (recB 1 s b ++ tail)) (img.length + 1) = (s, img.length + 1 + 1 + s.size, 0) := by
    refine name_at _ _ s hs (by simp; omega) ?_ ?_
    · rw [rd_app img _ 1 _ rfl, er]; simp [rd]
    · rw [midL_app img _ 2 _ _ rfl, er]
      simp only [List.append_assoc, List.cons_append, List.nil_append, List.drop_succ_cons, List.drop_zero]
      rw [← hbl, List.take_left]
  have e3 : numRes (img ++ (recB 1 s b ++ tail)) (img.length + 1 + 1 + s.size) 2 = ((b.length : Int), img.length + 1 + 1 + s.size + 2, 0) := by
    refine num_two _ _ _ (by simp; omega) ?_ (by omega)
    rw [midL_app img _ (2 + s.size) _ _ (by omega), er]
    simp only [List.append_assoc, List.cons_append, List.nil_append]
    rw [show 2 + s.size = (bts s).length + 1 + 1 by omega, List.drop_succ_cons, List.drop_succ_cons, List.drop_left]
    simp
  have e4 : takeOf (img ++ (recB 1 s b ++ tail)) (img.length + 1 + 1 + s.size + 2) b.length = (b, img.length + 1 + 1 + s.size + 2 + b.length, 0) := by
    refine take_at _ _ b (by simp; omega) ?_
    rw [midL_app img _ (4 + s.size) _ _ (by omega), er]
    simp only [List.append_assoc, List.cons_append, List.nil_append]
    rw [show 4 + s.size = (bts s).length + 2 + 1 + 1 by omega, List.drop_succ_cons, List.drop_succ_cons, ← List.drop_drop, List.drop_left]
    simp
  unfold recS
  rw [e1]
  simp only
  rw [e2]
  simp only
  rw [e3]
  simp only
  rw [e4]
  simp only
  rw [if_neg (by simp), if_neg (by simp), if_neg (by simp), if_neg (by simp; omega), if_neg (by simp), if_pos h16, hrl]
  congr 2
  omega
/-- .. and one that takes a name away. -/
theorem rec_drop (img tail : List Int) (l : List S99) (s : ByteArray) (hs : isNameB s = true) (ht : (plc l s).2 = true) :
    recS (img ++ (recB 2 s [] ++ tail)) img.length l = some (rem l s, img.length + (recB 2 s []).length) := by
  have h24 := isNameB_size hs
  have hrl : (recB 2 s []).length = 2 + s.size := by rw [recB_len]; simp
  have hbl := bts_len s
  have er : recB 2 s [] = [2, (s.size : Int)] ++ bts s := by simp [recB]
  have e1 : numRes (img ++ (recB 2 s [] ++ tail)) img.length 1 = (2, img.length + 1, 0) :=
    num_one _ _ _ (by simp; omega) (by rw [midL_app img _ 0 1 img.length rfl, er]; simp) (by omega) (by omega)
  have e2 : nameOf (img ++ (recB 2 s [] ++ tail)) (img.length + 1) = (s, img.length + 1 + 1 + s.size, 0) := by
    refine name_at _ _ s hs (by simp; omega) ?_ ?_
    · rw [rd_app img _ 1 _ rfl, er]; simp [rd]
    · rw [midL_app img _ 2 _ _ rfl, er]
      simp only [List.cons_append, List.nil_append, List.drop_succ_cons, List.drop_zero]
      rw [← hbl, List.take_left]
  unfold recS
  rw [e1]
  simp only
  rw [e2]
  simp only
  rw [if_neg (by simp), if_pos ⟨trivial, ht⟩, hrl]
  congr 2
  omega

/-- Read up to its end, an image comes to what is kept, whatever lies behind. -/
def Par (img : List Int) (l : List S99) : Prop := ∀ tail, ∃ f, f ≤ img.length ∧ ∀ k, openF (f + k) (img ++ tail) 0 [] = openF k (img ++ tail) img.length l
theorem Par.nil : Par [] [] := fun tail => ⟨0, Nat.le_refl _, fun k => by rw [Nat.zero_add]; rfl⟩
theorem Par.more {img rec : List Int} {l l' : List S99} (h : Par img l) (hr : ∀ tail, recS (img ++ (rec ++ tail)) img.length l = some (l', img.length + rec.length)) (h0 : rd rec 0 ≠ 0) (hl : 1 ≤ rec.length) : Par (img ++ rec) l' := fun tail => by
  obtain ⟨f, hf, hk⟩ := h (rec ++ tail)
  refine ⟨f + 1, by simp; omega, fun k => ?_⟩
  rw [List.append_assoc, show f + 1 + k = f + (k + 1) by omega, hk, openF]
  have e : rd (img ++ (rec ++ tail)) img.length ≠ 0 := by
    rw [rd_app img _ 0 img.length rfl]
    unfold rd at h0 ⊢
    rw [List.getD_eq_getElem?_getD, List.getElem?_append_left (by simp; omega)]
    rw [List.getD_eq_getElem?_getD] at h0
    exact h0
  rw [if_pos ⟨by simp; omega, e⟩, hr tail]
  simp
/-- An image, and what lies behind it in front of no record. -/
theorem Par.opens {img : List Int} {l : List S99} (h : Par img l) (tail : List Int) (ht : tail = [] ∨ rd tail 0 = 0) : openS (img ++ tail) = some (l, img.length) := by
  obtain ⟨f, hf, hk⟩ := h tail
  unfold openS
  have e : (img ++ tail).length + 1 = f + ((img ++ tail).length - f + 1) := by simp; omega
  rw [e, hk, openF, if_neg]
  rintro ⟨h1, h2⟩
  rcases ht with rfl | ht
  · simp at h1
  · rw [rd_app img _ 0 img.length rfl] at h2
    exact h2 ht

theorem recB_head (k : Int) (s : ByteArray) (b : List Int) : recB k s b = k :: (recB k s b).tail ∧ rd (recB k s b) 0 = k ∧ 1 ≤ (recB k s b).length := by
  unfold recB
  simp [rd]

/-- The least image. -/
def packL (l : List S99) : List Int := l.flatMap (fun k => recB 1 k.f0 k.f1)
theorem packL_ins (l : List S99) (s : ByteArray) (b : List Int) : (packL (ins l s b)).length ≤ (packL l).length + (recB 1 s b).length := by
  have e := List.take_append_drop (plc l s).1 l
  have h1 : (packL l).length = (packL (l.take (plc l s).1)).length + (packL (l.drop (plc l s).1)).length := by
    conv => lhs; rw [← e]
    unfold packL
    rw [List.flatMap_append, List.length_append]
  have h2 : (packL (l.drop (if (plc l s).2 = true then (plc l s).1 + 1 else (plc l s).1))).length ≤ (packL (l.drop (plc l s).1)).length := by
    split
    · rw [← List.drop_drop]
      cases l.drop (plc l s).1 with
      | nil => simp [packL]
      | cons x y => simp [packL]
    · exact Nat.le_refl _
  unfold ins
  have h3 : (packL ((l.take (plc l s).1 ++ [⟨s, b⟩]) ++ l.drop (if (plc l s).2 = true then (plc l s).1 + 1 else (plc l s).1))).length = (packL (l.take (plc l s).1)).length + (recB 1 s b).length + (packL (l.drop (if (plc l s).2 = true then (plc l s).1 + 1 else (plc l s).1))).length := by
    simp [packL]; omega
  omega
theorem packL_rem (l : List S99) (s : ByteArray) : (packL (rem l s)).length ≤ (packL l).length := by
  have e := List.take_append_drop (plc l s).1 l
  have h1 : (packL l).length = (packL (l.take (plc l s).1)).length + (packL (l.drop (plc l s).1)).length := by
    conv => lhs; rw [← e]
    unfold packL
    rw [List.flatMap_append, List.length_append]
  have h2 : (packL (l.drop (if (plc l s).2 = true then (plc l s).1 + 1 else (plc l s).1))).length ≤ (packL (l.drop (plc l s).1)).length := by
    split
    · rw [← List.drop_drop]
      cases l.drop (plc l s).1 with
      | nil => simp [packL]
      | cons x y => simp [packL]
    · exact Nat.le_refl _
  unfold rem
  have h3 : (packL (l.take (plc l s).1 ++ l.drop (if (plc l s).2 = true then (plc l s).1 + 1 else (plc l s).1))).length = (packL (l.take (plc l s).1)).length + (packL (l.drop (if (plc l s).2 = true then (plc l s).1 + 1 else (plc l s).1))).length := by
    simp [packL]
  omega

/-- What do keeps of a state's image: it is read as what is kept; it has room; its bytes are bytes. -/
structure Good (img : List Int) (l : List S99) : Prop where
  par : Par img l
  rise : Rising l
  few : l.length ≤ 16
  small : ∀ x ∈ l, x.f1.length ≤ 4096 ∧ isNameB x.f0 = true
  bytes : ∀ x ∈ img, 0 ≤ x ∧ x ≤ 255
  room : img.length ≤ 1048575
  pack : (packL l).length ≤ img.length
  vals : ∀ x ∈ l, ∀ y ∈ x.f1, 0 ≤ y ∧ y ≤ 255

theorem bts_bytes (s : ByteArray) : ∀ x ∈ bts s, 0 ≤ x ∧ x ≤ 255 := by
  intro x hx
  obtain ⟨b, _, rfl⟩ := List.mem_map.1 hx
  have := b.toNat_lt
  omega
theorem recB_bytes (k : Int) (s : ByteArray) (b : List Int) (hk : 0 ≤ k ∧ k ≤ 255) (hs : s.size ≤ 24) (hb : b.length ≤ 4096) (hbb : ∀ x ∈ b, 0 ≤ x ∧ x ≤ 255) : ∀ x ∈ recB k s b, 0 ≤ x ∧ x ≤ 255 := by
  intro x hx
  unfold recB at hx
  simp only [List.mem_append, List.mem_cons, List.not_mem_nil, or_false] at hx
  rcases hx with (((rfl | rfl) | hx)) | hx
  · exact hk
  · omega
  · exact bts_bytes s x hx
  · split at hx
    · simp only [List.mem_append, List.mem_cons, List.not_mem_nil, or_false] at hx
      rcases hx with (rfl | rfl) | hx
      · omega
      · omega
      · exact hbb x hx
    · cases hx

theorem Good.nil : Good [] [] := ⟨Par.nil, List.Pairwise.nil, by simp, by simp, by simp, by simp, by simp [packL], by simp⟩
theorem Good.put {img : List Int} {l : List S99} (h : Good img l) (s : ByteArray) (b : List Int) (hbb : ∀ x ∈ b, 0 ≤ x ∧ x ≤ 255) : Good (putS img l s b).img (putS img l s b).l := by
  unfold putS
  by_cases hs : isNameB s = false
  · rw [if_pos hs]; exact h
  · have hs' : isNameB s = true := by simpa using hs
    rw [if_neg hs]
    by_cases h4 : 4096 < b.length
    · rw [if_pos h4]; exact h
    · rw [if_neg h4]
      by_cases h16 : (plc l s).2 = false ∧ l.length = 16
      · rw [if_pos h16]; exact h
      · rw [if_neg h16]
        unfold laidS
        by_cases h20 : img.length + (recB 1 s b).length + 1 > 1048576
        · rw [if_pos h20]; exact h
        · rw [if_neg h20]
          have hi : (ins l s b).length ≤ 16 := by
            have := h.few
            rw [ins_len']
            split
            · exact this
            · rename_i e
              have h5 : ¬ l.length = 16 := fun e2 => h16 ⟨by simpa using e, e2⟩
              omega
          obtain ⟨r1, r2, r3⟩ := recB_head 1 s b
          simp only
          rw [← r1]
          refine ⟨h.par.more (fun tail => rec_put img tail l s b hs' (by omega) hi) (by rw [r2]; omega) r3, h.rise.ins s b, hi, fun x hx => (ins_mem hx).elim (fun e => by subst e; exact ⟨by simp only; omega, hs'⟩) (fun hx => h.small x hx), fun x hx => ?_, by simp; omega, by have := packL_ins l s b; have := h.pack; simp; omega, fun x hx => (ins_mem hx).elim (fun e => by subst e; exact hbb) (fun hx => h.vals x hx)⟩
          rcases List.mem_append.1 hx with hx | hx
          · exact h.bytes x hx
          · exact recB_bytes 1 s b (by omega) (isNameB_size hs') (by omega) hbb x hx
theorem Good.drop {img : List Int} {l : List S99} (h : Good img l) (s : ByteArray) : Good (dropS img l s).img (dropS img l s).l := by
  unfold dropS
  by_cases hs : isNameB s = false
  · rw [if_pos hs]; exact h
  · have hs' : isNameB s = true := by simpa using hs
    rw [if_neg hs]
    by_cases ht : (plc l s).2 = false
    · rw [if_pos ht]; exact h
    · have ht' : (plc l s).2 = true := by simpa using ht
      rw [if_neg ht]
      unfold laidS
      by_cases h20 : img.length + (recB 2 s []).length + 1 > 1048576
      · rw [if_pos h20]; exact h
      · rw [if_neg h20]
        obtain ⟨r1, r2, r3⟩ := recB_head 2 s []
        simp only
        rw [← r1]
        refine ⟨h.par.more (fun tail => rec_drop img tail l s hs' ht') (by rw [r2]; omega) r3, h.rise.rem s, ?_, fun x hx => h.small x (rem_mem hx), fun x hx => ?_, by simp; omega, by have := packL_rem l s; have := h.pack; simp; omega, fun x hx => h.vals x (rem_mem hx)⟩
        · have := h.few
          rw [rem_len']
          split <;> omega
        · rcases List.mem_append.1 hx with hx | hx
          · exact h.bytes x hx
          · exact recB_bytes 2 s [] (by omega) (isNameB_size hs') (by simp) (by simp) x hx
theorem Good.do_ {img : List Int} {l : List S99} (h : Good img l) (op : Int) (s : ByteArray) (b : List Int) (hbb : ∀ x ∈ b, 0 ≤ x ∧ x ≤ 255) : Good (doS op img l s b).img (doS op img l s b).l := by
  unfold doS
  split
  · exact h.put s b hbb
  · exact h.drop s

/-- What the least image is made of, name by name. -/
theorem plc_end {l : List S99} {s : ByteArray} (h : ∀ x ∈ l, nm x.f0 < nm s) : plc l s = (l.length, false) := by
  induction l with
  | nil => rfl
  | cons k l ih =>
    rw [plc_cons, if_pos (h k (by simp)), ih (fun x hx => h x (by simp [hx]))]
    simp
theorem ins_end {l : List S99} {s : ByteArray} (b : List Int) (h : ∀ x ∈ l, nm x.f0 < nm s) : ins l s b = l ++ [⟨s, b⟩] := by
  unfold ins
  rw [plc_end h]
  simp
theorem packL_app (l m : List S99) : packL (l ++ m) = packL l ++ packL m := by simp [packL]
theorem packL_one (k : S99) : packL [k] = recB 1 k.f0 k.f1 := by simp [packL]
/-- A step of Pack. -/
theorem pack_step {pre post : List S99} {k : S99} {img : List Int} (h : Good img (pre ++ k :: post)) : putS (packL pre) pre k.f0 k.f1 = ⟨0, packL (pre ++ [k]), pre ++ [k], [⟨(packL pre).length, 0 :: (recB 1 k.f0 k.f1).tail ++ [0]⟩, ⟨(packL pre).length, [1]⟩]⟩ := by
  obtain ⟨hk1, hk2⟩ := h.small k (by simp)
  have hlt : ∀ x ∈ pre, nm x.f0 < nm k.f0 := fun x hx => (List.pairwise_append.1 h.rise).2.2 x hx k (by simp)
  have hp := h.pack
  rw [packL_app, show k :: post = [k] ++ post from rfl, packL_app, packL_one] at hp
  simp only [List.length_append] at hp
  have hr := h.room
  have hf := h.few
  simp only [List.length_append, List.length_cons] at hf
  unfold putS
  rw [if_neg (by simp [hk2]), if_neg (by omega), if_neg (by rintro ⟨_, e⟩; omega)]
  unfold laidS
  rw [if_neg (by omega), ins_end _ hlt, packL_app, packL_one, ← (recB_head 1 k.f0 k.f1).1]
/-- The least image is a good one. -/
theorem Good.packed {img : List Int} {l : List S99} (h : Good img l) : Good (packL l) l := by
  have H : ∀ k, k ≤ l.length → Good (packL (l.take k)) (l.take k) := by
    intro k
    induction k with
    | zero => intro _; rw [List.take_zero]; exact Good.nil
    | succ k ih =>
      intro hk
      have hlt : k < l.length := by omega
      have e : l.take k ++ l[k] :: l.drop (k + 1) = l := by rw [← List.drop_eq_getElem_cons hlt, List.take_append_drop]
      have h1 := pack_step (e.symm ▸ h : Good img (l.take k ++ l[k] :: l.drop (k + 1)))
      have h2 := (ih (by omega)).put l[k].f0 l[k].f1 (h.vals _ (List.getElem_mem hlt))
      rw [h1] at h2
      rw [List.take_succ_eq_append_getElem hlt]
      exact h2
  have := H l.length (Nat.le_refl _)
  rwa [List.take_length] at this

end Go.Proofs.Ytcjniogdjbplbaa

/-! Pk1 -/
namespace Go.Proofs.Ytcjniogdjbplbaa
open Rdr Mem Go.RowKit Go.Proofs.YtcjniogdjbplbaaW.PrintWords Go.Proofs.YtcjniogdjbplbaaW.PrintLast Go.Proofs.YtcjniogdjbplbaaW.PrintMore PStorePlays Go.Maps Go.ChangeMaps Go.MapKept Go.WideShapes
variable {X : Nat → Prop}

theorem look_one {H : Type} {P : Program} {k : TypeId} {R : Value → Option (DataW H × List MemPlace)} {w : World} {b n : Nat} {D : DataW H} {t e : TypeId} (h : w.ownsMap P k R b n D) (K : Keyed P k) (ht : P.underlying t = some (.map k e)) {z : Value} (hz : (zeroValue e).run P w = .ok z w) {zd : DataW H} {zp : List MemPlace} (hzd : R z = some (zd, zp))
    {key : Value} {kl : Lit} (hkey : keyOf P k key = some kl) : ∃ v ps, (Instr.lookup t (.map (some b)) key false).run P w = .ok v w ∧ R v = some (D.atKey kl zd, ps) := by
  obtain ⟨es, clock, hb, F, _, rfl⟩ := h
  rcases Maps.fit_look false K ht hz hb F hkey with ⟨hrun, _, hat⟩ | ⟨e0, y, _, _, hrun, hRv, hat, _⟩
  · exact ⟨z, zp, hrun, by rw [hat zd]; exact hzd⟩
  · exact ⟨e0.val, y.2, hrun, by rw [hat zd]; exact hRv⟩

set_option maxRecDepth 100000 in
theorem MapIs.lookup1 {w : World} {M : Nat} {ok : Nat → Prop} {l : List S99} (h : MapIs w M ok l) (s : ByteArray) (hs : s.size ≤ maxLen) :
    ∃ v, (Instr.lookup 75 (.map (some M)) (.string s) false).run Try.prog w = .ok v w ∧ Got w ok l s v := by
  obtain ⟨D, h1, h5, h6⟩ := h
  obtain ⟨v, ps, hrun, hv⟩ := look_one h1 (t := 75) (e := 23) (string_keyed Try.underlying9) Try.underlying75 (zero23 w) (show RV (.slice none 0 0) = some (.held (.slice none 0 0), []) from rfl) (key_of s hs)
  have hv' : (DataW.held v : DataW Value) = D.atKey (skey s) (.held (.slice none 0 0)) := by
    unfold RV at hv
    injection hv with hv
    injection hv
  refine ⟨v, hrun, fun hn => ?_, fun xs hx => ?_⟩
  · have h7 := (h6 s).1
    rw [hn] at h7
    rw [atKey_of_not_has h7] at hv'
    injection hv'
  · obtain ⟨u, hu, hr⟩ := (h6 s).2 xs hx
    rw [hu] at hv'
    injection hv' with hv'
    rw [hv']; exact hr

/-- A store of its own, behind w. -/
structure New (w W : World) (B : Nat) (g M : Nat) (vi : Value) (img : List Int) (l : List S99) : Prop where
  st : StAt (fun k => k < w.heap.size) W g M vi img l
  bel : Below w.heap.size w W
  lg : w.heap.size ≤ g
  lM : w.heap.size ≤ M
  lv : ∀ k, vi.ownBlock = some k → B ≤ k

set_option maxHeartbeats 4000000 in
set_option maxRecDepth 100000 in
theorem st_pack (g M : Nat) (vi : Value) (img : List Int) (l : List S99) (w : World) (h : StAt X w g M vi img l) (hG : Good img l) :
    Calls Try.prog 29 #[.pointer (some ⟨g, 0, none⟩)] w fun e w' => ∃ g2 M2 vi2, e = .returned (.pointer (some ⟨g2, 0, none⟩)) ∧ New w w' w.heap.size g2 M2 vi2 (packL l) l := by
  have HH := Lib.hid h
  have HGD := Lib.hid hG
  have HB := Lib.hid h.blk
  obtain ⟨n, hn⟩ : ∃ n, l.length = n := ⟨_, rfl⟩
  have hn16 : n ≤ 16 := by rw [← hn]; exact h.few
  have HN := Lib.hid hn
  clear h hG hn
  go_enter Try.func29, Try.ntmps29
  go_wp2_with (first | (go_at_call 32; refine (st_ready g _ _ _ HB.out).mono ?_; rintro e w' ⟨rfl, rfl⟩))
  refine (st_fresh w).mono ?_
  rintro e w1 ⟨rfl, hst1, hb1⟩
  have HST1 := Lib.hid hst1
  have HB1 := Lib.hid hb1
  clear hst1 hb1
  go_wp2_with fail
  refine (st_names g M vi img l w1 (HH.out.step HB1.out)).mono ?_
  rintro e w2 ⟨⟨v, rfl, ho⟩, hb2⟩
  obtain ⟨An, cn, ev, hcn, _⟩ := own_form ho
  rw [HN.out] at ev ho
  subst ev
  have HO := Lib.hid ho
  have HB2 := Lib.hid (HB1.out.trans (hb2.mono HB1.out.size))
  have HST2 := Lib.hid (HST1.out.step hb2)
  have HL1 := Lib.hid (blk_lt HST1.out.blk)
  have HOL := Lib.hid (own_low ho)
  clear ho hb2 HST1 HB1
  have hn2 : n ≤ 9223372036854775807 := by omega
  go_wp2_with fail
  go_loopw [13] (fun i wr => ∃ (k : Nat) (vi2 : Value), k ≤ n ∧ i = .int .i64 k ∧ New w wr w2.heap.size (w.heap.size + 1) w.heap.size vi2 (packL (l.take k)) (l.take k) ∧ wr.ownsRow w1.heap.size 9 1 (.slice An n cn) n (l.map (fun k => Value.string k.f0)) ∧ w2.heap.size ≤ wr.heap.size) (fun i _ => n - (intOf i).toNat)
  case atStart => exact ⟨0, _, Nat.zero_le _, rfl, ⟨HST2.out, HB2.out, by omega, Nat.le_refl _, fun k e => by simp [Value.ownBlock] at e⟩, HO.out, Nat.le_refl _⟩
  case round =>
    clear HST2 HO
    obtain ⟨k, vi2, hk, rfl, hnew, hon, hsz⟩ := hrel
    have HNEW := Lib.hid hnew
    have HON := Lib.hid hon
    have HSZ := Lib.hid hsz
    clear hnew hon hsz
    by_cases hlt : k < n
    · have hlt' : k < l.length := by rw [HN.out]; exact hlt
      have cn0 := own_cell HON.out (show (l.map (fun k => Value.string k.f0))[k]? = some (.string l[k].f0) by simp [hlt'])
      obtain ⟨gn, eAn, cn1⟩ := cn0
      subst eAn
      have hmem := List.getElem_mem hlt'
      have hLK := look_at HH.out.rise _ hmem
      have hSM := HH.out.small _ hmem
      have hgood : Good img (l.take k ++ l[k] :: l.drop (k + 1)) := by
        rw [← List.drop_eq_getElem_cons hlt', List.take_append_drop]; exact HGD.out
      have hps := pack_step hgood
      have htk : l.take k ++ [l[k]] = l.take (k + 1) := by rw [List.take_succ_eq_append_getElem hlt']
      rw [htk] at hps
      generalize hx : l[k] = x at *
      obtain ⟨nm, bs⟩ := x
      simp only at cn1 hLK hSM hps
      have hmap : MapIs wr M (fun k => RX X g M vi k ∧ k < w.heap.size) l := (HH.out.map.mono (fun k hk hlt => ⟨hk, hlt⟩)).step (HNEW.out.bel.block M HH.out.map.lt) (fun k _ hlt => HNEW.out.bel.block k (by omega))
      have hnmx : nm.size ≤ maxLen := by have := isNameB_size hSM.2; unfold maxLen; omega
      obtain ⟨v, hrun, hgot⟩ := hmap.lookup1 nm hnmx
      obtain ⟨Av, cv, ev, hcv, hFv⟩ := hgot.2 bs hLK
      obtain ⟨nx, hnx⟩ : ∃ nx, bs.length = nx := ⟨_, rfl⟩
      rw [hnx] at ev hcv
      subst ev
      have c1 : wr.cell? ⟨g, 1, none⟩ = some (.map (some M)) := (blk_cell ((HNEW.out.bel.block g (blk_lt HH.out.blk)).trans HH.out.blk) 1).trans rfl
      have hFr : Kd.F (Kd.int .u8) wr (Rest (w.heap.size + 1) w.heap.size vi2) Av bs.length bs := Kd.F_mono hFv (fun j hj => ⟨by omega, by omega, fun e => by have := HNEW.out.lv _ e; have := HB2.out.size; omega⟩)
      have hput := st_put (w.heap.size + 1) w.heap.size vi2 _ _ nm Av nx cv bs wr HNEW.out.st hFr (Lib.hid hnx.symm) hnmx
      rw [hps] at hput
      have HPUT := Lib.hid hput
      have HTK := Lib.hid htk
      clear hmem hLK hSM hgood hps htk hx hmap hgot hcv hFv hFr hput hnx
      go_wp2_with fail
      refine HPUT.out.mono ?_
      rintro e w5 ⟨wl, vi3, rfl, hso⟩
      have HSO := Lib.hid hso
      clear hso
      go_wp2_with fail
      go_roundw
      case rel =>
        have h1 := HSO.out
        have hb2 := HB2.out.size
        have hl1 := HL1.out
        have hsz := HSZ.out
        refine ⟨k + 1, vi3, by omega, by go_num, ⟨h1.st, ?_, by omega, by omega, fun j hj => ?_⟩, ?_, Nat.le_trans hsz h1.chg.size⟩
        · exact HNEW.out.bel.trans (h1.chg.below HNEW.out.bel.size (fun j hj e => e ⟨by omega, by omega, fun e2 => by have := HNEW.out.lv _ e2; omega⟩))
        · rcases h1.at_ with e | ⟨i, e, hi⟩
          · exact HNEW.out.lv j (e ▸ hj)
          · rw [e] at hj; injection hj with hj; omega
        · refine own_step HON.out (fun j hj => h1.chg.block j (own_low HON.out j hj).2 (fun e => e ⟨?_, ?_, fun e2 => ?_⟩))
          · have := (HOL.out j hj).1; omega
          · have := (HOL.out j hj).1; omega
          · have := (HOL.out j hj).2; have := HNEW.out.lv _ e2; omega
      case measure => simp [intOf]; omega
    · go_wp2_with fail
      go_ret
      have e : l.take k = l := List.take_of_length_le (by have := HN.out; omega)
      have h1 := HNEW.out
      rw [e] at h1
      exact ⟨_, _, vi2, rfl, ⟨h1.st, h1.bel, h1.lg, h1.lM, fun j hj => Nat.le_trans HB2.out.size (h1.lv j hj)⟩⟩

end Go.Proofs.Ytcjniogdjbplbaa

/-! Eqn -/
namespace Go.Proofs.Ytcjniogdjbplbaa
open Mem Go.RowKit Go.Proofs.YtcjniogdjbplbaaW.PrintWords Go.Proofs.YtcjniogdjbplbaaW.PrintLast Go.Proofs.YtcjniogdjbplbaaW.PrintMore PStorePlays

set_option maxHeartbeats 4000000 in
set_option maxRecDepth 100000 in
theorem equal_names (A1 : Option Addr) (n c1 : Nat) (A2 : Option Addr) (c2 : Nat) (xs : List ByteArray) (w : World) (b1 b2 : Nat) (h1 : w.ownsRow b1 9 1 (.slice A1 n c1) n (xs.map Value.string)) (h2 : w.ownsRow b2 9 1 (.slice A2 n c2) n (xs.map Value.string)) (hn : n ≤ 1000) :
    Calls Try.prog 31 #[.slice A1 n c1, .slice A2 n c2] w fun e w' => e = .returned (.bool true) ∧ Drawn0 w w' := by
  have H1 := Lib.hid h1
  have H2 := Lib.hid h2
  have HL := Lib.hid (show n = xs.length by have := h1.1; simpa using this.symm)
  clear h1 h2
  go_enter Try.func31, Try.ntmps31
  go_wp2_with fail
  go_loopw [13] (fun i wr => ∃ k : Nat, k ≤ n ∧ i = .int .i64 k ∧ Drawn0 w wr) (fun i _ => n - (intOf i).toNat)
  case atStart => exact ⟨0, Nat.zero_le _, rfl, Drawn0.refl _⟩
  case round =>
    obtain ⟨k, hk, rfl, hd⟩ := hrel
    obtain ⟨m, rfl⟩ := hd.out
    by_cases hlt : k < n
    · have hlt' : k < xs.length := by rw [← HL.out]; exact hlt
      obtain ⟨g1, e1, d1⟩ := own_cell H1.out (show (xs.map Value.string)[k]? = some (.string xs[k]) by simp [hlt'])
      obtain ⟨g2, e2, d2⟩ := own_cell H2.out (show (xs.map Value.string)[k]? = some (.string xs[k]) by simp [hlt'])
      subst e1
      subst e2
      have hi : (k : Int) < (n : Int) := by omega
      generalize xs[k] = x at *
      have hbn : (x.toList == x.toList) = true := by simp
      go_wp2_with fail
      go_quiet (fail)
      go_wp2_with fail
      go_roundw
      case rel => exact ⟨k + 1, by omega, by go_num, ⟨⟨_, rfl⟩⟩⟩
      case measure => simp [intOf]; omega
    · go_wp2_with fail
      go_ret
      exact ⟨rfl, hd⟩
end Go.Proofs.Ytcjniogdjbplbaa
