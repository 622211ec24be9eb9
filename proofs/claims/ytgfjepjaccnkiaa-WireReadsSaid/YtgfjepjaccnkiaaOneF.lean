/- look: a call of a reader, held against the document: each of the nine calls by itself. -/
import Derived.Test.YtgfjepjaccnkiaaOneE
import Derived.Deep.RegionWith
import Derived.Deep.RegionHeld3
import Derived.StillTailTactics
namespace Go.Proofs.Ytgfjepjaccnkiaa
open Mem Go.RowKit Go.Proofs.YtgfjepjaccnkiaaW.PrintWords Go.Proofs.YtgfjepjaccnkiaaW.PrintLast Go.Proofs.YtgfjepjaccnkiaaW.PrintMore PWireReads

/-- A place's block: its bytes lie in another one. -/
structure IsPl (w : World) (g : Nat) (A : Option Addr) (c : Nat) (xs : List Int) (at_ : Nat) : Prop where
  blk : w.heap[g]? = some (.cells #[.slice A xs.length c, .int .i64 at_] 32 (0, 0))
  cap : xs.length ≤ c
  atl : at_ ≤ xs.length
  rd : U8C w A xs
  ne : ∀ ad, A = some ad → 0 < xs.length → ad.block ≠ g

theorem IsPl.step {w w' : World} {g : Nat} {A : Option Addr} {c : Nat} {xs : List Int} {at_ : Nat} (h : IsPl w g A c xs at_) {n : Nat} (hn : n ≤ xs.length)
    (d : Drawn0 (w.setCell ⟨g, 1, none⟩ (.int .i64 n)) w') : IsPl w' g A c xs n ∧ w.grownBy w' (some g) := by
  have hg := grown_drawn (grown_set w g 1 (.int .i64 n)) d
  refine ⟨⟨?_, h.cap, hn, ?_, h.ne⟩, hg⟩
  · obtain ⟨m, rfl⟩ := d.out
    exact (blk_set h.blk 1 (.int .i64 n)).trans rfl
  · exact Kd.C_keep 0 h.rd (keep_of_grown hg) h.ne

/-- w' is w but for the blocks g and q, and new ones. -/
structure Chg2 (w w' : World) (g q : Nat) : Prop where
  os : w'.os = w.os
  tape : w'.tape = w.tape
  output : w'.output = w.output
  size : w.heap.size ≤ w'.heap.size
  block : ∀ k, k < w.heap.size → k ≠ g → k ≠ q → w'.heap[k]? = w.heap[k]?

/-- What both are before a call: over the same bytes, at the same place; apart. -/
structure Two (w : World) (g q : Nat) (A B : Option Addr) (c d : Nat) (xs : List Int) (at_ : Nat) : Prop where
  r : IsRd w g A c xs at_
  p : IsPl w q B d xs at_
  ne : g ≠ q
  rq : ∀ ad, A = some ad → 0 < xs.length → ad.block ≠ q
  pg : ∀ ad, B = some ad → 0 < xs.length → ad.block ≠ g
  small : xs.length ≤ 140737488355000

theorem IsPl.below {w w' : World} {g : Nat} {A : Option Addr} {c : Nat} {xs : List Int} {at_ : Nat} (h : IsPl w g A c xs at_) (d : Below w.heap.size w w') : IsPl w' g A c xs at_ :=
  ⟨(d.block g (blk_lt h.blk)).trans h.blk, h.cap, h.atl, Kd.C_below h.rd d, h.ne⟩
theorem Two.below {w w' : World} {g q : Nat} {A B : Option Addr} {c d : Nat} {xs : List Int} {at_ : Nat} (h : Two w g q A B c d xs at_) (b : Below w.heap.size w w') : Two w' g q A B c d xs at_ :=
  ⟨h.r.below b, h.p.below b, h.ne, h.rq, h.pg, h.small⟩

theorem start_below {w : World} {o : Obj} {m : Nat} : Below w.heap.size w ((w.alloc o).drewN m) := ⟨rfl, rfl, rfl, by simp, fun k hk => Below.heap_alloc w o k hk⟩

/-- The facts that the walk reads of a place. -/
def PlC (w : World) (q : Nat) (B : Option Addr) (d : Nat) (xs : List Int) (at_ : Nat) : Prop :=
  w.cell? ⟨q, 0, none⟩ = some (.slice B xs.length d) ∧ w.cell? ⟨q, 1, none⟩ = some (.int .i64 at_) ∧ w.frozen? ⟨q, 1, none⟩ = false
theorem IsPl.cells {w : World} {q : Nat} {B : Option Addr} {d : Nat} {xs : List Int} {at_ : Nat} (h : IsPl w q B d xs at_) : PlC w q B d xs at_ :=
  ⟨(blk_cell h.blk 0).trans rfl, (blk_cell h.blk 1).trans rfl, blk_frozen h.blk 1⟩

theorem at_world {P : Program} {f : FuncId} {args : Array Value} {w : World} {R : Ending → World → Prop} (S : World → Prop) (hs : S w) (h : ∀ W, S W → Calls P f args W R) : Calls P f args w R := h w hs
theorem wp_world {P : Program} {c : Code} {Q : Exit → Act → World → Prop} {a : Act} {w : World} (S : World → Prop) (hs : S w) (h : ∀ W, S W → c.wp P Q a W) : c.wp P Q a w := h w hs

theorem exit_world {K : Act → World → Prop} {Q : Exit → Act → World → Prop} {e : Exit} {a : Act} {w : World} (S : World → Prop) (hs : S w) (h : ∀ W, S W → Exit.then K Q e a W) : Exit.then K Q e a w := h w hs
theorem block_world {i : Nat} {Q : Exit → Act → World → Prop} {e : Exit} {a : Act} {w : World} (S : World → Prop) (hs : S w) (h : ∀ W, S W → Exit.inBlock i Q e a W) : Exit.inBlock i Q e a w := h w hs
/-- What Take comes to: the bytes, the place behind, the error. -/
def takeOf (xs : List Int) (at_ : Nat) (n : Int) : List Int × Nat × Int :=
  if n < 0 then ([], at_, 1) else if (xs.length : Int) - at_ < n then ([], at_, 2) else (midL xs at_ n.toNat, at_ + n.toNat, 0)
def numRes (xs : List Int) (at_ n : Nat) : Int × Nat × Int :=
  if xs.length < at_ + n then (0, at_, 2) else (numOf xs at_ n, at_ + n, 0)
theorem takeOf_le {xs : List Int} {at_ : Nat} {n : Int} (h : at_ ≤ xs.length) : (takeOf xs at_ n).2.1 ≤ xs.length := by
  unfold takeOf
  split
  · exact h
  · split
    · exact h
    · simp; omega
theorem numRes_le {xs : List Int} {at_ n : Nat} (h : at_ ≤ xs.length) : (numRes xs at_ n).2.1 ≤ xs.length := by
  unfold numRes
  split
  · exact h
  · simp; omega
theorem nameOf_le {xs : List Int} {at_ : Nat} (h : at_ ≤ xs.length) : (nameOf xs at_).2.1 ≤ xs.length := by
  unfold nameOf
  repeat' split
  all_goals first | exact h | (simp; omega)

/-- A slice that reads as bytes. -/
def Reads8 (w : World) (v : Value) (ys : List Int) : Prop := ∃ A c, v = .slice A ys.length c ∧ ys.length ≤ c ∧ U8C w A ys
theorem reads_nil (w : World) : Reads8 w (.slice none 0 0) [] := ⟨none, 0, rfl, Nat.le_refl _, Kd.C_nil _ _⟩
theorem fresh_reads {w w' : World} {v : Value} {ys : List Int} (h : Fresh8 w w' v ys) : Reads8 w' v ys := Kd.Q_reads (Kd.Q_of_R h)
theorem Reads8.below {w w' : World} {v : Value} {ys : List Int} (h : Reads8 w v ys) (b : Below w.heap.size w w') : Reads8 w' v ys := by
  obtain ⟨A, c, e, hc, hC⟩ := h
  exact ⟨A, c, e, hc, Kd.C_below hC b⟩

theorem take_any (g : Nat) (A : Option Addr) (c : Nat) (xs : List Int) (at_ : Nat) (n : Int) (w : World) (hr : IsRd w g A c xs at_) (hm : xs.length ≤ 140737488355000) :
    Calls Try.prog 36 #[.pointer (some ⟨g, 0, none⟩), .int .i64 n] w fun e w' => ∃ v, e = .returned (.tuple #[v, .int .i64 (takeOf xs at_ n).2.2]) ∧ Reads8 w' v (takeOf xs at_ n).1 ∧ IsRd w' g A c xs (takeOf xs at_ n).2.1 ∧ w.grownBy w' (some g) := by
  unfold takeOf
  by_cases h1 : n < 0
  · rw [if_pos h1]
    exact (take_neg g A c xs at_ n w hr h1).mono fun e w' ⟨h, d⟩ => ⟨_, h, reads_nil _, hr.drawn d, grown_drawn (grown_refl _ _) d⟩
  · rw [if_neg h1]
    by_cases h2 : (xs.length : Int) - at_ < n
    · rw [if_pos h2]
      exact (take_short g A c xs at_ n w hr h2).mono fun e w' ⟨h, d⟩ => ⟨_, h, reads_nil _, hr.drawn d, grown_drawn (grown_refl _ _) d⟩
    · rw [if_neg h2]
      obtain ⟨m, rfl⟩ := Int.eq_ofNat_of_zero_le (show 0 ≤ n by omega)
      have ha := hr.atl
      rw [Int.toNat_natCast]
      refine (take_ok g A c xs at_ m w hr (by omega) (by omega) (midL xs at_ m) rfl).mono ?_
      rintro e w' ⟨⟨b, h, hC⟩, hr', hg⟩
      have hl : (midL xs at_ m).length = m := midL_len (by omega)
      exact ⟨_, h, ⟨_, m, by simp only [hl], by simp only [hl]; exact Nat.le_refl _, hC⟩, hr', hg⟩

theorem refTake_any (A : Option Addr) (c : Nat) (xs : List Int) (at_ : Nat) (n : Int) (w : World) (hx : U8C w A xs) (hc : xs.length ≤ c) (hm : xs.length ≤ 140737488355000) (ha : at_ ≤ xs.length) :
    Calls Try.prog 37 #[.slice A xs.length c, .int .i64 at_, .int .i64 n] w fun e w' => ∃ v, e = .returned (.tuple #[v, .int .i64 (takeOf xs at_ n).2.1, .int .i64 (takeOf xs at_ n).2.2]) ∧ Fresh8 w w' v (takeOf xs at_ n).1 ∧ Below w.heap.size w w' := by
  unfold takeOf
  by_cases h1 : n < 0
  · rw [if_pos h1]
    exact refTake_neg_c A c xs at_ n w hx hc h1
  · rw [if_neg h1]
    by_cases h2 : (xs.length : Int) - at_ < n
    · rw [if_pos h2]
      exact refTake_short_c A c xs at_ n w hx hc hm ha (by omega) h2
    · rw [if_neg h2]
      obtain ⟨m, rfl⟩ := Int.eq_ofNat_of_zero_le (show 0 ≤ n by omega)
      rw [Int.toNat_natCast]
      exact refTake_ok_c A c xs at_ m w hx hc hm (by omega)

theorem refNum_any (A : Option Addr) (c : Nat) (xs : List Int) (at_ n : Nat) (w : World) (hx : U8C w A xs) (hc : xs.length ≤ c) (hm : xs.length ≤ 140737488355000) (hb : ∀ x ∈ xs, 0 ≤ x ∧ x ≤ 255) (ha : at_ ≤ xs.length) (hn : n ≤ 4) (z : Int) (hz : z = n) :
    Calls Try.prog 33 #[.slice A xs.length c, .int .i64 at_, .int .i64 z] w fun e w' => e = .returned (.tuple #[.int .i64 (numRes xs at_ n).1, .int .i64 (numRes xs at_ n).2.1, .int .i64 (numRes xs at_ n).2.2]) ∧ Drawn0 w w' := by
  subst hz
  unfold numRes
  by_cases h : xs.length < at_ + n
  · rw [if_pos h]; exact refNum_short_c A c xs at_ n w hx hc hm ha h
  · rw [if_neg h]; exact refNum_ok_c A c xs at_ n w hx hc hm hb (by omega) hn

theorem byte_any (g : Nat) (A : Option Addr) (c : Nat) (xs : List Int) (at_ : Nat) (w : World) (hr : IsRd w g A c xs at_) :
    Calls Try.prog 32 #[.pointer (some ⟨g, 0, none⟩)] w fun e w' => e = .returned (.tuple #[.int .i64 (numRes xs at_ 1).1, .int .i64 (numRes xs at_ 1).2.2]) ∧ IsRd w' g A c xs (numRes xs at_ 1).2.1 ∧ w.grownBy w' (some g) := by
  have ha := hr.atl
  unfold numRes
  by_cases h : xs.length < at_ + 1
  · rw [if_pos h]; exact (byte_short g A c xs at_ w hr (by omega)).mono fun e w' ⟨h, d⟩ => ⟨h, hr.drawn d, grown_drawn (grown_refl _ _) d⟩
  · rw [if_neg h, numOf, if_neg (by omega)]; exact byte_ok g A c xs at_ w hr (by omega)
theorem word_any (g : Nat) (A : Option Addr) (c : Nat) (xs : List Int) (at_ : Nat) (w : World) (hr : IsRd w g A c xs at_) :
    Calls Try.prog 34 #[.pointer (some ⟨g, 0, none⟩)] w fun e w' => e = .returned (.tuple #[.int .i64 (numRes xs at_ 2).1, .int .i64 (numRes xs at_ 2).2.2]) ∧ IsRd w' g A c xs (numRes xs at_ 2).2.1 ∧ w.grownBy w' (some g) := by
  have ha := hr.atl
  unfold numRes
  by_cases h : xs.length < at_ + 2
  · rw [if_pos h]; exact (word_short g A c xs at_ w hr (by omega)).mono fun e w' ⟨h, d⟩ => ⟨h, hr.drawn d, grown_drawn (grown_refl _ _) d⟩
  · rw [if_neg h, numOf, if_neg (by omega)]; exact word_ok g A c xs at_ w hr (by omega)
theorem long_any (g : Nat) (A : Option Addr) (c : Nat) (xs : List Int) (at_ : Nat) (w : World) (hr : IsRd w g A c xs at_) :
    Calls Try.prog 35 #[.pointer (some ⟨g, 0, none⟩)] w fun e w' => e = .returned (.tuple #[.int .i64 (numRes xs at_ 4).1, .int .i64 (numRes xs at_ 4).2.2]) ∧ IsRd w' g A c xs (numRes xs at_ 4).2.1 ∧ w.grownBy w' (some g) := by
  have ha := hr.atl
  unfold numRes
  by_cases h : xs.length < at_ + 4
  · rw [if_pos h]; exact (long_short g A c xs at_ w hr (by omega)).mono fun e w' ⟨h, d⟩ => ⟨h, hr.drawn d, grown_drawn (grown_refl _ _) d⟩
  · rw [if_neg h, numOf, if_pos rfl]; exact long_ok g A c xs at_ w hr (by omega)

theorem take_T (T : List Int × Nat × Int) (g : Nat) (A : Option Addr) (c : Nat) (xs : List Int) (at_ : Nat) (n : Int) (w : World) (hT : Hid (T = takeOf xs at_ n)) (hr : IsRd w g A c xs at_) (hm : xs.length ≤ 140737488355000) :
    Calls Try.prog 36 #[.pointer (some ⟨g, 0, none⟩), .int .i64 n] w fun e w' => ∃ v, e = .returned (.tuple #[v, .int .i64 T.2.2]) ∧ Reads8 w' v T.1 ∧ IsRd w' g A c xs T.2.1 ∧ w.grownBy w' (some g) := by
  rw [hT.out]; exact take_any g A c xs at_ n w hr hm
theorem refTake_T (T : List Int × Nat × Int) (A : Option Addr) (c : Nat) (xs : List Int) (at_ : Nat) (n : Int) (w : World) (hT : Hid (T = takeOf xs at_ n)) (hx : U8C w A xs) (hc : xs.length ≤ c) (hm : xs.length ≤ 140737488355000) (ha : at_ ≤ xs.length) :
    Calls Try.prog 37 #[.slice A xs.length c, .int .i64 at_, .int .i64 n] w fun e w' => ∃ v, e = .returned (.tuple #[v, .int .i64 T.2.1, .int .i64 T.2.2]) ∧ Fresh8 w w' v T.1 ∧ Below w.heap.size w w' := by
  rw [hT.out]; exact refTake_any A c xs at_ n w hx hc hm ha
theorem refNum_T (T : Int × Nat × Int) (A : Option Addr) (c : Nat) (xs : List Int) (at_ n : Nat) (w : World) (hT : Hid (T = numRes xs at_ n)) (hx : U8C w A xs) (hc : xs.length ≤ c) (hm : xs.length ≤ 140737488355000) (hb : ∀ x ∈ xs, 0 ≤ x ∧ x ≤ 255) (ha : at_ ≤ xs.length) (hn : n ≤ 4) (z : Int) (hz : z = n) :
    Calls Try.prog 33 #[.slice A xs.length c, .int .i64 at_, .int .i64 z] w fun e w' => e = .returned (.tuple #[.int .i64 T.1, .int .i64 T.2.1, .int .i64 T.2.2]) ∧ Drawn0 w w' := by
  rw [hT.out]; exact refNum_any A c xs at_ n w hx hc hm hb ha hn z hz
theorem byte_T (T : Int × Nat × Int) (g : Nat) (A : Option Addr) (c : Nat) (xs : List Int) (at_ : Nat) (w : World) (hT : Hid (T = numRes xs at_ 1)) (hr : IsRd w g A c xs at_) :
    Calls Try.prog 32 #[.pointer (some ⟨g, 0, none⟩)] w fun e w' => e = .returned (.tuple #[.int .i64 T.1, .int .i64 T.2.2]) ∧ IsRd w' g A c xs T.2.1 ∧ w.grownBy w' (some g) := by
  rw [hT.out]; exact byte_any g A c xs at_ w hr
theorem word_T (T : Int × Nat × Int) (g : Nat) (A : Option Addr) (c : Nat) (xs : List Int) (at_ : Nat) (w : World) (hT : Hid (T = numRes xs at_ 2)) (hr : IsRd w g A c xs at_) :
    Calls Try.prog 34 #[.pointer (some ⟨g, 0, none⟩)] w fun e w' => e = .returned (.tuple #[.int .i64 T.1, .int .i64 T.2.2]) ∧ IsRd w' g A c xs T.2.1 ∧ w.grownBy w' (some g) := by
  rw [hT.out]; exact word_any g A c xs at_ w hr
theorem long_T (T : Int × Nat × Int) (g : Nat) (A : Option Addr) (c : Nat) (xs : List Int) (at_ : Nat) (w : World) (hT : Hid (T = numRes xs at_ 4)) (hr : IsRd w g A c xs at_) :
    Calls Try.prog 35 #[.pointer (some ⟨g, 0, none⟩)] w fun e w' => e = .returned (.tuple #[.int .i64 T.1, .int .i64 T.2.2]) ∧ IsRd w' g A c xs T.2.1 ∧ w.grownBy w' (some g) := by
  rw [hT.out]; exact long_any g A c xs at_ w hr
theorem name_T (T : ByteArray × Nat × Int) (g : Nat) (A : Option Addr) (c : Nat) (xs : List Int) (at_ : Nat) (w : World) (hT : Hid (T = nameOf xs at_)) (hr : IsRd w g A c xs at_) :
    Calls Try.prog 38 #[.pointer (some ⟨g, 0, none⟩)] w fun e w' => e = .returned (.tuple #[.string T.1, .int .i64 T.2.2]) ∧ IsRd w' g A c xs T.2.1 ∧ w.grownBy w' (some g) := by
  rw [hT.out]; exact name_any g A c xs at_ w hr
theorem refName_T (T : ByteArray × Nat × Int) (A : Option Addr) (c : Nat) (xs : List Int) (at_ : Nat) (w : World) (hT : Hid (T = nameOf xs at_)) (hx : U8C w A xs) (hc : xs.length ≤ c) (hm : xs.length ≤ 140737488355000) (hb : ∀ x ∈ xs, 0 ≤ x ∧ x ≤ 255) (ha : at_ ≤ xs.length) :
    Calls Try.prog 39 #[.slice A xs.length c, .int .i64 at_] w fun e w' => e = .returned (.tuple #[.string T.1, .int .i64 T.2.1, .int .i64 T.2.2]) ∧ Below w.heap.size w w' := by
  rw [hT.out]; exact refName_any A c xs at_ w hx hc hm hb ha

theorem within_bad_T (T : List Int × Nat × Int) (g : Nat) (A : Option Addr) (c : Nat) (xs : List Int) (at_ : Nat) (n : Int) (w : World) (hT : Hid (T = takeOf xs at_ n)) (hr : IsRd w g A c xs at_) (hm : xs.length ≤ 140737488355000) (he : T.2.2 ≠ 0) :
    Calls Try.prog 40 #[.pointer (some ⟨g, 0, none⟩), .int .i64 n] w fun e w' => e = .returned (.tuple #[.pointer none, .int .i64 T.2.2]) ∧ IsRd w' g A c xs T.2.1 ∧ w.grownBy w' (some g) := by
  rw [hT.out] at he ⊢
  unfold takeOf at he ⊢
  by_cases h1 : n < 0
  · rw [if_pos h1]
    exact (within_neg g A c xs at_ n w hr h1).mono fun e w' ⟨h, d⟩ => ⟨h, hr.drawn d, grown_drawn (grown_refl _ _) d⟩
  · rw [if_neg h1] at he ⊢
    by_cases h2 : (xs.length : Int) - at_ < n
    · rw [if_pos h2]
      exact (within_short g A c xs at_ n w hr h2).mono fun e w' ⟨h, d⟩ => ⟨h, hr.drawn d, grown_drawn (grown_refl _ _) d⟩
    · rw [if_neg h2] at he
      exact absurd rfl he
theorem within_ok_T (T : List Int × Nat × Int) (g : Nat) (A : Option Addr) (c : Nat) (xs : List Int) (at_ : Nat) (n : Int) (w : World) (hT : Hid (T = takeOf xs at_ n)) (hr : IsRd w g A c xs at_) (hm : xs.length ≤ 140737488355000) (he : T.2.2 = 0) :
    Calls Try.prog 40 #[.pointer (some ⟨g, 0, none⟩), .int .i64 n] w fun e w' => (∃ b, e = .returned (.tuple #[.pointer (some ⟨b, 0, none⟩), .int .i64 0]) ∧ w.heap.size ≤ b ∧ ∃ A2 c2, IsRd w' b A2 c2 T.1 0 ∧ ∀ ad, A2 = some ad → w.heap.size ≤ ad.block ∧ ad.block < b) ∧ IsRd w' g A c xs T.2.1 ∧ w.grownBy w' (some g) := by
  rw [hT.out] at he ⊢
  unfold takeOf at he ⊢
  by_cases h1 : n < 0
  · rw [if_pos h1] at he; cases he
  · rw [if_neg h1] at he ⊢
    by_cases h2 : (xs.length : Int) - at_ < n
    · rw [if_pos h2] at he; cases he
    · rw [if_neg h2]
      obtain ⟨m, rfl⟩ := Int.eq_ofNat_of_zero_le (show 0 ≤ n by omega)
      have ha := hr.atl
      rw [Int.toNat_natCast]
      exact within_ok g A c xs at_ m w hr (by omega) (by omega) (midL xs at_ m) rfl

/-- Behind a call of the reader g: the place q as it was. -/
theorem IsPl.grown {w w' : World} {g q : Nat} {B : Option Addr} {d : Nat} {xs : List Int} {at_ : Nat} (h : IsPl w q B d xs at_) (hg : w.grownBy w' (some g)) (hne : g ≠ q) (hb : ∀ ad, B = some ad → 0 < xs.length → ad.block ≠ g) : IsPl w' q B d xs at_ :=
  ⟨(hg.block q (blk_lt h.blk) (by simpa using hne.symm)).trans h.blk, h.cap, h.atl, Kd.C_keep 0 h.rd (keep_of_grown hg) hb, h.ne⟩
theorem IsRd.grown {w w' : World} {g q : Nat} {A : Option Addr} {c : Nat} {xs : List Int} {at_ : Nat} (h : IsRd w g A c xs at_) (hg : w.grownBy w' (some q)) (hne : g ≠ q) (hb : ∀ ad, A = some ad → 0 < xs.length → ad.block ≠ q) : IsRd w' g A c xs at_ :=
  ⟨(hg.block g (blk_lt h.blk) (by simpa using hne)).trans h.blk, h.cap, h.atl, Kd.C_keep 0 h.rd (keep_of_grown hg) hb, h.bytes, h.ne⟩

/-- The reader is one step ahead of the place. -/
structure Mid (w : World) (g q : Nat) (A B : Option Addr) (c d : Nat) (xs : List Int) (at1 at_ : Nat) : Prop where
  r : IsRd w g A c xs at1
  p : IsPl w q B d xs at_
  ne : g ≠ q
  rq : ∀ ad, A = some ad → 0 < xs.length → ad.block ≠ q
  pg : ∀ ad, B = some ad → 0 < xs.length → ad.block ≠ g
  small : xs.length ≤ 140737488355000
theorem Mid.below {w w' : World} {g q : Nat} {A B : Option Addr} {c d : Nat} {xs : List Int} {at1 at_ : Nat} (h : Mid w g q A B c d xs at1 at_) (b : Below w.heap.size w w') : Mid w' g q A B c d xs at1 at_ :=
  ⟨h.r.below b, h.p.below b, h.ne, h.rq, h.pg, h.small⟩
theorem Two.mid {w w' : World} {g q : Nat} {A B : Option Addr} {c d : Nat} {xs : List Int} {at_ at1 : Nat} (h : Two w g q A B c d xs at_) (hr : IsRd w' g A c xs at1) (hg : w.grownBy w' (some g)) : Mid w' g q A B c d xs at1 at_ :=
  ⟨hr, h.p.grown hg h.ne h.pg, h.ne, h.rq, h.pg, h.small⟩
/-- The place goes on, too. -/
theorem Mid.two {w w' : World} {g q : Nat} {A B : Option Addr} {c d : Nat} {xs : List Int} {at1 at_ : Nat} (h : Mid w g q A B c d xs at1 at_) (hd : Drawn0 (w.setCell ⟨q, 1, none⟩ (.int .i64 at1)) w') : Two w' g q A B c d xs at1 ∧ w.grownBy w' (some q) := by
  have hs := h.p.step h.r.atl hd
  exact ⟨⟨h.r.grown hs.2 h.ne h.rq, hs.1, h.ne, h.rq, h.pg, h.small⟩, hs.2⟩

theorem Chg2.refl (w : World) (g q : Nat) : Chg2 w w g q := ⟨rfl, rfl, rfl, Nat.le_refl _, fun _ _ _ _ => rfl⟩
theorem Chg2.trans {a b c : World} {g q : Nat} (h : Chg2 a b g q) (k : Chg2 b c g q) : Chg2 a c g q :=
  ⟨k.os.trans h.os, k.tape.trans h.tape, k.output.trans h.output, Nat.le_trans h.size k.size, fun i hi h1 h2 => (k.block i (Nat.lt_of_lt_of_le hi h.size) h1 h2).trans (h.block i hi h1 h2)⟩
theorem Chg2.below {w w' : World} {g q : Nat} (h : Below w.heap.size w w') : Chg2 w w' g q := ⟨h.os, h.tape, h.output, h.size, fun k hk _ _ => h.block k hk⟩
theorem Chg2.g {w w' : World} {g q : Nat} (h : w.grownBy w' (some g)) : Chg2 w w' g q := ⟨h.os, h.tape, h.output, h.size, fun k hk h1 _ => h.block k hk (by simpa using h1)⟩
theorem Chg2.q {w w' : World} {g q : Nat} (h : w.grownBy w' (some q)) : Chg2 w w' g q := ⟨h.os, h.tape, h.output, h.size, fun k hk _ h2 => h.block k hk (by simpa using h2)⟩

theorem undrew {w w' : World} (h : Below w.drew.heap.size w.drew w') : Below w.heap.size w w' := ⟨h.os, h.tape, h.output, h.size, h.block⟩
theorem C_set_i64 {w : World} {A : Option Addr} {ys : List Int} {p : Addr} {z : Int} {v : Value} (h : U8C w A ys) (hc : w.cell? p = some (.int .i64 z)) : U8C (w.setCell p v) A ys := by
  refine ⟨h.1, h.2.1, fun hp => ?_⟩
  obtain ⟨ad, e, hx⟩ := h.2.2 hp
  refine ⟨ad, e, fun j x hj => ?_⟩
  obtain ⟨cs, hl, hk, hcell⟩ := hx j x hj
  refine ⟨cs, hl, hk, fun i u hu => ?_⟩
  have hk' : cs = [.int .u8 x] := hk
  subst hk'
  match i, hu with
  | 0, hu =>
    have h2 := hcell 0 u hu
    rw [World.cell?_setCell_other _ _ _ _ (fun e => ?_)]
    · exact h2
    · rw [← e, hc] at h2
      simp at hu
      rw [← hu] at h2
      cases h2
theorem eq_same (A1 : Option Addr) (c1 : Nat) (A2 : Option Addr) (c2 : Nat) (ys : List Int) (w : World) (h1 : U8C w A1 ys) (hc1 : ys.length ≤ c1) (h2 : U8C w A2 ys) (hc2 : ys.length ≤ c2) (hm : ys.length ≤ 140737488355328) :
    Calls Try.prog 31 #[.slice A1 ys.length c1, .slice A2 ys.length c2] w fun e w' => e = .returned (.bool true) ∧ Drawn0 w w' := by
  obtain ⟨k, hk⟩ := bytesEq ys ys hm
  rw [decide_eq_true rfl] at hk
  exact slices_Equal_byte_byte.calls k A1 c1 ys A2 c2 ys true w h1 hc1 h2 hc2 hk
theorem takeOf_len {xs : List Int} {at_ : Nat} {n : Int} : (takeOf xs at_ n).1.length ≤ xs.length := by
  unfold takeOf
  split
  · simp
  · split
    · simp
    · simp [midL]; omega

/-- What look comes to where no further reader is made. -/
def Looked (w : World) (g q : Nat) (A B : Option Addr) (c d : Nat) (xs : List Int) (e : Ending) (w' : World) : Prop :=
  e = .returned (.tuple #[.bool true, .pointer none, .pointer none]) ∧ (∃ at1, Two w' g q A B c d xs at1) ∧ Chg2 w w' g q
/-- What look comes to where a reader within is made. -/
def LookedIn (w : World) (g q : Nat) (A B : Option Addr) (c d : Nat) (xs ys : List Int) (e : Ending) (w' : World) : Prop :=
  ∃ b p A2 B2 c2 d2, e = .returned (.tuple #[.bool true, .pointer (some ⟨b, 0, none⟩), .pointer (some ⟨p, 0, none⟩)]) ∧ w.heap.size ≤ b ∧ w.heap.size ≤ p ∧ (∃ at1, Two w' g q A B c d xs at1) ∧ Two w' b p A2 B2 c2 d2 ys 0 ∧ Chg2 w w' g q ∧
    (∀ ad, A2 = some ad → w.heap.size ≤ ad.block) ∧ (∀ ad, B2 = some ad → w.heap.size ≤ ad.block)

theorem fresh_reads' {w w' : World} {v : Value} {ys : List Int} (h : Fresh8 w w' v ys) : ∃ A c, v = .slice A ys.length c ∧ ys.length ≤ c ∧ U8C w' A ys ∧ ∀ ad, A = some ad → w.heap.size ≤ ad.block ∧ ad.block < w'.heap.size := by
  obtain ⟨A, c, e, hc, hC⟩ := Kd.Q_reads (Kd.Q_of_R h)
  refine ⟨A, c, e, hc, hC, fun ad had => ?_⟩
  subst had
  subst e
  exact ⟨Kd.R_base h ad.block rfl, Kd.R_lt h ad.block rfl⟩

end Go.Proofs.Ytgfjepjaccnkiaa
