/- Clone and Roomy. -/
import Derived.Test.YtgfjepjaccnkiaaOneB
namespace Go.Proofs.Ytgfjepjaccnkiaa
open Mem Go.RowKit Go.Proofs.YtgfjepjaccnkiaaW.PrintWords Go.Proofs.YtgfjepjaccnkiaaW.PrintLast Go.Proofs.YtgfjepjaccnkiaaW.PrintMore

theorem own_some {w : World} {base n : Nat} {e : TypeId} {size : Nat} {v : Value} {xs : List Value} (h : w.ownsRow base e size v n xs) (hne : ¬ v = .slice none 0 0) : ∃ g cap, v = .slice (some ⟨g, 0, none⟩) n cap := by
  rcases h.2 with ⟨rfl, _⟩ | ⟨g, cap, cur, rfl, _⟩
  · exact absurd rfl hne
  · exact ⟨g, cap, rfl⟩

theorem own_cap {w : World} {base n cap g : Nat} {e : TypeId} {size : Nat} {xs : List Value} (h : w.ownsRow base e size (.slice (some ⟨g, 0, none⟩) n cap) n xs) : n ≤ cap := by
  rcases h.2 with ⟨e, _⟩ | ⟨g', cap', cur, e, _, _, hnc, _⟩
  · cases e
  · injection e with e1 e2 e3
    subst e3
    exact hnc

theorem clone_nil (w : World) :
    Calls Try.prog 30 #[.slice none 0 0] w fun e w' => e = .returned (.slice none 0 0) ∧ w = w' := by
  have hq := fun (W : World) => Lib.run_eql_slice_nil (P := Try.prog) W 22 5 none 0 0 0 0 Try.underlying22
  go_enter Try.func30, Try.ntmps30
  go_wp2
  go_ret
  exact ⟨rfl, rfl⟩

theorem clone_some (ad : Addr) (c n : Nat) (xs : List Int) (w : World) (hx : U8C w (some ad) xs) (hn : Hid (n = xs.length)) (hl : n ≤ 140737488355328) :
    Calls Try.prog 30 #[.slice (some ad) n c] w fun e w' => ∃ g cap, e = .returned (.slice (some ⟨g, 0, none⟩) n cap) ∧ w'.ownsRow w.heap.size 5 1 (.slice (some ⟨g, 0, none⟩) n cap) n (nums .u8 xs) ∧ Below w.heap.size w w' := by
  have hq := fun (W : World) => Lib.run_eql_slice_nil (P := Try.prog) W 22 5 (some ad) n c 0 0 Try.underlying22
  obtain ⟨i0, hi, hz0, hz1, hz2⟩ := info_parts info5
  have HX := Lib.hid hx
  clear hx
  go_enter Try.func30, Try.ntmps30
  go_wp2_with (first | (at_builtin; refine wpList_append_own _ rfl _ _ 22 rfl w.heap.size 5 i0 (.int .u8 0) 1 1 Try.underlying22 hi hz0 hz1 hz2 rfl (by decide) _ _ _ rfl (World.ownsRow_made w #[] 0 (Nat.le_refl _) (Nat.zero_le _) rfl) ad n c (nums .u8 xs) rfl ?c1 ?c2 ?c3 ?c4 ?c5 ?c6 ?_))
  case c1 => simp [nums, hn.out]
  case c2 =>
    intro j u hj
    have hp : 0 < xs.length := by
      have := (List.getElem?_eq_some_iff.1 hj).1
      simp [nums] at this
      omega
    obtain ⟨ad', e, hc⟩ := C_int_cells HX.out hp
    cases e
    have h := hc j u hj
    rw [World.cell?_alloc_lt _ _ _ (World.block_lt_of_cell? w _ h)]
    exact h
  case c3 => exact one_ints _ _
  case c4 => unfold maxLen; omega
  case c5 => omega
  case c6 => simp
  intro v' w1 hown hg hne
  obtain ⟨g, cap, rfl⟩ := own_some hown hne
  have HO := Lib.hid hown
  have HG := Lib.hid hg
  clear hown hg hne hq
  go_wp2
  go_ret
  exact ⟨g, cap, rfl, HO.out, ((Below.refl w.heap.size w).alloc (Nat.le_refl _) _).grown HG.out (by simp) (fun k hk => by simp [Value.ownBlock] at hk; omega)⟩

def marked (xs : List Int) : List Int := xs ++ [165, 90, 195, 60]

def CloneGives (n : Nat) (xs : List Int) (w : World) (e : Ending) (w' : World) : Prop :=
  ∃ v, e = .returned v ∧ w'.ownsRow w.heap.size 5 1 v n (nums .u8 xs) ∧ Below w.heap.size w w'

theorem roomy_of (n : Nat) (xs : List Int) (w : World) (hn : n ≤ 140737488355000) (A : Option Addr) (c : Nat)
    (hcl : Calls Try.prog 30 #[.slice A n c] w (CloneGives n xs w)) :
    Calls Try.prog 6 #[.slice A n c] w fun e w' => ∃ g cap, e = .returned (.tuple #[.slice (some ⟨g, 0, none⟩) n cap, .slice (some ⟨g, 0, none⟩) (n + 4) cap]) ∧ w'.ownsRow w.heap.size 5 1 (.slice (some ⟨g, 0, none⟩) (n + 4) cap) (n + 4) (nums .u8 (marked xs)) ∧ Below w.heap.size w w' := by
  have HC := Lib.hid hcl
  clear hcl
  obtain ⟨i0, hi, hz0, hz1, hz2⟩ := info_parts info5
  go_enter Try.func6, Try.ntmps6
  go_wp2_with fail
  refine HC.out.mono ?_
  rintro e w1 ⟨v, rfl, ho, hb⟩
  have HO := Lib.hid ho
  have HB := Lib.hid hb
  clear ho hb
  go_wp2_with (first | (at_builtin; refine wpList_append_own _ rfl _ _ 22 rfl w.heap.size 5 i0 (.int .u8 0) 1 1 Try.underlying22 hi hz0 hz1 hz2 rfl (by decide) v n (nums .u8 xs) rfl (HO.out.alloc _) ⟨w1.heap.size, 0, none⟩ 4 4 (nums .u8 [165, 90, 195, 60]) rfl rfl ?c2 ?c3 ?c4 ?c5 ?c6 ?_))
  case c2 =>
    intro j u hj
    rw [add_plain, World.cell?_alloc_new]
    match j, hj with
    | 0, hj => exact hj
    | 1, hj => exact hj
    | 2, hj => exact hj
    | 3, hj => exact hj
    | j + 4, hj => simp [nums] at hj
  case c3 => exact one_ints _ _
  case c4 => unfold maxLen; omega
  case c5 => omega
  case c6 => have := HB.out.size; simp; omega
  intro v' w2 hown hg hne
  have hne' : ¬ v' = .slice none 0 0 := by simpa using hne
  obtain ⟨g, cap, rfl⟩ := own_some hown hne'
  have hcap := own_cap hown
  have HO2 := Lib.hid hown
  have HG := Lib.hid hg
  clear hown hg hne hne'
  have hsl := cut_to (P := Try.prog) 22 5 .i64 Try.underlying22 hi (some ⟨g, 0, none⟩) (n + 4) cap (n : Int) (by omega) (by omega) hcap
  rw [Int.toNat_natCast] at hsl
  go_wp2
  go_ret2
  refine ⟨g, cap, rfl, ?_, ?_⟩
  · have := HO2.out
    rwa [← nums_append] at this
  · refine (HB.out.alloc HB.out.size _).grown HG.out (by have := HB.out.size; simp; omega) (fun k hk => ?_)
    exact (HO.out.lt k hk).1

/-- Roomy, of any bytes. -/
theorem roomy_any (A : Option Addr) (c n : Nat) (xs : List Int) (w : World) (hx : U8C w A xs) (hn : n = xs.length) (hc : A = none → c = 0) (hl : n ≤ 140737488355000) :
    Calls Try.prog 6 #[.slice A n c] w fun e w' => ∃ g cap, e = .returned (.tuple #[.slice (some ⟨g, 0, none⟩) n cap, .slice (some ⟨g, 0, none⟩) (n + 4) cap]) ∧ w'.ownsRow w.heap.size 5 1 (.slice (some ⟨g, 0, none⟩) (n + 4) cap) (n + 4) (nums .u8 (marked xs)) ∧ Below w.heap.size w w' := by
  cases A with
  | none =>
    obtain rfl := hc rfl
    have h0 : xs = [] := by
      rcases Nat.eq_zero_or_pos xs.length with h | h
      · exact List.eq_nil_of_length_eq_zero h
      · obtain ⟨ad, e, _⟩ := C_int_cells hx h
        cases e
    subst h0
    subst hn
    exact roomy_of 0 [] w (by omega) none 0 ((clone_nil w).mono fun e w' ⟨h1, h2⟩ => by subst h2; exact ⟨_, h1, World.ownsRow_nil _ _ _ _, Below.refl _ _⟩)
  | some ad =>
    exact roomy_of n xs w hl (some ad) c ((clone_some ad c n xs w hx hn (by omega)).mono fun e w' ⟨g, cap, h1, h2, h3⟩ => ⟨_, h1, h2, h3⟩)
end Go.Proofs.Ytgfjepjaccnkiaa
