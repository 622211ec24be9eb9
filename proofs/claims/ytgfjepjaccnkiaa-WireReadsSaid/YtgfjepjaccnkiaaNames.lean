/- What a name is; both texts' IsName tell it. -/
import Derived.Test.YtgfjepjaccnkiaaRefIsName
import Derived.Test.YtgfjepjaccnkiaaPWireReadsx2
namespace Go.Proofs.Ytgfjepjaccnkiaa
open Go.RowKit Go.Proofs.YtgfjepjaccnkiaaW.PrintWords Go.Proofs.YtgfjepjaccnkiaaW.PrintLast Go.Proofs.YtgfjepjaccnkiaaW.PrintMore PWireReads

def nameCh (i : Int) (c : Int) : Bool := decide ((97 ≤ c ∧ c ≤ 122) ∨ (65 ≤ c ∧ c ≤ 90) ∨ (0 < i ∧ ((48 ≤ c ∧ c ≤ 57) ∨ c = 95)))
def nameFrom (s : ByteArray) : Nat → Nat → Bool
  | 0, _ => true
  | d + 1, i => nameCh i (bt s i) && nameFrom s d (i + 1)
def isNameB (s : ByteArray) : Bool := decide (1 ≤ s.size ∧ s.size ≤ 24) && nameFrom s s.size 0

theorem wire_step (k : Nat) (s : ByteArray) (i : Int) (h0 : 0 ≤ i) (hi : i < s.size) (hn : s.size ≤ 24) :
    wire_IsName.l0 (k + 3) s (s.size : Int) i = if nameCh i (bt s i) = true then wire_IsName.l0 k s (s.size : Int) (i + 1) else some false := by
  have hw : wrap64 (i + 1) = i + 1 := by unfold wrap64; omega
  simp only [wire_IsName.l0, wire_IsName.j2, wire_IsName.j3, hw, if_pos hi, if_pos h0]
  generalize bt s i = c
  by_cases c1 : c ≥ 97 <;> by_cases c2 : c ≤ 122 <;> by_cases c3 : c ≥ 65 <;> by_cases c4 : c ≤ 90 <;> by_cases c5 : i > 0 <;> by_cases c6 : c ≥ 48 <;> by_cases c7 : c ≤ 57 <;> by_cases c8 : c = 95 <;>
    first | (exfalso; omega) | (simp [nameCh, c1, c2, c3, c4, c5, c6, c7, c8]; done) | (subst c8; simp [nameCh, c1, c2, c3, c4, c5, c6, c7])

theorem ref_step (k : Nat) (s : ByteArray) (i : Int) (h0 : 0 ≤ i) (hi : i < s.size) (hn : s.size ≤ 24) :
    provisoref01_IsName.l0 (k + 1) s i = if nameCh i (bt s i) = true then provisoref01_IsName.l0 k s (i + 1) else some false := by
  have hw : wrap64 (i + 1) = i + 1 := by unfold wrap64; omega
  simp only [provisoref01_IsName.l0, hw, if_pos hi, if_pos h0]
  generalize bt s i = c
  by_cases c1 : c ≥ 97 <;> by_cases c2 : c ≤ 122 <;> by_cases c3 : c ≥ 65 <;> by_cases c4 : c ≤ 90 <;> by_cases c5 : i = 0 <;> by_cases c6 : c < 48 <;> by_cases c7 : c > 57 <;> by_cases c8 : c = 95 <;>
    first | (exfalso; omega) | (have h5 : ¬ (0 < i) ∨ 0 < i := by omega
                                rcases h5 with h5 | h5 <;> first | (exfalso; omega) | (simp [nameCh, c1, c2, c3, c4, c5, c6, c7, c8, h5]; done) | (simp [nameCh, c1, c2, c3, c4, c5, c6, c7, c8, h5]; intros; omega))

theorem wire_from (s : ByteArray) (hn : s.size ≤ 24) (d : Nat) : ∀ i : Nat, i + d = s.size → Ev (fun k => wire_IsName.l0 k s (s.size : Int) i) (nameFrom s d i) := by
  induction d with
  | zero =>
    intro i hi
    refine Ev.step (f := fun _ => some true) (fun k => ?_) (Ev.now _)
    simp only [wire_IsName.l0]
    rw [if_neg (by omega)]
  | succ d ih =>
    intro i hi
    obtain ⟨K, hK⟩ := ih (i + 1) (by omega)
    refine ⟨K + 3, fun k hk => ?_⟩
    obtain ⟨m, rfl⟩ : ∃ m, k = m + 3 := ⟨k - 3, by omega⟩
    simp only
    rw [wire_step m s i (by omega) (by omega) hn]
    have := hK m (by omega)
    push_cast at this
    by_cases h : nameCh (i : Int) (bt s i) = true
    · rw [if_pos h, nameFrom, h, Bool.true_and]; exact this
    · rw [if_neg h, nameFrom]; simp at h; rw [h]; rfl

theorem ref_from (s : ByteArray) (hn : s.size ≤ 24) (d : Nat) : ∀ i : Nat, i + d = s.size → Ev (fun k => provisoref01_IsName.l0 k s i) (nameFrom s d i) := by
  induction d with
  | zero =>
    intro i hi
    refine Ev.step (f := fun _ => some true) (fun k => ?_) (Ev.now _)
    simp only [provisoref01_IsName.l0]
    rw [if_neg (by omega)]
  | succ d ih =>
    intro i hi
    obtain ⟨K, hK⟩ := ih (i + 1) (by omega)
    refine ⟨K + 1, fun k hk => ?_⟩
    obtain ⟨m, rfl⟩ : ∃ m, k = m + 1 := ⟨k - 1, by omega⟩
    simp only
    rw [ref_step m s i (by omega) (by omega) hn]
    have := hK m (by omega)
    push_cast at this
    by_cases h : nameCh (i : Int) (bt s i) = true
    · rw [if_pos h, nameFrom, h, Bool.true_and]; exact this
    · rw [if_neg h, nameFrom]; simp at h; rw [h]; rfl

theorem wire_isName (s : ByteArray) : ∃ k, wire_IsName.f k s = some (isNameB s) := by
  unfold wire_IsName.f isNameB
  by_cases h0 : (s.size : Int) = 0
  · refine ⟨1, ?_⟩
    rw [if_pos h0, wire_IsName.j0, if_pos rfl]
    have : ¬ (1 ≤ s.size ∧ s.size ≤ 24) := by omega
    simp [this]
  · by_cases h1 : (s.size : Int) > 24
    · refine ⟨1, ?_⟩
      rw [if_neg h0, wire_IsName.j0, if_pos (by simpa using h1)]
      have : ¬ (1 ≤ s.size ∧ s.size ≤ 24) := by omega
      simp [this]
    · obtain ⟨K, hK⟩ := wire_from s (by omega) s.size 0 (by omega)
      refine ⟨K + 1, ?_⟩
      rw [if_neg h0, wire_IsName.j0, if_neg (by simpa using h1)]
      have : (1 ≤ s.size ∧ s.size ≤ 24) := by omega
      rw [decide_eq_true this, Bool.true_and]
      exact hK K (Nat.le_refl _)
theorem ref_isName (s : ByteArray) : ∃ k, provisoref01_IsName.f k s = some (isNameB s) := by
  unfold provisoref01_IsName.f isNameB
  by_cases h0 : (s.size : Int) < 1
  · refine ⟨1, ?_⟩
    rw [if_pos h0, provisoref01_IsName.j0, if_pos rfl]
    have : ¬ (1 ≤ s.size ∧ s.size ≤ 24) := by omega
    simp [this]
  · by_cases h1 : (s.size : Int) > 24
    · refine ⟨1, ?_⟩
      rw [if_neg h0, provisoref01_IsName.j0, if_pos (by simpa using h1)]
      have : ¬ (1 ≤ s.size ∧ s.size ≤ 24) := by omega
      simp [this]
    · obtain ⟨K, hK⟩ := ref_from s (by omega) s.size 0 (by omega)
      refine ⟨K + 1, ?_⟩
      rw [if_neg h0, provisoref01_IsName.j0, if_neg (by simpa using h1)]
      have : (1 ≤ s.size ∧ s.size ≤ 24) := by omega
      rw [decide_eq_true this, Bool.true_and]
      exact hK K (Nat.le_refl _)

theorem wire_isName_calls (s : ByteArray) (w : World) : Calls Try.prog 63 #[.string s] w fun e w' => e = .returned (.bool (isNameB s)) ∧ Drawn0 w w' := by
  obtain ⟨k, h⟩ := wire_isName s
  exact wire_IsName.calls k s _ w h
theorem ref_isName_calls (s : ByteArray) (w : World) : Calls Try.prog 64 #[.string s] w fun e w' => e = .returned (.bool (isNameB s)) ∧ Drawn0 w w' := by
  obtain ⟨k, h⟩ := ref_isName s
  exact provisoref01_IsName.calls k s _ w h
end Go.Proofs.Ytgfjepjaccnkiaa
