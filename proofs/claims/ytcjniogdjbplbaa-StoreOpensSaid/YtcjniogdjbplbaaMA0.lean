/- What a name is; both texts' IsName tell it. -/
import Derived.Test.YtcjniogdjbplbaaPStorePlaysx2
import Derived.Test.YtcjniogdjbplbaaPStorePlaysx1
import Derived.Test.YtcjniogdjbplbaaPStorePlaysx3
import Derived.WalkKit
import Derived.Laws.MakeOwn
import Derived.Laws.OwnMore
import Derived.Laws.CopyRow
import Derived.Maps.AppendAt
import Derived.Lib.Hide
import Derived.Test.YtcjniogdjbplbaaWMore
import Derived.WalkSpells
import Derived.WalkLawsBesides
import Derived.Deep.QuietTactic
import Derived.BigQuiet
import Derived.Lib.AppendStr
import Derived.Handy
import Derived.Maps.OwnSet
import Derived.StringKeys
import Derived.Deep.RegionWith
import Derived.Deep.RegionHeld3
import Derived.Laws.Slices
/-! Names -/
namespace Go.Proofs.Ytcjniogdjbplbaa
open Go.RowKit Go.Proofs.YtcjniogdjbplbaaW.PrintWords Go.Proofs.YtcjniogdjbplbaaW.PrintLast Go.Proofs.YtcjniogdjbplbaaW.PrintMore PStorePlays

def nameCh (i : Int) (c : Int) : Bool := decide ((97 ≤ c ∧ c ≤ 122) ∨ (65 ≤ c ∧ c ≤ 90) ∨ (0 < i ∧ ((48 ≤ c ∧ c ≤ 57) ∨ c = 95)))
def nameFrom (s : ByteArray) : Nat → Nat → Bool
  | 0, _ => true
  | d + 1, i => nameCh i (bt s i) && nameFrom s d (i + 1)
def isNameB (s : ByteArray) : Bool := decide (1 ≤ s.size ∧ s.size ≤ 24) && nameFrom s s.size 0

theorem wire_step (k : Nat) (s : ByteArray) (i : Int) (h0 : 0 ≤ i) (hi : i < s.size) (hn : s.size ≤ 24) :
    wire_IsName.l0 (k + 3) s (s.size : Int) i = if nameCh i (bt s i) = true then wire_IsName.l0 k s (s.size : Int) (i + 1) else some false := by
  have hw : wrap64 (i + 1) = i + 1 := by unfold wrap64; omega
  simp only [wire_IsName.l0, wire_IsName.j2, wire_IsName.j3, hw, if_pos hi, if_pos h0]
  generalize bt s i = c
  by_cases c1 : c ≥ 97 <;> by_cases c2 : c ≤ 122 <;> by_cases c3 : c ≥ 65 <;> by_cases c4 : c ≤ 90 <;> by_cases c5 : i > 0 <;> by_cases c6 : c ≥ 48 <;> by_cases c7 : c ≤ 57 <;> by_cases c8 : c = 95 <;>
    first | (exfalso; omega) | (simp [nameCh, c1, c2, c3, c4, c5, c6, c7, c8]; done) | (subst c8; simp [nameCh, c1, c2, c3, c4, c5, c6, c7])

theorem ref_step (k : Nat) (s : ByteArray) (i : Int) (h0 : 0 ≤ i) (hi : i < s.size) (hn : s.size ≤ 24) :
    provisoref01_IsName.l0 (k + 1) s i = if nameCh i (bt s i) = true then provisoref01_IsName.l0 k s (i + 1) else some false := by
  have hw : wrap64 (i + 1) = i + 1 := by unfold wrap64; omega
  simp only [provisoref01_IsName.l0, hw, if_pos hi, if_pos h0]
  generalize bt s i = c
  by_cases c1 : c ≥ 97 <;> by_cases c2 : c ≤ 122 <;> by_cases c3 : c ≥ 65 <;> by_cases c4 : c ≤ 90 <;> by_cases c5 : i = 0 <;> by_cases c6 : c < 48 <;> by_cases c7 : c > 57 <;> by_cases c8 : c = 95 <;>
    first | (exfalso; omega) | (have h5 : ¬ (0 < i) ∨ 0 < i := by omega
                                rcases h5 with h5 | h5 <;> first | (exfalso; omega) | (simp [nameCh, c1, c2, c3, c4, c5, c6, c7, c8, h5]; done) | (simp [nameCh, c1, c2, c3, c4, c5, c6, c7, c8, h5]; intros; omega))

theorem wire_from (s : ByteArray) (hn : s.size ≤ 24) (d : Nat) : ∀ i : Nat, i + d = s.size → Ev (fun k => wire_IsName.l0 k s (s.size : Int) i) (nameFrom s d i) := by
  induction d with
  | zero =>
    intro i hi
    refine Ev.step (f := fun _ => some true) (fun k => ?_) (Ev.now _)
    simp only [wire_IsName.l0]
    rw [if_neg (by omega)]
  | succ d ih =>
    intro i hi
    obtain ⟨K, hK⟩ := ih (i + 1) (by omega)
    refine ⟨K + 3, fun k hk => ?_⟩
    obtain ⟨m, rfl⟩ : ∃ m, k = m + 3 := ⟨k - 3, by omega⟩
    simp only
    rw [wire_step m s i (by omega) (by omega) hn]
    have := hK m (by omega)
    push_cast at this
    by_cases h : nameCh (i : Int) (bt s i) = true
    · rw [if_pos h, nameFrom, h, Bool.true_and]; exact this
    · rw [if_neg h, nameFrom]; simp at h; rw [h]; rfl

theorem ref_from (s : ByteArray) (hn : s.size ≤ 24) (d : Nat) : ∀ i : Nat, i + d = s.size → Ev (fun k => provisoref01_IsName.l0 k s i) (nameFrom s d i) := by
  induction d with
  | zero =>
    intro i hi
    refine Ev.step (f := fun _ => some true) (fun k => ?_) (Ev.now _)
    simp only [provisoref01_IsName.l0]
    rw [if_neg (by omega)]
  | succ d ih =>
    intro i hi
    obtain ⟨K, hK⟩ := ih (i + 1) (by omega)
    refine ⟨K + 1, fun k hk => ?_⟩
    obtain ⟨m, rfl⟩ : ∃ m, k = m + 1 := ⟨k - 1, by omega⟩
    simp only
    rw [ref_step m s i (by omega) (by omega) hn]
    have := hK m (by omega)
    push_cast at this
    by_cases h : nameCh (i : Int) (bt s i) = true
    · rw [if_pos h, nameFrom, h, Bool.true_and]; exact this
    · rw [if_neg h, nameFrom]; simp at h; rw [h]; rfl

theorem wire_isName (s : ByteArray) : ∃ k, wire_IsName.f k s = some (isNameB s) := by
  unfold wire_IsName.f isNameB
  by_cases h0 : (s.size : Int) = 0
  · refine ⟨1, ?_⟩
    rw [if_pos h0, wire_IsName.j0, if_pos rfl]
    have : ¬ (1 ≤ s.size ∧ s.size ≤ 24) := by omega
    simp [this]
  · by_cases h1 : (s.size : Int) > 24
    · refine ⟨1, ?_⟩
      rw [if_neg h0, wire_IsName.j0, if_pos (by simpa using h1)]
      have : ¬ (1 ≤ s.size ∧ s.size ≤ 24) := by omega
      simp [this]
    · obtain ⟨K, hK⟩ := wire_from s (by omega) s.size 0 (by omega)
      refine ⟨K + 1, ?_⟩
      rw [if_neg h0, wire_IsName.j0, if_neg (by simpa using h1)]
      have : (1 ≤ s.size ∧ s.size ≤ 24) := by omega
      rw [decide_eq_true this, Bool.true_and]
      exact hK K (Nat.le_refl _)
theorem ref_isName (s : ByteArray) : ∃ k, provisoref01_IsName.f k s = some (isNameB s) := by
  unfold provisoref01_IsName.f isNameB
  by_cases h0 : (s.size : Int) < 1
  · refine ⟨1, ?_⟩
    rw [if_pos h0, provisoref01_IsName.j0, if_pos rfl]
    have : ¬ (1 ≤ s.size ∧ s.size ≤ 24) := by omega
    simp [this]
  · by_cases h1 : (s.size : Int) > 24
    · refine ⟨1, ?_⟩
      rw [if_neg h0, provisoref01_IsName.j0, if_pos (by simpa using h1)]
      have : ¬ (1 ≤ s.size ∧ s.size ≤ 24) := by omega
      simp [this]
    · obtain ⟨K, hK⟩ := ref_from s (by omega) s.size 0 (by omega)
      refine ⟨K + 1, ?_⟩
      rw [if_neg h0, provisoref01_IsName.j0, if_neg (by simpa using h1)]
      have : (1 ≤ s.size ∧ s.size ≤ 24) := by omega
      rw [decide_eq_true this, Bool.true_and]
      exact hK K (Nat.le_refl _)

theorem wire_isName_calls (s : ByteArray) (w : World) : Calls Try.prog 33 #[.string s] w fun e w' => e = .returned (.bool (isNameB s)) ∧ Drawn0 w w' := by
  obtain ⟨k, h⟩ := wire_isName s
  exact wire_IsName.calls k s _ w h
theorem ref_isName_calls (s : ByteArray) (w : World) : Calls Try.prog 39 #[.string s] w fun e w' => e = .returned (.bool (isNameB s)) ∧ Drawn0 w w' := by
  obtain ⟨k, h⟩ := ref_isName s
  exact provisoref01_IsName.calls k s _ w h
end Go.Proofs.Ytcjniogdjbplbaa

/-! StLaw -/
namespace Go.Proofs.Ytcjniogdjbplbaa
open Go.RowKit Go.Proofs.YtcjniogdjbplbaaW.PrintWords Go.Proofs.YtcjniogdjbplbaaW.PrintLast Go.Proofs.YtcjniogdjbplbaaW.PrintMore PStorePlays

/-- Where a name stands, or would, and whether it does. -/
def plc : List S99 → ByteArray → Nat × Bool
  | [], _ => (0, false)
  | k :: l, n => if Op.bytesLess k.f0.toList n.toList = true then ((plc l n).1 + 1, (plc l n).2) else (0, k.f0.toList == n.toList)
def ins (l : List S99) (n : ByteArray) (b : List Int) : List S99 := (l.take (plc l n).1 ++ [⟨n, b⟩]) ++ l.drop (if (plc l n).2 = true then (plc l n).1 + 1 else (plc l n).1)
def rem (l : List S99) (n : ByteArray) : List S99 := l.take (plc l n).1 ++ l.drop (if (plc l n).2 = true then (plc l n).1 + 1 else (plc l n).1)

theorem plc_le : ∀ (l : List S99) (n : ByteArray), (plc l n).1 ≤ l.length
  | [], _ => Nat.le_refl _
  | k :: l, n => by
    unfold plc
    split
    · have := plc_le l n; simp; exact this
    · simp
theorem plc_lt : ∀ (l : List S99) (n : ByteArray), (plc l n).2 = true → (plc l n).1 < l.length
  | [], _, h => by simp [plc] at h
  | k :: l, n, h => by
    unfold plc at h ⊢
    split at h
    · have := plc_lt l n h; simp_all
    · simp_all

theorem place_from (l : List S99) (n : ByteArray) (hl : l.length ≤ 9223372036854775806) (d : Nat) : ∀ i : Nat, i + d = l.length → Ev (fun k => provisoref21_place.l0 k l n i) (((i + (plc (l.drop i) n).1 : Nat) : Int), (plc (l.drop i) n).2) := by
  induction d with
  | zero =>
    intro i hi
    have e : l.drop i = [] := List.drop_of_length_le (by omega)
    rw [e]
    refine Ev.step (f := fun _ => some ((i : Int), false)) (fun k => ?_) (Ev.now _)
    simp only [provisoref21_place.l0]
    rw [if_neg (by omega)]
  | succ d ih =>
    intro i hi
    have hlt : i < l.length := by omega
    have e : l.drop i = l[i] :: l.drop (i + 1) := List.drop_eq_getElem_cons hlt
    have er : rd_T99 l (i : Int) = l[i] := by simp [rd_T99, hlt]
    rw [e]
    unfold plc
    obtain ⟨K, hK⟩ := ih (i + 1) (by omega)
    refine ⟨K + 1, fun k hk => ?_⟩
    obtain ⟨m, rfl⟩ : ∃ m, k = m + 1 := ⟨k - 1, by omega⟩
    simp only [provisoref21_place.l0]
    rw [if_pos (by omega), if_pos (by omega), er]
    have hw : wrap64 ((i : Int) + 1) = ((i + 1 : Nat) : Int) := by unfold wrap64; omega
    split
    · rename_i hb
      rw [hw]
      have := hK m (by omega)
      simp only at this
      rw [this]
      simp only [Option.some.injEq, Prod.mk.injEq, and_true]
      omega
    · rename_i hb
      simp
theorem place_f (l : List S99) (n : ByteArray) (hl : l.length ≤ 9223372036854775806) : Ev (fun k => provisoref21_place.f k l n) (((plc l n).1 : Int), (plc l n).2) := by
  have := place_from l n hl l.length 0 (by omega)
  simpa [provisoref21_place.f] using this

theorem with_f (l : List S99) (n : ByteArray) (b : List Int) (hl : l.length ≤ 1000000) : ∃ k, provisoref21_with.f k l n b = some (ins l n b) := by
  obtain ⟨K, hK⟩ := place_f l n (by omega)
  refine ⟨K, ?_⟩
  have h1 := plc_le l n
  have h2 := plc_lt l n
  unfold provisoref21_with.f ins
  rw [show provisoref21_place.f K l n = _ from hK K (Nat.le_refl _)]
  generalize plc l n = p at *
  obtain ⟨i, t⟩ := p
  simp only at *
  have hw : wrap64 ((i : Int) + 1) = ((i + 1 : Nat) : Int) := by unfold wrap64; omega
  simp only [Option.bind_some, hw, Int.toNat_natCast]
  rw [if_pos (by omega), if_pos (by omega), if_pos (by simp; omega), if_pos (by simp; omega)]
  cases t
  · simp only [Bool.false_eq_true, if_false]
    rw [if_pos (by simp; omega)]
    simp
  · have := h2 rfl
    simp only [if_true]
    rw [if_pos (by omega), if_pos (by omega), if_pos (by simp; omega)]
    simp
theorem without_f (l : List S99) (n : ByteArray) (hl : l.length ≤ 1000000) : ∃ k, provisoref21_without.f k l n = some (rem l n) := by
  obtain ⟨K, hK⟩ := place_f l n (by omega)
  refine ⟨K, ?_⟩
  have h1 := plc_le l n
  have h2 := plc_lt l n
  unfold provisoref21_without.f rem
  rw [show provisoref21_place.f K l n = _ from hK K (Nat.le_refl _)]
  generalize plc l n = p at *
  obtain ⟨i, t⟩ := p
  simp only at *
  have hw : wrap64 ((i : Int) + 1) = ((i + 1 : Nat) : Int) := by unfold wrap64; omega
  simp only [Option.bind_some, hw, Int.toNat_natCast]
  rw [if_pos (by omega), if_pos (by omega), if_pos (by simp; omega)]
  cases t
  · simp only [Bool.false_eq_true, if_false]
    rw [if_pos (by simp; omega)]
    simp
  · have := h2 rfl
    simp only [if_true]
    rw [if_pos (by omega), if_pos (by omega), if_pos (by simp; omega)]
    simp

end Go.Proofs.Ytcjniogdjbplbaa

/-! StLaw2 -/
namespace Go.Proofs.Ytcjniogdjbplbaa
open Go.RowKit Go.Proofs.YtcjniogdjbplbaaW.PrintWords Go.Proofs.YtcjniogdjbplbaaW.PrintLast Go.Proofs.YtcjniogdjbplbaaW.PrintMore PStorePlays

theorem less_eq : ∀ (x y : List UInt8), Op.bytesLess x y = decide (x < y)
  | [], [] => by simp [Op.bytesLess]
  | _ :: _, [] => by simp [Op.bytesLess]
  | [], _ :: _ => by simp [Op.bytesLess]
  | a :: x, b :: y => by
    rw [Op.bytesLess, less_eq x y]
    simp only [List.cons_lt_cons_iff]
    by_cases h1 : a < b <;> by_cases h2 : a = b <;> by_cases h3 : x < y <;> simp [h1, h2, h3]

/-- A name's bytes. -/
abbrev nm (s : ByteArray) : List UInt8 := s.data.toList
theorem nm_inj {a b : ByteArray} (h : nm a = nm b) : a = b := WideShapes.bytes_inj h
theorem nm_lt (a b : ByteArray) : (Op.bytesLess a.toList b.toList = true) ↔ nm a < nm b := by
  rw [less_eq, ByteArray.toList_eq, ByteArray.toList_eq, decide_eq_true_iff]
theorem nm_eq (a b : ByteArray) : ((a.toList == b.toList) = true) ↔ a = b := by
  rw [ByteArray.toList_eq, ByteArray.toList_eq, beq_iff_eq]
  exact ⟨fun h => nm_inj h, fun h => by rw [h]⟩
theorem lt_irr (a : List UInt8) : ¬ a < a := List.lt_irrefl a
theorem lt_tr {a b c : List UInt8} (h : a < b) (k : b < c) : a < c := List.lt_trans h k
theorem lt_tri (a b : ByteArray) (h : ¬ nm a < nm b) (h2 : ¬ a = b) : nm b < nm a := by
  have h3 : nm b ≤ nm a := List.not_lt.1 h
  rcases List.le_iff_lt_or_eq.1 h3 with h4 | h4
  · exact h4
  · exact absurd (nm_inj h4.symm) h2

theorem plc_cons (k : S99) (l : List S99) (s : ByteArray) : plc (k :: l) s = if nm k.f0 < nm s then ((plc l s).1 + 1, (plc l s).2) else (0, decide (k.f0 = s)) := by
  rw [plc]
  by_cases h : nm k.f0 < nm s
  · rw [if_pos ((nm_lt _ _).2 h), if_pos h]
  · rw [if_neg (fun h' => h ((nm_lt _ _).1 h')), if_neg h]
    congr 1
    rw [Bool.eq_iff_iff, decide_eq_true_iff]
    exact nm_eq _ _

/-- What stands under a name. -/
def look (l : List S99) (s : ByteArray) : Option (List Int) := if (plc l s).2 = true then (l[(plc l s).1]?).map (·.f1) else none
theorem look_cons (k : S99) (l : List S99) (s : ByteArray) : look (k :: l) s = if nm k.f0 < nm s then look l s else if k.f0 = s then some k.f1 else none := by
  unfold look
  rw [plc_cons]
  by_cases h : nm k.f0 < nm s
  · simp [h]
  · simp only [if_neg h]
    by_cases h2 : k.f0 = s <;> simp [h2]
theorem look_some (l : List S99) (s : ByteArray) : (look l s).isSome = (plc l s).2 := by
  induction l with
  | nil => rfl
  | cons k l ih =>
    rw [look_cons, plc_cons]
    by_cases h : nm k.f0 < nm s
    · simp [h, ih]
    · simp only [if_neg h]
      by_cases h2 : k.f0 = s <;> simp [h2]

theorem ins_nil (n : ByteArray) (b : List Int) : ins [] n b = [⟨n, b⟩] := by simp [ins, plc]
theorem ins_cons (k : S99) (l : List S99) (n : ByteArray) (b : List Int) : ins (k :: l) n b = if nm k.f0 < nm n then k :: ins l n b else if k.f0 = n then ⟨n, b⟩ :: l else ⟨n, b⟩ :: k :: l := by
  unfold ins
  rw [plc_cons]
  by_cases h : nm k.f0 < nm n
  · cases h3 : (plc l n).2 <;> simp [h]
  · simp only [if_neg h]
    by_cases h2 : k.f0 = n <;> simp [h2]
theorem rem_nil (n : ByteArray) : rem [] n = [] := by simp [rem, plc]
theorem rem_cons (k : S99) (l : List S99) (n : ByteArray) : rem (k :: l) n = if nm k.f0 < nm n then k :: rem l n else if k.f0 = n then l else k :: l := by
  unfold rem
  rw [plc_cons]
  by_cases h : nm k.f0 < nm n
  · cases h3 : (plc l n).2 <;> simp [h]
  · simp only [if_neg h]
    by_cases h2 : k.f0 = n <;> simp [h2]

/-- The names rise. -/
def Rising (l : List S99) : Prop := l.Pairwise (fun a b => nm a.f0 < nm b.f0)
theorem ins_mem {l : List S99} {n : ByteArray} {b : List Int} {x : S99} (h : x ∈ ins l n b) : x = ⟨n, b⟩ ∨ x ∈ l := by
  unfold ins at h
  simp only [List.append_assoc, List.mem_append, List.mem_cons, List.not_mem_nil, or_false] at h
  rcases h with h | h | h
  · exact .inr (List.mem_of_mem_take h)
  · exact .inl h
  · exact .inr (List.mem_of_mem_drop h)
theorem rem_mem {l : List S99} {n : ByteArray} {x : S99} (h : x ∈ rem l n) : x ∈ l := by
  unfold rem at h
  simp only [List.mem_append] at h
  rcases h with h | h
  · exact List.mem_of_mem_take h
  · exact List.mem_of_mem_drop h
theorem Rising.ins {l : List S99} (h : Rising l) (n : ByteArray) (b : List Int) : Rising (ins l n b) := by
  induction l with
  | nil => rw [ins_nil]; exact List.pairwise_singleton _ _
  | cons k l ih =>
    obtain ⟨h1, h2⟩ := List.pairwise_cons.1 h
    rw [ins_cons]
    split
    · rename_i hlt
      refine List.pairwise_cons.2 ⟨fun x hx => ?_, ih h2⟩
      rcases ins_mem hx with rfl | hx
      · exact hlt
      · exact h1 x hx
    · rename_i hlt
      split
      · rename_i he
        subst he
        exact List.pairwise_cons.2 ⟨h1, h2⟩
      · rename_i he
        have hl := lt_tri _ _ hlt he
        refine List.pairwise_cons.2 ⟨fun x hx => ?_, h⟩
        rcases List.mem_cons.1 hx with rfl | hx
        · exact hl
        · exact lt_tr hl (h1 x hx)
theorem Rising.rem {l : List S99} (h : Rising l) (n : ByteArray) : Rising (rem l n) := by
  induction l with
  | nil => rw [rem_nil]; exact List.Pairwise.nil
  | cons k l ih =>
    obtain ⟨h1, h2⟩ := List.pairwise_cons.1 h
    rw [rem_cons]
    split
    · exact List.pairwise_cons.2 ⟨fun x hx => h1 x (rem_mem hx), ih h2⟩
    · split
      · exact h2
      · exact h
theorem look_low {l : List S99} {s : ByteArray} (h : ∀ x ∈ l, nm s < nm x.f0) : look l s = none := by
  cases l with
  | nil => rfl
  | cons k l =>
    have h1 := h k (by simp)
    rw [look_cons, if_neg (fun h2 => lt_irr _ (lt_tr h1 h2)), if_neg (fun e => by rw [e] at h1; exact lt_irr _ h1)]
theorem look_ins {l : List S99} (h : Rising l) (n : ByteArray) (b : List Int) (s : ByteArray) : look (ins l n b) s = if s = n then some b else look l s := by
  induction l with
  | nil =>
    rw [ins_nil, look_cons]
    by_cases e : s = n
    · subst e
      rw [if_neg (lt_irr _), if_pos rfl, if_pos rfl]
    · rw [if_neg e]
      simp only [if_neg (fun e' : n = s => e e'.symm)]
      split <;> rfl
  | cons k l ih =>
    obtain ⟨h1, h2⟩ := List.pairwise_cons.1 h
    rw [ins_cons, look_cons]
    by_cases hk : nm k.f0 < nm n
    · rw [if_pos hk, look_cons, ih h2]
      by_cases e : s = n
      · subst e; rw [if_pos hk, if_pos rfl, if_pos rfl]
      · rw [if_neg e]; simp only [if_neg e]
    · rw [if_neg hk]
      by_cases hkn : k.f0 = n
      · subst hkn
        rw [if_pos rfl, look_cons]
        by_cases e : s = k.f0
        · subst e; rw [if_neg (lt_irr _), if_pos rfl, if_pos rfl]
        · rw [if_neg e]; simp only [if_neg (fun e' : k.f0 = s => e e'.symm)]
      · rw [if_neg hkn, look_cons, look_cons]
        have hl := lt_tri _ _ hk hkn
        by_cases e : s = n
        · subst e; rw [if_neg (lt_irr _), if_pos rfl, if_pos rfl]
        · rw [if_neg e]
          simp only [if_neg (fun e' : n = s => e e'.symm)]
          by_cases hs : nm n < nm s
          · rw [if_pos hs]
          · have hs2 := lt_tri n s hs (fun e' => e e'.symm)
            have h3 : nm s < nm k.f0 := lt_tr hs2 hl
            rw [if_neg hs, if_neg (fun h4 => lt_irr _ (lt_tr h3 h4)), if_neg (fun e' => by rw [e'] at h3; exact lt_irr _ h3)]
theorem look_rem {l : List S99} (h : Rising l) (n : ByteArray) (s : ByteArray) : look (rem l n) s = if s = n then none else look l s := by
  induction l with
  | nil => rw [rem_nil]; simp [look, plc]
  | cons k l ih =>
    obtain ⟨h1, h2⟩ := List.pairwise_cons.1 h
    rw [rem_cons, look_cons]
    by_cases hk : nm k.f0 < nm n
    · rw [if_pos hk, look_cons, ih h2]
      by_cases e : s = n
      · subst e; rw [if_pos hk, if_pos rfl, if_pos rfl]
      · rw [if_neg e]; simp only [if_neg e]
    · rw [if_neg hk]
      by_cases hkn : k.f0 = n
      · subst hkn
        rw [if_pos rfl]
        by_cases e : s = k.f0
        · subst e; rw [if_pos rfl]; exact look_low h1
        · rw [if_neg e]; simp only [if_neg (fun e' : k.f0 = s => e e'.symm)]
          by_cases hs : nm k.f0 < nm s
          · rw [if_pos hs]
          · rw [if_neg hs]
            exact look_low (fun x hx => lt_tr (lt_tri _ _ hs (fun e' => e e'.symm)) (h1 x hx))
      · rw [if_neg hkn, look_cons]
        by_cases e : s = n
        · subst e; rw [if_pos rfl, if_neg hk, if_neg hkn]
        · rw [if_neg e]

theorem ins_len' (l : List S99) (n : ByteArray) (b : List Int) : (ins l n b).length = if (plc l n).2 = true then l.length else l.length + 1 := by
  have h1 := plc_le l n
  have h2 := plc_lt l n
  unfold ins
  split
  · rename_i h; have := h2 h; simp; omega
  · simp; omega
theorem rem_len' (l : List S99) (n : ByteArray) : (rem l n).length = if (plc l n).2 = true then l.length - 1 else l.length := by
  have h1 := plc_le l n
  have h2 := plc_lt l n
  unfold rem
  split
  · rename_i h; have := h2 h; simp; omega
  · simp

end Go.Proofs.Ytcjniogdjbplbaa

/-! Mem -/
namespace Go.Proofs.Ytcjniogdjbplbaa.Mem
open Go.RowKit Go.Proofs.YtcjniogdjbplbaaW.PrintWords Go.Proofs.YtcjniogdjbplbaaW.PrintLast Go.Proofs.YtcjniogdjbplbaaW.PrintMore

theorem run_make_len {P : Program} (t e : TypeId) (z : Value) (bytes : Nat) (ht : P.underlying t = some (.slice e)) (hinfo : (P.info? e).map (fun i => (i.zero, i.size, i.bytes)) = some (some z, 1, bytes)) (hz1 : z.cells = #[z])
    (n : Nat) (hb : bytes * n ≤ 281474976710656) (hn : n ≤ 9223372036854775807) (l : Int) (hl : l = n) (W : World) :
    (Instr.makeSlice t (.int .i64 l) (.int .i64 l)).run P W = .ok (.slice (some ⟨W.heap.size, 0, none⟩) n n) (W.alloc (.cells (madeCells #[z] n) e)) := by
  subst hl
  obtain ⟨i, hi, hz, hs, hby⟩ := info_parts hinfo
  have := run_make (P := P) W t e i z ht hi hz .i64 .i64 n n (by omega) (by omega) (by rw [hby]; omega) (by omega)
  rw [this, hs, hz1]
  simp

theorem setRow_alloc (w : World) (cur new : Array Value) (e : TypeId) : (w.alloc (.cells cur e)).setRow w.heap.size new = w.alloc (.cells new e) := by
  unfold World.setRow World.alloc
  congr 1
  apply Array.ext_getElem?
  intro k
  simp only [Array.getElem?_modify, Array.getElem?_push]
  by_cases h : k = w.heap.size
  · subst h; simp
  · simp [h, Ne.symm h]

theorem run_copy_new {P : Program} (w : World) (e dT sT ty : TypeId) (hu : P.underlying dT = some (.slice e)) (hs : (P.info? e).map (·.size) = some 1) (A : Option Addr) (n c cap : Nat) (cs : List Value) (hn : cs.length = n) (cur : Array Value) (hcur : cur.size = n)
    (hsrc : 0 < n → ∃ ad, A = some ad ∧ ∀ j v, cs[j]? = some v → w.cell? (ad.add j) = some v) (h1 : ∀ v ∈ cs, v.oneCell' = true) :
    (Builtin.copy_ #[dT, sT] ty #[.slice (some ⟨w.heap.size, 0, none⟩) n cap, .slice A n c]).run P (w.alloc (.cells cur e)) = .ok (goInt n) (w.alloc (.cells cs.toArray e)) := by
  rcases Nat.eq_zero_or_pos n with h0 | hp
  · subst h0
    obtain rfl := List.eq_nil_of_length_eq_zero hn
    rw [run_copy_none (P := P) _ dT sT ty e _ _ _ _ _ _ hu hs (by simp)]
    obtain rfl : cur = #[] := Array.eq_empty_of_size_eq_zero hcur
    rfl
  · obtain ⟨ad, rfl, hc⟩ := hsrc hp
    have := run_copy_row (P := P) (w.alloc (.cells cur e)) dT sT ty e w.heap.size 0 n cap ad n c cur e cs hu hs (heap_alloc_new _ _) (by simp [hn])
      (fun j v hj => by
        have h := hc j v hj
        rw [World.cell?_alloc_lt _ _ _ (World.block_lt_of_cell? w _ h)]; exact h) (by omega) h1
    rw [this, setRow_alloc, hn]
    have e1 : cur.toList.drop (0 + n) = [] := List.drop_of_length_le (by simp; omega)
    rw [e1]
    simp

theorem own_row_new (w : World) (base : Nat) (e : TypeId) (cs : List Value) (n cap : Nat) (hn : cs.length = n) (hc : n = cap) (hb : base ≤ w.heap.size) (hm : n ≤ 9223372036854775807) :
    (w.alloc (.cells cs.toArray e)).ownsRow base e 1 (.slice (some ⟨w.heap.size, 0, none⟩) n cap) n cs := by
  subst hc
  exact ⟨by omega, .inr ⟨w.heap.size, n, cs.toArray, rfl, hb, heap_alloc_new _ _, Nat.le_refl _, by unfold maxLen; omega, by simp [hn], by simp [← hn]⟩⟩

/-- What is read of a row whose cells are known. -/
theorem C_int_of_blk {w : World} {k : IntKind} {g : Nat} {xs : List Int} {cells : Array Value} {t : TypeId} {fr : Nat × Nat} (h : w.heap[g]? = some (.cells cells t fr)) (hx : ∀ (j : Nat) (x : Int), xs[j]? = some x → cells[j]? = some (Value.int k x)) (hm : xs.length ≤ 9223372036854775807) :
    Kd.C (Kd.int k) w (some ⟨g, 0, none⟩) xs.length xs := by
  refine ⟨rfl, hm, fun _ => ⟨_, rfl, fun j p hj => ⟨[.int k p], rfl, rfl, fun i u hu => ?_⟩⟩⟩
  match i, hu with
  | 0, hu =>
    simp at hu
    subst hu
    rw [show (Kd.int k).sz = 1 from rfl, Nat.mul_one, Nat.add_zero, add_plain, cell_of_row w g j _ _ _ h]
    exact hx j p hj

/-- What is read of a row, cell by cell. -/
theorem C_int_cells {w : World} {k : IntKind} {A : Option Addr} {xs : List Int} (h : Kd.C (Kd.int k) w A xs.length xs) (hp : 0 < xs.length) :
    ∃ ad, A = some ad ∧ ∀ j v, (xs.map (Value.int k))[j]? = some v → w.cell? (ad.add j) = some v := by
  obtain ⟨ad, e, hc⟩ := h.2.2 hp
  refine ⟨ad, e, fun j v hj => ?_⟩
  rw [List.getElem?_map] at hj
  cases hx : xs[j]? with
  | none => simp [hx] at hj
  | some x =>
    simp [hx] at hj
    subst hj
    obtain ⟨c, hl, hk, hcell⟩ := hc j x hx
    have hk' : c = [.int k x] := hk
    subst hk'
    have := hcell 0 _ rfl
    rwa [show (Kd.int k).sz = 1 from rfl, Nat.mul_one, Nat.add_zero] at this

theorem one_ints (k : IntKind) (xs : List Int) : ∀ v ∈ xs.map (Value.int k), v.oneCell' = true := by
  intro v hv
  obtain ⟨x, _, rfl⟩ := List.mem_map.1 hv
  rfl

def nums8 (xs : List Int) : List Value := xs.map (Value.int .u8)
theorem nums8_len (xs : List Int) : (nums8 xs).length = xs.length := by simp [nums8]
theorem nums8_app (xs ys : List Int) : nums8 (xs ++ ys) = nums8 xs ++ nums8 ys := by simp [nums8]

/-- append to a row of bytes that is owned: whatever slice of bytes comes behind, an empty or nil one too. -/
theorem run_append_u8 {P : Program} (w : World) (base : Nat) (t ty e : TypeId) (ht : P.underlying t = some (.slice e)) (hinfo : (P.info? e).map (fun i => (i.zero, i.size, i.bytes)) = some (some (.int .u8 0), 1, 1))
    (v : Value) (n : Nat) (xs : List Int) (hown : w.ownsRow base e 1 v n (nums8 xs)) (A : Option Addr) (c : Nat) (news : List Int) (hC : Kd.C (Kd.int .u8) w A news.length news)
    (hb : n + news.length ≤ 140737488355328) (hbase : base ≤ w.heap.size) :
    ∃ v' w', (Builtin.append_ #[t, t] ty #[v, .slice A news.length c]).run P w = .ok v' w' ∧ w'.ownsRow base e 1 v' (n + news.length) (nums8 (xs ++ news)) ∧ w.grownBy w' v.ownBlock ∧ (v'.ownBlock = v.ownBlock ∨ v'.ownBlock = some w.heap.size) := by
  obtain ⟨i, hi, hz, hs, hby⟩ := info_parts hinfo
  cases A with
  | none =>
    have h0 : news = [] := by
      rcases Nat.eq_zero_or_pos news.length with h | h
      · exact List.eq_nil_of_length_eq_zero h
      · obtain ⟨ad, e, _⟩ := C_int_cells hC h
        cases e
    subst h0
    refine ⟨v, w, ?_, by simpa using hown, ⟨rfl, rfl, rfl, Nat.le_refl _, fun _ _ _ => rfl⟩, .inl rfl⟩
    rcases hown.2 with ⟨rfl, rfl⟩ | ⟨g, cap, cur, rfl, _, _, hnc, _⟩
    · simp [Builtin.append_, run_underlying ht, sizeOf, typeInfo, hi, Builtin.lenOf, Builtin.firstCells]
    · simp [Builtin.append_, run_underlying ht, sizeOf, typeInfo, hi, Builtin.lenOf, Builtin.firstCells, hnc, storeCells]
  | some ad =>
    obtain ⟨v', w', hr, h2, h3, h4, h5⟩ := run_append_own_at (P := P) w base t ty e i (.int .u8 0) 1 1 ht hi hz hs hby rfl (by decide) v n (nums8 xs) hown ad news.length c (nums8 news) (by simp [nums8])
      (fun j u hj => by
        have hp : 0 < news.length := by
          have := (List.getElem?_eq_some_iff.1 hj).1
          simp [nums8] at this
          omega
        obtain ⟨ad', e, hc⟩ := C_int_cells hC hp
        cases e
        exact hc j u hj) (one_ints _ _) (by unfold maxLen; omega) (by omega) hbase
    exact ⟨v', w', hr, by rw [nums8_app]; exact h2, h3, h5⟩

/-- .. at the operation, for the walk. -/
theorem wpList_append_u8 {P : Program} {w : World} {ops : Array Oper} {rest : List Oper} {o : Oper} {a : Act} {Q : Exit → Act → World → Prop} (hgd : o.guard = none) (s x : Operand) (t : TypeId)
    (ho : o.op = .call { callee := .builtin .append, args := #[s, x], argTypes := #[t, t] })
    (base : Nat) (e : TypeId) (ht : P.underlying t = some (.slice e)) (hinfo : (P.info? e).map (fun i => (i.zero, i.size, i.bytes)) = some (some (.int .u8 0), 1, 1))
    (v : Value) (n : Nat) (xs : List Int) (hs : a.eval s = v) (hown : w.ownsRow base e 1 v n (nums8 xs)) (A : Option Addr) (c m : Nat) (news : List Int) (hx : a.eval x = .slice A m c) (hm : m = news.length) (hC : Kd.C (Kd.int .u8) w A news.length news)
    (hb : n + news.length ≤ 140737488355328) (hbase : base ≤ w.heap.size)
    (h : ∀ v' w', w'.ownsRow base e 1 v' (n + news.length) (nums8 (xs ++ news)) → w.grownBy w' v.ownBlock → (v'.ownBlock = v.ownBlock ∨ v'.ownBlock = some w.heap.size) → wpList P ops Q rest (a.put o.dst v') w') :
    wpList P ops Q (o :: rest) a w := by
  subst hm
  refine wpList_plain hgd fun K hK => ?_
  obtain ⟨v', w', hr, h2, h3, h4⟩ := run_append_u8 (P := P) w base t o.type e ht hinfo v n xs hown A c news hC hb hbase
  unfold Oper.wp execOp
  simp only [ho, resolve, invoke, builtin, Sem.run_bind, Sem.run_pure, Result.andThen_ok, List.map_toArray, List.map_cons, List.map_nil, hs, hx, hr]
  exact hK _ _ (h v' w' h2 h3 h4)

/-- .. at the operation, for the walk. -/
theorem wpList_append_u8n {P : Program} {w : World} {ops : Array Oper} {rest : List Oper} {o : Oper} {a : Act} {Q : Exit → Act → World → Prop} (hgd : o.guard = none) (s x : Operand) (t : TypeId)
    (ho : o.op = .call { callee := .builtin .append, args := #[s, x], argTypes := #[t, t] })
    (base : Nat) (e : TypeId) (ht : P.underlying t = some (.slice e)) (hinfo : (P.info? e).map (fun i => (i.zero, i.size, i.bytes)) = some (some (.int .u8 0), 1, 1))
    (v : Value) (n : Nat) (xs : List Int) (hs : a.eval s = v) (hown : w.ownsRow base e 1 v n (nums8 xs)) (A : Option Addr) (c m : Nat) (news : List Int) (hx : a.eval x = .slice A m c) (hm : m = news.length) (hC : Kd.C (Kd.int .u8) w A news.length news)
    (nn : Nat) (hnn : n + news.length = nn) (hb : nn ≤ 140737488355328) (hbase : base ≤ w.heap.size)
    (h : ∀ v' w', w'.ownsRow base e 1 v' nn (nums8 (xs ++ news)) → w.grownBy w' v.ownBlock → (v'.ownBlock = v.ownBlock ∨ v'.ownBlock = some w.heap.size) → wpList P ops Q rest (a.put o.dst v') w') :
    wpList P ops Q (o :: rest) a w := by
  subst hm
  subst hnn
  refine wpList_plain hgd fun K hK => ?_
  obtain ⟨v', w', hr, h2, h3, h4⟩ := run_append_u8 (P := P) w base t o.type e ht hinfo v n xs hown A c news hC hb hbase
  unfold Oper.wp execOp
  simp only [ho, resolve, invoke, builtin, Sem.run_bind, Sem.run_pure, Result.andThen_ok, List.map_toArray, List.map_cons, List.map_nil, hs, hx, hr]
  exact hK _ _ (h v' w' h2 h3 h4)

/-- .. as a step of a region that draws its order. -/
theorem step_append_u8 {P : Program} {w : World} {ops : Array Oper} {o : Oper} {a : Act} {K : Act → World → Prop} {Q : Exit → Act → World → Prop} {E : Prop} (hgd : o.guard = none) (s x : Operand) (t : TypeId)
    (ho : o.op = .call { callee := .builtin .append, args := #[s, x], argTypes := #[t, t] })
    (base : Nat) (e : TypeId) (ht : P.underlying t = some (.slice e)) (hinfo : (P.info? e).map (fun i => (i.zero, i.size, i.bytes)) = some (some (.int .u8 0), 1, 1))
    (v : Value) (n : Nat) (xs : List Int) (hs : a.eval s = v) (hown : w.ownsRow base e 1 v n (nums8 xs)) (A : Option Addr) (c m : Nat) (news : List Int) (hx : a.eval x = .slice A m c) (hm : m = news.length) (hC : Kd.C (Kd.int .u8) w A news.length news)
    (nn : Nat) (hnn : n + news.length = nn) (hb : nn ≤ 140737488355328) (hbase : base ≤ w.heap.size)
    (h : ∀ v' w', w'.ownsRow base e 1 v' nn (nums8 (xs ++ news)) → w.grownBy w' v.ownBlock → (v'.ownBlock = v.ownBlock ∨ v'.ownBlock = some w.heap.size) → K (a.put o.dst v') w') :
    if Region.wanted o (yielded ops a.tmps) = true then Oper.wp P o a w K Q else E := by
  subst hm
  subst hnn
  have hw : Region.wanted o (yielded ops a.tmps) = true := by simp [Region.wanted, hgd]
  rw [if_pos hw]
  obtain ⟨v', w', hr, h2, h3, h4⟩ := run_append_u8 (P := P) w base t o.type e ht hinfo v n xs hown A c news hC hb hbase
  unfold Oper.wp execOp
  simp only [ho, resolve, invoke, builtin, Sem.run_bind, Sem.run_pure, Result.andThen_ok, List.map_toArray, List.map_cons, List.map_nil, hs, hx, hr]
  exact h v' w' h2 h3 h4

/-- What is read of an owned row of bytes. -/
theorem own_C8 {w : World} {base n : Nat} {e : TypeId} {v : Value} {xs : List Int} (h : w.ownsRow base e 1 v n (nums8 xs)) : ∃ A c, v = .slice A xs.length c ∧ n = xs.length ∧ xs.length ≤ c ∧ (∀ ad, A = some ad → ∃ g, ad = ⟨g, 0, none⟩ ∧ base ≤ g ∧ v.ownBlock = some g) ∧ Kd.C (Kd.int .u8) w A xs.length xs := by
  have hl : n = xs.length := by
    have := h.1
    simp [nums8] at this
    omega
  subst hl
  rcases h.2 with ⟨rfl, h0⟩ | ⟨g, cap, cur, rfl, hb, hg, hn, hc, hs, ht⟩
  · obtain rfl := List.eq_nil_of_length_eq_zero h0
    exact ⟨none, 0, rfl, rfl, Nat.le_refl _, fun _ e => (by cases e), Kd.C_nil _ _⟩
  · refine ⟨some ⟨g, 0, none⟩, cap, rfl, rfl, hn, fun ad e => (by cases e; exact ⟨g, rfl, hb, rfl⟩), C_int_of_blk hg (fun j x hj => ?_) (by unfold maxLen at hc; omega)⟩
    have h1 : (nums8 xs)[j]? = some (.int .u8 x) := by simp [nums8, hj]
    rw [← ht] at h1
    have hlt : j < xs.length := (List.getElem?_eq_some_iff.1 hj).1
    rw [List.getElem?_take_of_lt (by omega)] at h1
    simpa using h1

/-- A reading holds on where its row's block is the same. -/
theorem C8_blk {w w' : World} {A : Option Addr} {xs : List Int} (h : Kd.C (Kd.int .u8) w A xs.length xs) (hb : ∀ ad, A = some ad → 0 < xs.length → w'.heap[ad.block]? = w.heap[ad.block]?) : Kd.C (Kd.int .u8) w' A xs.length xs := by
  refine ⟨rfl, h.2.1, fun hp => ?_⟩
  obtain ⟨ad, e, hc⟩ := h.2.2 hp
  refine ⟨ad, e, fun j x hj => ?_⟩
  obtain ⟨c, hl, hk, hcell⟩ := hc j x hj
  refine ⟨c, hl, hk, fun i u hu => ?_⟩
  rw [← hcell i u hu]
  exact World.cell?_of_block (by rw [show (ad.add (j * (Kd.int IntKind.u8).sz + i)).block = ad.block from add_block _ _]; exact hb ad e hp)
/-- A new row of bytes is owned; its place may be spelled in any way. -/
theorem own_row_at (w : World) (base p : Nat) (e : TypeId) (xs : List Int) (n : Nat) (hn : xs.length = n) (hp : p = w.heap.size) (hb : base ≤ w.heap.size) (hm : n ≤ 9223372036854775807) :
    (w.alloc (.cells (nums8 xs).toArray e)).ownsRow base e 1 (.slice (some ⟨p, 0, none⟩) n n) n (nums8 xs) := by
  subst hp
  exact own_row_new w base e (nums8 xs) n n (by rw [nums8_len]; exact hn) rfl hb hm
theorem C_row_at (w : World) (p : Nat) (e : TypeId) (xs : List Int) (hp : p = w.heap.size) (hm : xs.length ≤ 9223372036854775807) :
    Kd.C (Kd.int .u8) (w.alloc (.cells (nums8 xs).toArray e)) (some ⟨p, 0, none⟩) xs.length xs := by
  subst hp
  exact C_int_of_blk (heap_alloc_new _ _) (fun j x hj => by simp [nums8, hj]) hm
theorem at_world {P : Program} {f : FuncId} {args : Array Value} {w : World} {R : Ending → World → Prop} (S : World → Prop) (hs : S w) (h : ∀ W, S W → Calls P f args W R) : Calls P f args w R := h w hs
theorem wp_world {P : Program} {c : Code} {Q : Exit → Act → World → Prop} {a : Act} {w : World} (S : World → Prop) (hs : S w) (h : ∀ W, S W → c.wp P Q a W) : c.wp P Q a w := h w hs
theorem exit_world {K : Act → World → Prop} {Q : Exit → Act → World → Prop} {e : Exit} {a : Act} {w : World} (S : World → Prop) (hs : S w) (h : ∀ W, S W → Exit.then K Q e a W) : Exit.then K Q e a w := h w hs
theorem block_world {i : Nat} {Q : Exit → Act → World → Prop} {e : Exit} {a : Act} {w : World} (S : World → Prop) (hs : S w) (h : ∀ W, S W → Exit.inBlock i Q e a W) : Exit.inBlock i Q e a w := h w hs
end Go.Proofs.Ytcjniogdjbplbaa.Mem

/-! Wr -/
namespace Go.Proofs.Ytcjniogdjbplbaa
open Mem Go.RowKit Go.Proofs.YtcjniogdjbplbaaW.PrintWords Go.Proofs.YtcjniogdjbplbaaW.PrintLast Go.Proofs.YtcjniogdjbplbaaW.PrintMore

abbrev U8C (w : World) (A : Option Addr) (xs : List Int) : Prop := Kd.C (Kd.int .u8) w A xs.length xs

theorem info5 : (Try.prog.info? 5).map (fun i => (i.zero, i.size, i.bytes)) = some (some (.int .u8 0), 1, 1) := by kernel_rfl

/-- w' is w but for the blocks of S, and new ones. -/
structure Chg (S : Nat → Prop) (w w' : World) : Prop where
  os : w'.os = w.os
  tape : w'.tape = w.tape
  output : w'.output = w.output
  size : w.heap.size ≤ w'.heap.size
  block : ∀ k, k < w.heap.size → ¬ S k → w'.heap[k]? = w.heap[k]?
theorem Chg.refl (S : Nat → Prop) (w : World) : Chg S w w := ⟨rfl, rfl, rfl, Nat.le_refl _, fun _ _ _ => rfl⟩
theorem Chg.trans {S : Nat → Prop} {a b c : World} (h : Chg S a b) (k : Chg S b c) : Chg S a c :=
  ⟨k.os.trans h.os, k.tape.trans h.tape, k.output.trans h.output, Nat.le_trans h.size k.size, fun i hi hs => (k.block i (Nat.lt_of_lt_of_le hi h.size) hs).trans (h.block i hi hs)⟩
theorem Chg.mono {S T : Nat → Prop} {a b : World} (h : Chg S a b) (hs : ∀ k, k < a.heap.size → S k → T k) : Chg T a b :=
  ⟨h.os, h.tape, h.output, h.size, fun i hi ht => h.block i hi (fun k => ht (hs i hi k))⟩
theorem Chg.of_below {S : Nat → Prop} {a b : World} (h : Below a.heap.size a b) : Chg S a b := ⟨h.os, h.tape, h.output, h.size, fun k hk _ => h.block k hk⟩
theorem Chg.of_grown {S : Nat → Prop} {a b : World} {r : Option Nat} (h : a.grownBy b r) (hr : ∀ k, r = some k → S k) : Chg S a b := ⟨h.os, h.tape, h.output, h.size, fun k hk hs => h.block k hk (fun e => hs (hr k e.symm))⟩
theorem Chg.below {S : Nat → Prop} {a b : World} {B : Nat} (h : Chg S a b) (hB : B ≤ a.heap.size) (hs : ∀ k, k < B → ¬ S k) : Below B a b := ⟨h.os, h.tape, h.output, h.size, fun k hk => h.block k (Nat.lt_of_lt_of_le hk hB) (hs k hk)⟩
theorem Chg.set {S : Nat → Prop} (w : World) (p : Addr) (v : Value) (hs : S p.block) : Chg S w (w.setCell p v) :=
  ⟨rfl, rfl, rfl, by simp [World.setCell], fun k _ hk => Below.heap_setCell _ _ _ _ (fun e => hk (e ▸ hs))⟩
theorem Chg.alloc {S : Nat → Prop} (w : World) (o : Obj) : Chg S w (w.alloc o) := ⟨rfl, rfl, rfl, by simp, fun k hk _ => Below.heap_alloc w o k hk⟩
theorem Chg.drew {S : Nat → Prop} {a b : World} (h : Chg S a b) : Chg S a b.drew := ⟨h.os, h.tape, h.output, h.size, h.block⟩

/-- A writer's block, and the row of its bytes; all from 'base' on. -/
structure IsWr (w : World) (base g : Nat) (v : Value) (xs : List Int) : Prop where
  blk : w.heap[g]? = some (.cells #[v, .bool true] 123 (0, 0))
  own : w.ownsRow base 5 1 v xs.length (nums8 xs)
  low : base ≤ g
  room : xs.length ≤ 1048576

theorem own_ne {w : World} {base n : Nat} {e t : TypeId} {v : Value} {xs : List Value} {g : Nat} {cells : Array Value} (h : w.ownsRow base e 1 v n xs) (hb : w.heap[g]? = some (.cells cells t (0, 0))) (hne : e ≠ t) : v.ownBlock ≠ some g := by
  rcases h.2 with ⟨rfl, _⟩ | ⟨g', cap, cur, rfl, _, hg, _⟩
  · simp [Value.ownBlock]
  · intro he
    simp [Value.ownBlock] at he
    subst he
    rw [hb] at hg
    injection hg with hg
    injection hg with _ h2
    exact hne h2.symm
theorem own_step {w w' : World} {base n : Nat} {e : TypeId} {v : Value} {xs : List Value} (h : w.ownsRow base e 1 v n xs) (hk : ∀ k, v.ownBlock = some k → w'.heap[k]? = w.heap[k]?) : w'.ownsRow base e 1 v n xs := by
  refine ⟨h.1, ?_⟩
  rcases h.2 with ⟨rfl, h0⟩ | ⟨g', cap, cur, rfl, hb, hg, r⟩
  · exact .inl ⟨rfl, h0⟩
  · exact .inr ⟨g', cap, cur, rfl, hb, (hk g' rfl).trans hg, r⟩
theorem own_low {w : World} {base n : Nat} {e : TypeId} {v : Value} {xs : List Value} (h : w.ownsRow base e 1 v n xs) : ∀ k, v.ownBlock = some k → base ≤ k ∧ k < w.heap.size := by
  intro k hk
  rcases h.2 with ⟨rfl, h0⟩ | ⟨g', cap, cur, rfl, hb, hg, r⟩
  · simp [Value.ownBlock] at hk
  · simp [Value.ownBlock] at hk
    subst hk
    exact ⟨hb, (Array.getElem?_eq_some_iff.1 hg).1⟩
theorem own_drop {w : World} {base base' n : Nat} {e : TypeId} {v : Value} {xs : List Value} (h : w.ownsRow base e 1 v n xs) (hb : ∀ k, v.ownBlock = some k → base' ≤ k) : w.ownsRow base' e 1 v n xs := by
  refine ⟨h.1, ?_⟩
  rcases h.2 with ⟨rfl, h0⟩ | ⟨g', cap, cur, rfl, _, r⟩
  · exact .inl ⟨rfl, h0⟩
  · exact .inr ⟨g', cap, cur, rfl, hb g' rfl, r⟩
theorem own_form {w : World} {base n : Nat} {e : TypeId} {v : Value} {xs : List Value} (h : w.ownsRow base e 1 v n xs) : ∃ A c, v = .slice A n c ∧ n ≤ c ∧ xs.length = n := by
  rcases h.2 with ⟨rfl, rfl⟩ | ⟨g', cap, cur, rfl, _, _, hn, _⟩
  · exact ⟨none, 0, rfl, Nat.le_refl _, by simpa using h.1⟩
  · exact ⟨_, cap, rfl, hn, by simpa using h.1⟩

theorem wr_ready (g : Nat) (v : Value) (w : World) (hb : w.heap[g]? = some (.cells #[v, .bool true] 123 (0, 0))) :
    Calls Try.prog 64 #[.pointer (some ⟨g, 0, none⟩)] w fun e w' => e = .returned (.bool true) ∧ w = w' := by
  have c2 : w.cell? ⟨g, 1, none⟩ = some (.bool true) := (blk_cell hb 1).trans rfl
  go_enter Try.func64, Try.ntmps64
  go_wp2
  go_ret
  exact ⟨rfl, rfl⟩

theorem wr_new (w : World) : Calls Try.prog 59 #[] w fun e w' => e = .returned (.pointer (some ⟨w.heap.size, 0, none⟩)) ∧ IsWr w' w.heap.size w.heap.size (.slice none 0 0) [] ∧ Below w.heap.size w w' := by
  go_enter Try.func59, Try.ntmps59
  go_wp2
  go_ret
  exact ⟨rfl, ⟨heap_alloc_new _ _, ⟨rfl, .inl ⟨rfl, rfl⟩⟩, Nat.le_refl _, by simp⟩, (Below.refl _ w).alloc (Nat.le_refl _) _⟩

theorem put_cells {w w' : World} {base g : Nat} {v : Value} {xs : List Int} (h : IsWr w base g v xs) (hne : v.ownBlock ≠ some g) (hg : w.grownBy w' v.ownBlock) :
    w'.heap[g]? = some (.cells #[v, .bool true] 123 (0, 0)) ∧ w'.cell? ⟨g, 0, none⟩ = some v ∧ w'.frozen? ⟨g, 0, none⟩ = false := by
  have hb' := (hg.block g (blk_lt h.blk) (fun e => hne e.symm)).trans h.blk
  exact ⟨hb', (blk_cell hb' 0).trans rfl, blk_frozen hb' 0⟩

theorem wr_put (base g : Nat) (v : Value) (xs : List Int) (A : Option Addr) (c n : Nat) (ys : List Int) (w : World) (hw : IsWr w base g v xs) (hy : U8C w A ys) (hn : n = ys.length) (hr : xs.length + ys.length ≤ 1048576) (hbase : base ≤ w.heap.size) :
    Calls Try.prog 65 #[.pointer (some ⟨g, 0, none⟩), .slice A n c] w fun e w' => e = .returned (.int .i64 0) ∧ (∃ v', IsWr w' base g v' (xs ++ ys)) ∧ Below base w w' := by
  subst hn
  obtain ⟨Av, cv, ev, hcv, _⟩ := own_form hw.own
  have c0 : w.cell? ⟨g, 0, none⟩ = some v := (blk_cell hw.blk 0).trans rfl
  have hne := own_ne hw.own hw.blk (by decide)
  have HW := Lib.hid hw
  have HY := Lib.hid hy
  have hwr : IntKind.i64.wrap (1048576 - (xs.length : Int)) = 1048576 - xs.length := IntWalk.i64_in _ (by omega)
  subst ev
  clear hw hy
  go_enter Try.func65, Try.ntmps65
  go_wp2_with (first | (at_builtin; refine wpList_append_u8 rfl (.tmp 18) (.tmp 19) 23 rfl base 5 Try.underlying23 info5 _ xs.length xs rfl HW.out.own A c _ ys rfl rfl HY.out (by omega) hbase ?_; intro v' w' ho hg hat; obtain ⟨hb', c0', f0'⟩ := put_cells HW.out hne hg; have HO := Lib.hid ho; have HG := Lib.hid hg; have HB := Lib.hid hb'; have HAT := Lib.hid hat; obtain ⟨Av', cv', ev', hcv', _⟩ := own_form ho; subst ev'; clear ho hg hat hb'))
  go_ret
  have hn' : (Value.slice Av' (xs.length + ys.length) cv').ownBlock ≠ some g := own_ne HO.out HB.out (by decide)
  refine ⟨rfl, ⟨.slice Av' (xs.length + ys.length) cv', ⟨?_, ?_, HW.out.low, by simp; omega⟩⟩, ?_⟩
  · exact (blk_set HB.out 0 _).trans rfl
  · have := own_step (w' := w'.setCell ⟨g, 0, none⟩ (.slice Av' (xs.length + ys.length) cv')) HO.out (fun k hk => Below.heap_setCell _ _ _ _ (fun e => hn' (by rw [hk, e])))
    simpa using this
  · exact ((Below.refl base w).grown HG.out hbase (fun k hk => (own_low HW.out.own k hk).1)).setCell HW.out.low _

end Go.Proofs.Ytcjniogdjbplbaa

/-! Wr2 -/
namespace Go.Proofs.Ytcjniogdjbplbaa
open Mem Go.RowKit Go.Proofs.YtcjniogdjbplbaaW.PrintWords Go.Proofs.YtcjniogdjbplbaaW.PrintLast Go.Proofs.YtcjniogdjbplbaaW.PrintMore

/-- A text's bytes. -/
def bts (s : ByteArray) : List Int := s.data.toList.map (fun b => (b.toNat : Int))
theorem bts_len (s : ByteArray) : (bts s).length = s.size := by unfold bts; rw [List.length_map, Array.length_toList]; rfl
theorem strCells_bts (s : ByteArray) : Lib.strCells s = nums8 (bts s) := by unfold Lib.strCells bts nums8; rw [List.map_map]; rfl

theorem start_below {w : World} {o : Obj} : Below w.heap.size w (w.alloc o) := ⟨rfl, rfl, rfl, by simp, fun k hk => Below.heap_alloc w o k hk⟩
theorem IsWr.below {w w' : World} {base g : Nat} {v : Value} {xs : List Int} (h : IsWr w base g v xs) (d : Below w.heap.size w w') : IsWr w' base g v xs :=
  ⟨(d.block g (blk_lt h.blk)).trans h.blk, own_step h.own (fun k hk => d.block k (own_low h.own k hk).2), h.low, h.room⟩

set_option maxRecDepth 100000 in
theorem wr_Name (base g : Nat) (v : Value) (xs : List Int) (s : ByteArray) (w : World) (hw : IsWr w base g v xs) (hs : isNameB s = true) (h24 : s.size ≤ 24) (hr : xs.length + 25 ≤ 1048576) (hbase : base ≤ w.heap.size) :
    Calls Try.prog 61 #[.pointer (some ⟨g, 0, none⟩), .string s] w fun e w' => e = .returned (.int .i64 0) ∧ (∃ v', IsWr w' base g v' (xs ++ ((s.size : Int) :: bts s))) ∧ Below base w w' := by
  have HW := Lib.hid hw
  have hwr : IntKind.u8.wrap (s.size : Int) = s.size := by simp [IntKind.wrap, IntKind.bits, IntKind.signed]; omega
  obtain ⟨i0, hi, hz0, hz1, hz2⟩ := info_parts info5
  clear hw
  have hcall := fun W : World => wire_isName_calls s W
  rw [hs] at hcall
  go_enter Try.func61, Try.ntmps61
  go_wp2_with (first
    | (go_at_call 64; refine (wr_ready g v _ HW.out.blk).mono ?_; rintro e w' ⟨rfl, rfl⟩)
    | (go_at_call 33; refine (hcall _).mono ?_; rintro e w' ⟨rfl, ⟨nq, rfl⟩⟩)
    | (at_builtin; refine Lib.wpList_append_own_string _ rfl (.tmp 17) (.tmp 18) 23 9 rfl w.heap.size 5 i0 Try.underlying23 Try.underlying9 hi hz0 hz1 hz2 _ 1 (nums8 [(s.size : Int)]) rfl (own_row_new (w.drewN nq) w.heap.size 5 (nums8 [(s.size : Int)]) 1 1 rfl rfl (Nat.le_refl _) (by decide)) s rfl (by unfold maxLen; omega) (by omega) (by simp) ?_; intro v1 w1 ho hg hnil; rw [strCells_bts, ← nums8_app] at ho; have HO := Lib.hid ho; have HG := Lib.hid hg; obtain ⟨A1, c1, ev1, _, _, _, hC1⟩ := own_C8 HO.out; have hb1 : Below w.heap.size w w1 := ((pw_below_drewN (Below.refl _ w) nq).trans (start_below (w := w.drewN nq))).grown HG.out (by simp) (fun k hk => by injection hk with hk; subst hk; exact Nat.le_refl _); have HB1 := Lib.hid hb1; have HC1 := Lib.hid hC1; clear ho hg hnil hb1 hC1; subst ev1)
    | (go_at_call 65; refine (wr_put base g v xs A1 c1 _ _ _ (HW.out.below HB1.out) HC1.out (by simp [bts_len] <;> omega) (by simp [bts_len] <;> omega) (Nat.le_trans hbase HB1.out.size)).mono ?_; rintro e w2 ⟨rfl, hex, hb2⟩; have HE := Lib.hid hex; have HB2 := Lib.hid hb2; clear hex hb2))
  go_ret
  exact ⟨rfl, HE.out, (HB1.out.mono hbase).trans HB2.out⟩

end Go.Proofs.Ytcjniogdjbplbaa

/-! Wr3 -/
namespace Go.Proofs.Ytcjniogdjbplbaa
open Mem Go.RowKit Go.Proofs.YtcjniogdjbplbaaW.PrintWords Go.Proofs.YtcjniogdjbplbaaW.PrintLast Go.Proofs.YtcjniogdjbplbaaW.PrintMore

theorem C_alloc4 (w : World) (a b c d : Int) (xs : List Int) (hx : ∃ ys, xs ++ ys = [a, b, c, d]) (t : TypeId) : U8C (w.alloc (.cells #[.int .u8 a, .int .u8 b, .int .u8 c, .int .u8 d] t)) (some ⟨w.heap.size, 0, none⟩) xs := by
  obtain ⟨ys, e⟩ := hx
  have hl : xs.length ≤ 4 := by
    have := congrArg List.length e
    simp at this; omega
  refine C_int_of_blk (heap_alloc_new _ _) (fun j x hj => ?_) (by omega)
  have h1 : ([a, b, c, d] : List Int)[j]? = some x := by
    rw [← e, List.getElem?_append_left (List.getElem?_eq_some_iff.1 hj).1]; exact hj
  match j, h1 with
  | 0, h1 => simpa using h1
  | 1, h1 => simpa using h1
  | 2, h1 => simpa using h1
  | 3, h1 => simpa using h1

set_option maxRecDepth 100000 in
set_option maxHeartbeats 4000000 in
theorem wr_number1 (base g : Nat) (v : Value) (xs : List Int) (n : Nat) (w : World) (hw : IsWr w base g v xs) (hn : n ≤ 255) (hr : xs.length + 1 ≤ 1048576) (hbase : base ≤ w.heap.size) :
    Calls Try.prog 63 #[.pointer (some ⟨g, 0, none⟩), .int .i64 n, .int .i64 0, .int .i64 255, .int .i64 1] w fun e w' => e = .returned (.int .i64 0) ∧ (∃ v', IsWr w' base g v' (xs ++ [(n : Int)])) ∧ Below base w w' := by
  have HW := Lib.hid hw
  have HN := Lib.hid hn
  have hwr : True := by trivial
  clear hw
  go_enter Try.func63, Try.ntmps63
  go_wp2_with (first
    | (go_at_call 64; refine (wr_ready g v _ HW.out.blk).mono ?_; rintro e w' ⟨rfl, rfl⟩))
  refine wp_loop_rounds 2 ?_
  rw [rounds_succ]
  go_wp2
  rw [rounds_succ]
  go_wp2_with (first
    | (go_at_call 65; refine (wr_put base g v xs (some ⟨w.heap.size, 0, none⟩) 4 1 [(n : Int)] _ (HW.out.below start_below) (C_alloc4 w ((n : Int)) (0) (0) (0) _ ⟨[0, 0, 0], rfl⟩ _) rfl (by simp <;> omega) (Nat.le_trans hbase (by simp))).mono ?_; rintro e w2 ⟨rfl, hex, hb2⟩; have HE := Lib.hid hex; have HB2 := Lib.hid hb2; clear hex hb2))
  go_ret
  exact ⟨rfl, HE.out, (start_below.mono hbase).trans HB2.out⟩

set_option maxRecDepth 100000 in
set_option maxHeartbeats 4000000 in
theorem wr_number2 (base g : Nat) (v : Value) (xs : List Int) (n : Nat) (w : World) (hw : IsWr w base g v xs) (hn : n ≤ 65535) (hr : xs.length + 2 ≤ 1048576) (hbase : base ≤ w.heap.size) :
    Calls Try.prog 63 #[.pointer (some ⟨g, 0, none⟩), .int .i64 n, .int .i64 0, .int .i64 65535, .int .i64 2] w fun e w' => e = .returned (.int .i64 0) ∧ (∃ v', IsWr w' base g v' (xs ++ [(n : Int) / 256, (n : Int) % 256])) ∧ Below base w w' := by
  have HW := Lib.hid hw
  have HN := Lib.hid hn
  have hwr : True := by trivial
  clear hw
  go_enter Try.func63, Try.ntmps63
  go_wp2_with (first
    | (go_at_call 64; refine (wr_ready g v _ HW.out.blk).mono ?_; rintro e w' ⟨rfl, rfl⟩))
  refine wp_loop_rounds 3 ?_
  rw [rounds_succ]
  go_wp2
  rw [rounds_succ]
  go_wp2
  rw [rounds_succ]
  go_wp2_with (first
    | (go_at_call 65; refine (wr_put base g v xs (some ⟨w.heap.size, 0, none⟩) 4 2 [(n : Int) / 256, (n : Int) % 256] _ (HW.out.below start_below) (C_alloc4 w ((n : Int) / 256) ((n : Int) % 256) (0) (0) _ ⟨[0, 0], rfl⟩ _) rfl (by simp <;> omega) (Nat.le_trans hbase (by simp))).mono ?_; rintro e w2 ⟨rfl, hex, hb2⟩; have HE := Lib.hid hex; have HB2 := Lib.hid hb2; clear hex hb2))
  go_ret
  exact ⟨rfl, HE.out, (start_below.mono hbase).trans HB2.out⟩

end Go.Proofs.Ytcjniogdjbplbaa

/-! Wr4 -/
namespace Go.Proofs.Ytcjniogdjbplbaa
open Mem Go.RowKit Go.Proofs.YtcjniogdjbplbaaW.PrintWords Go.Proofs.YtcjniogdjbplbaaW.PrintLast Go.Proofs.YtcjniogdjbplbaaW.PrintMore

theorem size5 : (Try.prog.info? 5).map (·.size) = some 1 := by kernel_rfl
/-- A copy's row. -/
def u8row (xs : List Int) : Array Value := (nums8 xs).toArray
theorem u8row_own (w : World) (xs : List Int) (hm : xs.length ≤ 1048576 * 4) : (w.alloc (.cells (u8row xs) 5)).ownsRow w.heap.size 5 1 (.slice (some ⟨w.heap.size, 0, none⟩) xs.length xs.length) xs.length (nums8 xs) :=
  own_row_new w w.heap.size 5 (nums8 xs) xs.length xs.length (nums8_len xs) rfl (Nat.le_refl _) (by omega)
theorem u8row_C (w : World) (xs : List Int) (hm : xs.length ≤ 9223372036854775807) : U8C (w.alloc (.cells (u8row xs) 5)) (some ⟨w.heap.size, 0, none⟩) xs :=
  C_int_of_blk (heap_alloc_new _ _) (fun j x hj => by simp [u8row, nums8, hj]) hm

theorem copy_ys {w1 : World} {A : Option Addr} {c n : Nat} {ys : List Int} (HY : ys.length = n) (HC : U8C w1 A ys) (zs : Array Value) (hz : zs.size = n) :
    (Builtin.copy_ #[23, 23] 3 #[.slice (some ⟨w1.heap.size, 0, none⟩) n n, .slice A n c]).run Try.prog (w1.alloc (.cells zs 5)) = .ok (goInt n) (w1.alloc (.cells (u8row ys) 5)) :=
  run_copy_new (P := Try.prog) w1 5 23 23 3 Try.underlying23 size5 A n c n (ys.map (Value.int .u8)) (by simp [HY]) zs hz (by rw [← HY]; exact C_int_cells HC) (one_ints _ _)

set_option maxRecDepth 100000 in
theorem wr_Put (base g : Nat) (v : Value) (xs : List Int) (A : Option Addr) (c n : Nat) (ys : List Int) (w : World) (hw : IsWr w base g v xs) (hy : U8C w A ys) (hn : Hid (n = ys.length)) (hr : xs.length + ys.length ≤ 1048576) (hbase : base ≤ w.heap.size) :
    Calls Try.prog 37 #[.pointer (some ⟨g, 0, none⟩), .slice A n c] w fun e w' => e = .returned (.int .i64 0) ∧ (∃ v', IsWr w' base g v' (xs ++ ys)) ∧ Below base w w' := by
  have HW := Lib.hid hw
  have HY := Lib.hid hy
  clear hw hy
  go_enter Try.func37, Try.ntmps37
  go_wp2_with (first
    | (go_at_call 64; refine (wr_ready g v _ HW.out.blk).mono ?_; rintro e w' ⟨rfl, rfl⟩)
    | (go_at_call 65; refine (wr_put base g v xs A c n ys _ HW.out HY.out hn.out hr hbase).mono ?_; rintro e w2 ⟨rfl, hex, hb2⟩; have HE := Lib.hid hex; have HB2 := Lib.hid hb2; clear hex hb2))
  go_ret
  exact ⟨rfl, HE.out, HB2.out⟩

theorem wr_Byte (base g : Nat) (v : Value) (xs : List Int) (n : Nat) (w : World) (hw : IsWr w base g v xs) (hn : n ≤ 255) (hr : xs.length + 1 ≤ 1048576) (hbase : base ≤ w.heap.size) :
    Calls Try.prog 60 #[.pointer (some ⟨g, 0, none⟩), .int .i64 n] w fun e w' => e = .returned (.int .i64 0) ∧ (∃ v', IsWr w' base g v' (xs ++ [(n : Int)])) ∧ Below base w w' := by
  have HW := Lib.hid hw
  clear hw
  go_enter Try.func60, Try.ntmps60
  go_wp2_with (first
    | (go_at_call 63; refine (wr_number1 base g v xs n _ HW.out hn hr hbase).mono ?_; rintro e w2 ⟨rfl, hex, hb2⟩; have HE := Lib.hid hex; have HB2 := Lib.hid hb2; clear hex hb2))
  go_ret
  exact ⟨rfl, HE.out, HB2.out⟩

set_option maxRecDepth 100000 in
theorem wr_Word (base g : Nat) (v : Value) (xs : List Int) (n : Nat) (w : World) (hw : IsWr w base g v xs) (hn : n ≤ 65535) (hr : xs.length + 2 ≤ 1048576) (hbase : base ≤ w.heap.size) :
    Calls Try.prog 36 #[.pointer (some ⟨g, 0, none⟩), .int .i64 n] w fun e w' => e = .returned (.int .i64 0) ∧ (∃ v', IsWr w' base g v' (xs ++ [(n : Int) / 256, (n : Int) % 256])) ∧ Below base w w' := by
  have HW := Lib.hid hw
  clear hw
  go_enter Try.func36, Try.ntmps36
  go_wp2_with (first
    | (go_at_call 63; refine (wr_number2 base g v xs n _ HW.out hn hr hbase).mono ?_; rintro e w2 ⟨rfl, hex, hb2⟩; have HE := Lib.hid hex; have HB2 := Lib.hid hb2; clear hex hb2))
  go_ret
  exact ⟨rfl, HE.out, HB2.out⟩

set_option maxRecDepth 100000 in
theorem wr_Bytes (base g : Nat) (v : Value) (xs : List Int) (w : World) (hw : IsWr w base g v xs) :
    Calls Try.prog 62 #[.pointer (some ⟨g, 0, none⟩)] w fun e w' => e = .returned (.slice (some ⟨w.heap.size, 0, none⟩) xs.length xs.length) ∧ w.alloc (.cells (u8row xs) 5) = w' := by
  have c0 : w.cell? ⟨g, 0, none⟩ = some v := (blk_cell hw.blk 0).trans rfl
  obtain ⟨Av, cv, ev, _, hcv, _, hC⟩ := own_C8 hw.own
  subst ev
  have hroom := hw.room
  have hmk := run_make_len (P := Try.prog) 23 5 (.int .u8 0) 1 Try.underlying23 info5 rfl xs.length (by omega) (by omega) xs.length rfl
  have hcp := copy_ys (c := cv) rfl hC (madeCells #[.int .u8 0] xs.length) (size_madeCells _ _)
  have c1 : ∀ o, (w.alloc o).cell? ⟨g, 0, none⟩ = some (.slice Av xs.length cv) := fun o => by rw [World.cell?_alloc_lt _ _ _ (blk_lt hw.blk)]; exact c0
  have HB := Lib.hid hw.blk
  clear hC hw
  generalize madeCells #[.int .u8 0] xs.length = zs at hmk hcp
  go_enter Try.func62, Try.ntmps62
  go_wp2_with (go_at_call 64; refine (wr_ready g _ _ HB.out).mono ?_; rintro e w' ⟨rfl, rfl⟩)
  go_ret
  exact ⟨rfl, rfl⟩

set_option maxRecDepth 100000 in
theorem cloned_any (A : Option Addr) (c n : Nat) (xs : List Int) (w : World) (hx : U8C w A xs) (hn : Hid (n = xs.length)) (hl : n ≤ 140737488355328) :
    Calls Try.prog 38 #[.slice A n c] w fun e w' => e = .returned (.slice (some ⟨w.heap.size, 0, none⟩) n n) ∧ w.alloc (.cells (u8row xs) 5) = w' := by
  have hmk := run_make_len (P := Try.prog) 23 5 (.int .u8 0) 1 Try.underlying23 info5 rfl n (by omega) (by omega) n rfl
  have hcp := copy_ys (c := c) (n := n) hn.out.symm hx (madeCells #[.int .u8 0] n) (size_madeCells _ _)
  clear hx
  generalize madeCells #[.int .u8 0] n = zs at hmk hcp
  go_enter Try.func38, Try.ntmps38
  go_wp2
  go_ret
  exact ⟨rfl, rfl⟩

set_option maxRecDepth 100000 in
theorem put1_any (base g : Nat) (v : Value) (xs : List Int) (q : Nat) (A : Option Addr) (c n : Nat) (ys : List Int) (w : World) (hw : IsWr w base g v xs) (hq : w.heap[q]? = some (.cells #[.slice A n c] 23 (0, 0))) (hqb : q < base) (hy : U8C w A ys) (hyb : ∀ ad, A = some ad → 0 < ys.length → ad.block < base) (hn : Hid (n = ys.length)) (h16 : n ≤ 65535) (hr : xs.length + 2 + ys.length ≤ 1048576) (hbase : base ≤ w.heap.size) :
    Calls Try.prog 35 #[.pointer (some ⟨g, 0, none⟩), .pointer (some ⟨q, 0, none⟩)] w fun e w' => e = .returned (.tuple #[]) ∧ (∃ v', IsWr w' base g v' (xs ++ ([(n : Int) / 256, (n : Int) % 256] ++ ys))) ∧ Below base w w' := by
  have c0 : w.cell? ⟨q, 0, none⟩ = some (.slice A n c) := (blk_cell hq 0).trans rfl
  have HW := Lib.hid hw
  have HY := Lib.hid hy
  have HQ := Lib.hid hq
  clear hw hy hq
  go_enter Try.func35, Try.ntmps35
  go_wp2_with (first
    | (go_at_call 36; refine (wr_Word base g v xs n _ HW.out h16 (by have := hn.out; omega) hbase).mono ?_; rintro e w2 ⟨rfl, ⟨v2, hex⟩, hb2⟩; have d0 : w2.cell? ⟨q, 0, none⟩ = some (.slice A n c) := (blk_cell ((hb2.block q hqb).trans HQ.out) 0).trans rfl; have hyy : U8C w2 A ys := C8_blk HY.out (fun ad e h => hb2.block _ (hyb ad e h)); have HY2 := Lib.hid hyy; have HE := Lib.hid hex; have HB2 := Lib.hid hb2; clear hex hb2 hyy)
    | (go_at_call 37; refine (wr_Put base g v2 _ A c n ys _ HE.out HY2.out hn (by simp <;> omega) (Nat.le_trans hbase HB2.out.size)).mono ?_; rintro e w3 ⟨rfl, hex3, hb3⟩; have HE3 := Lib.hid hex3; have HB3 := Lib.hid hb3; clear hex3 hb3))
  go_end0
  exact ⟨rfl, by simpa using HE3.out, HB2.out.trans HB3.out⟩

theorem drop1_any (p : Value) (w : World) : Calls Try.prog 66 #[p] w fun e w' => e = .returned (.tuple #[]) ∧ w = w' := by
  go_enter Try.func66, Try.ntmps66
  go_wp2
  go_end0
  exact ⟨rfl, rfl⟩

end Go.Proofs.Ytcjniogdjbplbaa

/-! StMap -/
namespace Go.Proofs.Ytcjniogdjbplbaa
open Mem Go.RowKit Go.Proofs.YtcjniogdjbplbaaW.PrintWords Go.Proofs.YtcjniogdjbplbaaW.PrintLast Go.Proofs.YtcjniogdjbplbaaW.PrintMore PStorePlays Go.Maps Go.ChangeMaps Go.MapKept Go.WideShapes

/-- How an element is told: by itself. -/
def RV (v : Value) : Option (DataW Value × List MemPlace) := some (.held v, [])
def skey (s : ByteArray) : Lit := .string s.data.toList
theorem skey_inj {a b : ByteArray} (h : skey a = skey b) : a = b := by
  unfold skey at h
  injection h with h
  exact nm_inj h
theorem skey_is (s : ByteArray) : WideAt.IsKeyLit (skey s) := trivial

/-- A value's header, and what it reads as, in blocks of ok. -/
def Val8 (w : World) (ok : Nat → Prop) (v : Value) (xs : List Int) : Prop := ∃ A c, v = .slice A xs.length c ∧ xs.length ≤ c ∧ Kd.F (Kd.int .u8) w ok A xs.length xs
theorem Val8.step {w w' : World} {ok : Nat → Prop} {v : Value} {xs : List Int} (h : Val8 w ok v xs) (hk : ∀ k, ok k → k < w.heap.size → w'.heap[k]? = w.heap[k]?) : Val8 w' ok v xs := by
  obtain ⟨A, c, h1, h2, h3⟩ := h
  exact ⟨A, c, h1, h2, Kd.F_step h3 hk⟩
theorem Val8.mono {w : World} {ok ok' : Nat → Prop} {v : Value} {xs : List Int} (h : Val8 w ok v xs) (hk : ∀ k, ok k → k < w.heap.size → ok' k) : Val8 w ok' v xs := by
  obtain ⟨A, c, h1, h2, h3⟩ := h
  exact ⟨A, c, h1, h2, Kd.F_mono (Kd.F_bound h3) (fun k hk' => hk k hk'.1 hk'.2)⟩

/-- What the map tells of a name. -/
def Told (w : World) (ok : Nat → Prop) (D : DataW Value) (l : List S99) (s : ByteArray) : Prop :=
  (Maps.has D (skey s) = (look l s).isSome) ∧ ∀ xs, look l s = some xs → ∃ v, (∀ zd, D.atKey (skey s) zd = .held v) ∧ Val8 w ok v xs

def MapIs (w : World) (M : Nat) (ok : Nat → Prop) (l : List S99) : Prop :=
  ∃ D, w.ownsMap Try.prog 9 RV M (Maps.size D) D ∧ Maps.size D = l.length ∧ ∀ s, Told w ok D l s

theorem owns_tight {w : World} {b n : Nat} {D : DataW Value} (h : w.ownsMap Try.prog 9 RV b n D) : w.ownsMap Try.prog 9 RV b (Maps.size D) D := by
  obtain ⟨es, clock, h1, h2, h3, rfl⟩ := h
  exact ⟨es, clock, h1, h2, by simp [Maps.size, length_sorted], rfl⟩

theorem MapIs.step {w w' : World} {M : Nat} {ok : Nat → Prop} {l : List S99} (h : MapIs w M ok l) (hM : w'.heap[M]? = w.heap[M]?) (hk : ∀ k, ok k → k < w.heap.size → w'.heap[k]? = w.heap[k]?) : MapIs w' M ok l := by
  obtain ⟨D, ⟨es, clock, h1, h2, h3, h4⟩, h5, h6⟩ := h
  refine ⟨D, ⟨es, clock, hM.trans h1, h2, h3, h4⟩, h5, fun s => ⟨(h6 s).1, fun xs hx => ?_⟩⟩
  obtain ⟨v, hv, hr⟩ := (h6 s).2 xs hx
  exact ⟨v, hv, hr.step hk⟩
theorem MapIs.mono {w : World} {M : Nat} {ok ok' : Nat → Prop} {l : List S99} (h : MapIs w M ok l) (hk : ∀ k, ok k → k < w.heap.size → ok' k) : MapIs w M ok' l := by
  obtain ⟨D, h1, h5, h6⟩ := h
  refine ⟨D, h1, h5, fun s => ⟨(h6 s).1, fun xs hx => ?_⟩⟩
  obtain ⟨v, hv, hr⟩ := (h6 s).2 xs hx
  exact ⟨v, hv, hr.mono hk⟩
theorem MapIs.lt {w : World} {M : Nat} {ok : Nat → Prop} {l : List S99} (h : MapIs w M ok l) : M < w.heap.size := by
  obtain ⟨D, h1, _⟩ := h
  exact h1.lt

theorem MapIs.made (w : World) (ok : Nat → Prop) : MapIs (w.alloc (.map #[] 0)) w.heap.size ok [] :=
  ⟨.map [], World.ownsMap_made w Try.prog 9 RV, rfl, fun s => ⟨rfl, fun xs h => by simp [look, plc] at h⟩⟩

theorem key_of (s : ByteArray) (hs : s.size ≤ maxLen) : keyOf Try.prog 9 (.string s) = some (skey s) := Go.WideMaps.keyOf_string_mk Try.underlying9 hs
theorem zero23 (w : World) : (zeroValue 23).run Try.prog w = .ok (.slice none 0 0) w := by kernel_rfl

/-- What a lookup gives. -/
def Got (w : World) (ok : Nat → Prop) (l : List S99) (s : ByteArray) (v : Value) : Prop := (look l s = none → v = .slice none 0 0) ∧ ∀ xs, look l s = some xs → Val8 w ok v xs

set_option maxRecDepth 100000 in
theorem MapIs.lookup {w : World} {M : Nat} {ok : Nat → Prop} {l : List S99} (h : MapIs w M ok l) (s : ByteArray) (hs : s.size ≤ maxLen) :
    ∃ v, (Instr.lookup 75 (.map (some M)) (.string s) true).run Try.prog w = .ok (.tuple #[v, .bool (plc l s).2]) w ∧ Got w ok l s v := by
  obtain ⟨D, h1, h5, h6⟩ := h
  obtain ⟨v, ps, hrun, hv⟩ := h1.look_ok (t := 75) (e := 23) (string_keyed Try.underlying9) Try.underlying75 (zero23 w) (show RV (.slice none 0 0) = some (.held (.slice none 0 0), []) from rfl) (key_of s hs)
  have hv' : (DataW.held v : DataW Value) = D.atKey (skey s) (.held (.slice none 0 0)) := by
    unfold RV at hv
    injection hv with hv
    injection hv
  refine ⟨v, by rw [hrun, (h6 s).1, look_some], fun hn => ?_, fun xs hx => ?_⟩
  · have h7 := (h6 s).1
    rw [hn] at h7
    rw [atKey_of_not_has h7] at hv'
    injection hv'
  · obtain ⟨u, hu, hr⟩ := (h6 s).2 xs hx
    rw [hu] at hv'
    injection hv' with hv'
    rw [hv']; exact hr

theorem MapIs.len {w : World} {M : Nat} {ok : Nat → Prop} {l : List S99} (h : MapIs w M ok l) (ty : TypeId) : (Builtin.len_ #[75] ty #[.map (some M)]).run Try.prog w = .ok (.int .i64 l.length) w := by
  obtain ⟨D, h1, h5, h6⟩ := h
  rw [h1.len Try.underlying75, h5]

theorem turned_chg {w w' : World} {M : Nat} {S : Nat → Prop} (h : w.mapTurned w' M) (hS : S M) : Chg S w w' := Chg.of_grown h.grown (fun k e => by injection e with e; subst e; exact hS)

set_option maxRecDepth 100000 in
theorem MapIs.store {w : World} {M : Nat} {ok : Nat → Prop} {l : List S99} (h : MapIs w M ok l) (hl : Rising l) (h17 : l.length ≤ 1000) (hM : ¬ ok M) (s : ByteArray) (hs : s.size ≤ maxLen) (v : Value) (b : List Int) (hv : Val8 w ok v b) :
    ∃ w', (Instr.mapUpdate 75 (.map (some M)) (.string s) v).run Try.prog w = .ok () w' ∧ MapIs w' M ok (ins l s b) ∧ w.mapTurned w' M := by
  obtain ⟨D, h1, h5, h6⟩ := h
  obtain ⟨w', hrun, hown, hturn⟩ := h1.store (t := 75) (e := 23) (val := v) (d := .held v) (ps := []) (string_keyed Try.underlying9) Try.underlying75 (by rw [h5]; unfold maxLen; omega) (key_of s hs) rfl
  have hk : ∀ k, ok k → k < w.heap.size → w'.heap[k]? = w.heap[k]? := fun k ho hlt => hturn.grown.block k hlt (fun e => by injection e with e; subst e; exact hM ho)
  have ht := h1.tidy (string_keyed Try.underlying9)
  refine ⟨w', hrun, ⟨_, owns_tight hown, ?_, fun s' => ⟨?_, fun xs hx => ?_⟩⟩, hturn⟩
  · rw [size_put ht, ins_len', (h6 s).1, look_some, h5]
  · by_cases e : s' = s
    · subst e
      rw [has_put_same ht.isMap (skey_is _), look_ins hl, if_pos rfl]; rfl
    · rw [has_put_other (fun e' => e (skey_inj e')), (h6 s').1, look_ins hl, if_neg e]
  · rw [look_ins hl] at hx
    by_cases e : s' = s
    · subst e
      rw [if_pos rfl] at hx
      injection hx with hx
      subst hx
      exact ⟨v, fun zd => atKey_put_same ht.isMap (skey_is _) _ _, hv.step hk⟩
    · rw [if_neg e] at hx
      obtain ⟨u, hu, hr⟩ := (h6 s').2 xs hx
      exact ⟨u, fun zd => by rw [atKey_put_other (fun e' => e (skey_inj e'))]; exact hu zd, hr.step hk⟩

set_option maxRecDepth 100000 in
theorem MapIs.drop {w : World} {M : Nat} {ok : Nat → Prop} {l : List S99} (h : MapIs w M ok l) (hl : Rising l) (hM : ¬ ok M) (s : ByteArray) (hs : s.size ≤ maxLen) (hin : (plc l s).2 = true) (ty : TypeId) :
    ∃ w', (Builtin.delete_ #[75, 9] ty #[.map (some M), .string s]).run Try.prog w = .ok (.tuple #[]) w' ∧ MapIs w' M ok (rem l s) ∧ w.mapTurned w' M := by
  obtain ⟨D, h1, h5, h6⟩ := h
  obtain ⟨w', hrun, hown, hturn⟩ := h1.drop (t := 75) (e := 23) (string_keyed Try.underlying9) Try.underlying75 (key_of s hs) ty
  have hk : ∀ k, ok k → k < w.heap.size → w'.heap[k]? = w.heap[k]? := fun k ho hlt => hturn.grown.block k hlt (fun e => by injection e with e; subst e; exact hM ho)
  have ht := h1.tidy (string_keyed Try.underlying9)
  refine ⟨w', hrun, ⟨_, owns_tight hown, ?_, fun s' => ⟨?_, fun xs hx => ?_⟩⟩, hturn⟩
  · have := size_del (k := skey s) ht
    rw [(h6 s).1, look_some, hin, if_pos rfl] at this
    rw [rem_len', hin, if_pos rfl]
    omega
  · by_cases e : s' = s
    · subst e
      rw [has_del_same, look_rem hl, if_pos rfl]; rfl
    · rw [has_del_other (fun e' => e (skey_inj e')), (h6 s').1, look_rem hl, if_neg e]
  · rw [look_rem hl] at hx
    by_cases e : s' = s
    · rw [if_pos e] at hx; cases hx
    · rw [if_neg e] at hx
      obtain ⟨u, hu, hr⟩ := (h6 s').2 xs hx
      exact ⟨u, fun zd => by rw [atKey_del_other (fun e' => e (skey_inj e'))]; exact hu zd, hr.step hk⟩

end Go.Proofs.Ytcjniogdjbplbaa

/-! St1 -/
namespace Go.Proofs.Ytcjniogdjbplbaa
open Mem Go.RowKit Go.Proofs.YtcjniogdjbplbaaW.PrintWords Go.Proofs.YtcjniogdjbplbaaW.PrintLast Go.Proofs.YtcjniogdjbplbaaW.PrintMore PStorePlays
variable {X : Nat → Prop}

/-- The blocks that are none of a store's own. -/
def Rest (g M : Nat) (vi : Value) (k : Nat) : Prop := k ≠ g ∧ k ≠ M ∧ vi.ownBlock ≠ some k

/-- .. and none of X. -/
def RX (X : Nat → Prop) (g M : Nat) (vi : Value) (k : Nat) : Prop := Rest g M vi k ∧ ¬ X k
theorem size_of_keep {w w' : World} (hb : ∀ k, k < w.heap.size → w'.heap[k]? = w.heap[k]?) : w.heap.size ≤ w'.heap.size := by
  rcases Nat.eq_zero_or_pos w.heap.size with h | h
  · omega
  · have h1 := hb (w.heap.size - 1) (by omega)
    rw [Array.getElem?_eq_getElem (show w.heap.size - 1 < w.heap.size by omega)] at h1
    have := (Array.getElem?_eq_some_iff.1 h1).1
    omega

structure StAt (X : Nat → Prop) (w : World) (g M : Nat) (vi : Value) (img : List Int) (l : List S99) : Prop where
  blk : w.heap[g]? = some (.cells #[vi, .map (some M), .bool true] 77 (0, 0))
  own : w.ownsRow 0 5 1 vi img.length (nums8 img)
  map : MapIs w M (RX X g M vi) l
  rise : Rising l
  room : img.length ≤ 1048576
  few : l.length ≤ 16
  small : ∀ x ∈ l, x.f1.length ≤ 4096 ∧ isNameB x.f0 = true
  low : ∀ k, X k → k < w.heap.size

theorem MapIs.ne {w : World} {g M : Nat} {ok : Nat → Prop} {l : List S99} {cells : Array Value} {t : TypeId} {fr : Nat × Nat} (h : MapIs w M ok l) (hb : w.heap[g]? = some (.cells cells t fr)) : g ≠ M := by
  obtain ⟨D, ⟨es, clock, h1, _⟩, _⟩ := h
  intro e
  subst e
  rw [hb] at h1
  injection h1 with h1
  cases h1

theorem StAt.step {w w' : World} {g M : Nat} {vi : Value} {img : List Int} {l : List S99} (h : StAt X w g M vi img l) (hb : Below w.heap.size w w') : StAt X w' g M vi img l :=
  ⟨(hb.block g (blk_lt h.blk)).trans h.blk, own_step h.own (fun k hk => hb.block k (own_low h.own k hk).2), h.map.step (hb.block M h.map.lt) (fun k _ hlt => hb.block k hlt), h.rise, h.room, h.few, h.small, fun k hk => Nat.lt_of_lt_of_le (h.low k hk) hb.size⟩
theorem StAt.keep {w w' : World} {g M : Nat} {vi : Value} {img : List Int} {l : List S99} (h : StAt X w g M vi img l) (hb : ∀ k, k < w.heap.size → w'.heap[k]? = w.heap[k]?) : StAt X w' g M vi img l :=
  ⟨(hb g (blk_lt h.blk)).trans h.blk, own_step h.own (fun k hk => hb k (own_low h.own k hk).2), h.map.step (hb M h.map.lt) (fun k _ hlt => hb k hlt), h.rise, h.room, h.few, h.small, fun k hk => Nat.lt_of_lt_of_le (h.low k hk) (size_of_keep hb)⟩

theorem st_ready (g : Nat) (u v : Value) (w : World) (hb : w.heap[g]? = some (.cells #[u, v, .bool true] 77 (0, 0))) :
    Calls Try.prog 32 #[.pointer (some ⟨g, 0, none⟩)] w fun e w' => e = .returned (.bool true) ∧ w = w' := by
  have c2 : w.cell? ⟨g, 2, none⟩ = some (.bool true) := (blk_cell hb 2).trans rfl
  go_enter Try.func32, Try.ntmps32
  go_wp2
  go_ret
  exact ⟨rfl, rfl⟩

theorem st_new (w : World) : Calls Try.prog 9 #[] w fun e w' => e = .returned (.pointer (some ⟨w.heap.size + 1, 0, none⟩)) ∧ StAt (fun _ => False) w' (w.heap.size + 1) w.heap.size (.slice none 0 0) [] [] ∧ Below w.heap.size w w' := by
  have hmk := fun W : World => run_makeMap (P := Try.prog) 75 W
  go_enter Try.func9, Try.ntmps9
  go_wp2
  go_ret
  refine ⟨rfl, ⟨?_, ⟨rfl, .inl ⟨rfl, rfl⟩⟩, ?_, List.Pairwise.nil, by simp, by simp, by simp, fun k h => h.elim⟩, ?_⟩
  · have := heap_alloc_new (w.alloc (.map #[] 0)) (.cells #[.slice none 0 0, .map (some w.heap.size), .bool true] 77)
    simpa using this
  · refine (MapIs.made w _).step (Below.heap_alloc _ _ _ (by simp)) (fun k _ hlt => Below.heap_alloc _ _ _ hlt)
  · exact ((Below.refl _ w).alloc (Nat.le_refl _) _).alloc (by simp) _

theorem get_name (g M : Nat) (vi : Value) (img : List Int) (l : List S99) (s : ByteArray) (w : World) (h : StAt X w g M vi img l) (hs : isNameB s = false) (hm : s.size ≤ maxLen) :
    Calls Try.prog 46 #[.pointer (some ⟨g, 0, none⟩), .string s] w fun e w' => e = .returned (.tuple #[.slice none 0 0, .int .i64 6]) ∧ Drawn0 w w' := by
  obtain ⟨v, hrun, hg⟩ := h.map.lookup s hm
  have hcall := fun W : World => wire_isName_calls s W
  rw [hs] at hcall
  have c1 : w.cell? ⟨g, 1, none⟩ = some (.map (some M)) := (blk_cell h.blk 1).trans rfl
  have HB := Lib.hid h.blk
  clear h hg hm
  go_enter Try.func46, Try.ntmps46
  go_wp2_with (first | (go_at_call 32; refine (st_ready g _ _ _ HB.out).mono ?_; rintro e w' ⟨rfl, rfl⟩) | (go_at_call 33; refine (hcall _).mono ?_; rintro e w' ⟨rfl, ⟨nq, rfl⟩⟩))
  go_ret2
  exact ⟨rfl, ⟨⟨_, rfl⟩⟩⟩
theorem get_key (g M : Nat) (vi : Value) (img : List Int) (l : List S99) (s : ByteArray) (w : World) (h : StAt X w g M vi img l) (hs : isNameB s = true) (hm : s.size ≤ maxLen) (ht : (plc l s).2 = false) :
    Calls Try.prog 46 #[.pointer (some ⟨g, 0, none⟩), .string s] w fun e w' => e = .returned (.tuple #[.slice none 0 0, .int .i64 211]) ∧ Drawn0 w w' := by
  obtain ⟨v, hrun, hg⟩ := h.map.lookup s hm
  rw [ht] at hrun
  have hcall := fun W : World => wire_isName_calls s W
  rw [hs] at hcall
  have c1 : w.cell? ⟨g, 1, none⟩ = some (.map (some M)) := (blk_cell h.blk 1).trans rfl
  have HB := Lib.hid h.blk
  clear h hg hm
  go_enter Try.func46, Try.ntmps46
  go_wp2_with (first | (go_at_call 32; refine (st_ready g _ _ _ HB.out).mono ?_; rintro e w' ⟨rfl, rfl⟩) | (go_at_call 33; refine (hcall _).mono ?_; rintro e w' ⟨rfl, ⟨nq, rfl⟩⟩))
  go_ret2
  exact ⟨rfl, ⟨⟨_, rfl⟩⟩⟩
theorem get_ok (g M : Nat) (vi : Value) (img : List Int) (l : List S99) (s : ByteArray) (xs : List Int) (w : World) (h : StAt X w g M vi img l) (hs : isNameB s = true) (hm : s.size ≤ maxLen) (hx : look l s = some xs) :
    Calls Try.prog 46 #[.pointer (some ⟨g, 0, none⟩), .string s] w fun e w' => (∃ v, e = .returned (.tuple #[v, .int .i64 0]) ∧ Val8 w (Rest g M vi) v xs) ∧ Drawn0 w w' := by
  obtain ⟨v, hrun, hg⟩ := h.map.lookup s hm
  rw [← look_some, hx] at hrun
  have HV := Lib.hid ((hg.2 xs hx).mono (ok' := Rest g M vi) (fun k h _ => h.1))
  obtain ⟨A, c, ev, hc, hF⟩ := hg.2 xs hx
  have hcall := fun W : World => wire_isName_calls s W
  rw [hs] at hcall
  have c1 : w.cell? ⟨g, 1, none⟩ = some (.map (some M)) := (blk_cell h.blk 1).trans rfl
  have HB := Lib.hid h.blk
  subst ev
  clear h hg hm hF hc hx
  go_enter Try.func46, Try.ntmps46
  go_wp2_with (first | (go_at_call 32; refine (st_ready g _ _ _ HB.out).mono ?_; rintro e w' ⟨rfl, rfl⟩) | (go_at_call 33; refine (hcall _).mono ?_; rintro e w' ⟨rfl, ⟨nq, rfl⟩⟩))
  go_ret2
  exact ⟨⟨_, rfl, HV.out⟩, ⟨⟨_, rfl⟩⟩⟩

/-- The error of a get. -/
def getE (l : List S99) (s : ByteArray) : Int := if isNameB s = false then 6 else if (plc l s).2 = false then 211 else 0
theorem Get_bad (g M : Nat) (vi : Value) (img : List Int) (l : List S99) (s : ByteArray) (w : World) (h : StAt X w g M vi img l) (hm : s.size ≤ maxLen) (he : getE l s ≠ 0) :
    Calls Try.prog 14 #[.pointer (some ⟨g, 0, none⟩), .string s] w fun e w' => e = .returned (.tuple #[.slice none 0 0, .int .i64 (getE l s)]) ∧ Drawn0 w w' := by
  have HH := Lib.hid h
  have HM := Lib.hid hm
  clear h hm
  unfold getE at *
  by_cases hs : isNameB s = false
  · rw [if_pos hs]
    clear he
    go_enter Try.func14, Try.ntmps14
    go_wp2_with (first | (go_at_call 46; refine (get_name g M vi img l s _ HH.out hs HM.out).mono ?_; rintro e w' ⟨rfl, ⟨nq, rfl⟩⟩))
    go_ret2
    exact ⟨rfl, ⟨⟨_, rfl⟩⟩⟩
  · have hs' : isNameB s = true := by simpa using hs
    rw [if_neg hs] at he ⊢
    by_cases ht : (plc l s).2 = false
    · rw [if_pos ht]
      clear he
      go_enter Try.func14, Try.ntmps14
      go_wp2_with (first | (go_at_call 46; refine (get_key g M vi img l s _ HH.out hs' HM.out ht).mono ?_; rintro e w' ⟨rfl, ⟨nq, rfl⟩⟩))
      go_ret2
      exact ⟨rfl, ⟨⟨_, rfl⟩⟩⟩
    · rw [if_neg ht] at he
      exact absurd rfl he
theorem Get_ok (g M : Nat) (vi : Value) (img : List Int) (l : List S99) (s : ByteArray) (xs : List Int) (w : World) (h : StAt X w g M vi img l) (hs : isNameB s = true) (hm : s.size ≤ maxLen) (hx : look l s = some xs) (h40 : xs.length ≤ 140737488355328) :
    Calls Try.prog 14 #[.pointer (some ⟨g, 0, none⟩), .string s] w fun e w' => (∃ b, e = .returned (.tuple #[.slice (some ⟨b, 0, none⟩) xs.length xs.length, .int .i64 0]) ∧ w.heap.size = b ∧ w'.heap[b]? = some (.cells (u8row xs) 5 (0, 0))) ∧ Below w.heap.size w w' := by
  have HH := Lib.hid h
  clear h
  go_enter Try.func14, Try.ntmps14
  go_wp2_with (first
    | (go_at_call 46; refine (get_ok g M vi img l s xs _ HH.out hs hm hx).mono ?_; rintro e w' ⟨⟨v, rfl, ⟨A, c, ev, hc, hF⟩⟩, ⟨nq, rfl⟩⟩; subst ev; have HF := Lib.hid hF; clear hF hc)
    | (go_at_call 38; refine (cloned_any A c xs.length xs _ (Kd.C_drewN (Kd.F_now HF.out) _) (Lib.hid rfl) h40).mono ?_; rintro e w' ⟨rfl, rfl⟩))
  go_ret2
  exact ⟨⟨_, rfl, rfl, heap_alloc_new _ _⟩, by (repeat (first | exact Below.refl _ _ | refine pw_below_drewN ?_ _ | refine Below.drew ?_ | refine Below.alloc ?_ (by first | rfl | omega | (simp; done) | (simp; omega)) _ | refine Below.setCell ?_ (by first | rfl | omega | (simp; done) | (simp; omega)) _))⟩

end Go.Proofs.Ytcjniogdjbplbaa

/-! Rf1 -/
namespace Go.Proofs.Ytcjniogdjbplbaa
open Mem Go.RowKit Go.Proofs.YtcjniogdjbplbaaW.PrintWords Go.Proofs.YtcjniogdjbplbaaW.PrintLast Go.Proofs.YtcjniogdjbplbaaW.PrintMore PStorePlays

/-- A record's bytes. -/
def recB (kind : Int) (n : ByteArray) (b : List Int) : List Int := ([kind, (n.size : Int)] ++ bts n) ++ (if kind = 1 then [(b.length : Int) / 256, (b.length : Int) % 256] ++ b else [])
theorem recB_len (kind : Int) (n : ByteArray) (b : List Int) : (recB kind n b).length = if kind = 1 then 4 + n.size + b.length else 2 + n.size := by
  unfold recB
  split <;> simp [bts_len] <;> omega

theorem conv_below (W : World) (s : ByteArray) : Below W.heap.size W (Lib.bytesWorld W 5 s) :=
  ⟨rfl, rfl, rfl, by rw [Lib.bytesWorld_size]; omega, fun k hk => Lib.bytesWorld_at_old W 5 s k hk⟩
theorem conv_C (W : World) (s : ByteArray) (hs : s.size ≤ 9223372036854775807) : U8C (Lib.bytesWorld W 5 s) (some ⟨W.heap.size, 0, none⟩) (bts s) := by
  refine C_int_of_blk (Lib.bytesWorld_at_new W 5 s) (fun j x hj => ?_) (by rw [bts_len]; exact hs)
  have hlt : j < s.size := by
    have := (List.getElem?_eq_some_iff.1 hj).1
    rwa [bts_len] at this
  have hlt' : j < s.data.size := hlt
  unfold bts at hj
  simp only [List.getElem?_map, Array.getElem?_toList] at hj
  simp only [Lib.bytesCells]
  rw [Array.getElem?_append_left (by simpa using hlt')]
  rw [Array.getElem?_map]
  cases hd : s.data[j]? with
  | none => simp [hd] at hj
  | some y => simp [hd] at hj; simp [hj]
theorem run_conv (s : ByteArray) (W : World) : (convert 9 23 (.string s)).run Try.prog W = .ok (.slice (some ⟨W.heap.size, 0, none⟩) s.size (grownCap W s.size 0 5)) (Lib.bytesWorld W 5 s) :=
  Lib.run_convert_string_bytes W 9 23 5 s Try.underlying9 Try.underlying23 Try.underlying5

theorem C_alloc2 (w : World) (a b : Int) : U8C (w.alloc (.cells #[.int .u8 a, .int .u8 b] 5)) (some ⟨w.heap.size, 0, none⟩) [a, b] := by
  refine C_int_of_blk (heap_alloc_new _ _) (fun j x hj => ?_) (by simp)
  match j, hj with
  | 0, h1 => simpa using h1
  | 1, h1 => simpa using h1
theorem C_alloc1 (w : World) (a : Int) : U8C (w.alloc (.cells #[.int .u8 a] 5)) (some ⟨w.heap.size, 0, none⟩) [a] := by
  refine C_int_of_blk (heap_alloc_new _ _) (fun j x hj => ?_) (by simp)
  match j, hj with
  | 0, h1 => simpa using h1

set_option maxRecDepth 100000 in
set_option maxHeartbeats 2000000 in
theorem ref_record2 (s : ByteArray) (p : Value) (w : World) (h24 : s.size ≤ 24) :
    Calls Try.prog 43 #[.int .u8 2, .string s, p] w fun e w' => (∃ v, e = .returned v ∧ w'.ownsRow w.heap.size 5 1 v (recB 2 s []).length (nums8 (recB 2 s []))) ∧ Below w.heap.size w w' := by
  have hwr : IntKind.u8.wrap (s.size : Int) = s.size := by simp [IntKind.wrap, IntKind.bits, IntKind.signed]; omega
  have hcv := run_conv s
  have HCB := fun W : World => Lib.hid (conv_below W s)
  have HC1 := Lib.hid (show U8C (Lib.bytesWorld (w.alloc (.cells #[.int .u8 2, .int .u8 s.size] 5)) 5 s) (some ⟨w.heap.size + 1, 0, none⟩) (bts s) by have h := conv_C (w.alloc (.cells #[.int .u8 2, .int .u8 s.size] 5)) s (by omega); rwa [show (w.alloc (.cells #[.int .u8 2, .int .u8 s.size] 5)).heap.size = w.heap.size + 1 by simp] at h)
  go_enter Try.func43, Try.ntmps43
  go_wp2_with (first
    | (at_builtin; refine wpList_append_u8 rfl (.tmp 12) (.tmp 14) 23 rfl w.heap.size 5 Try.underlying23 info5 _ 2 [2, (s.size : Int)] rfl (own_step (own_row_new w w.heap.size 5 (nums8 [2, (s.size : Int)]) 2 2 rfl rfl (Nat.le_refl _) (by decide)) (fun k hk => (HCB _).out.block k (by injection hk with hk; subst hk; simp))) _ _ _ (bts s) rfl (bts_len s).symm HC1.out (by rw [bts_len]; omega) (by have := (HCB (w.alloc (.cells #[.int .u8 2, .int .u8 s.size] 5))).out.size; simp at this; omega) ?_; intro v1 w1 ho hg hat; have HO := Lib.hid ho; have HG := Lib.hid hg; clear ho hg hat))
  go_ret
  have hb1 : Below w.heap.size w (Lib.bytesWorld (w.alloc (.cells #[.int .u8 2, .int .u8 s.size] 5)) 5 s) := start_below.trans ((HCB _).out.mono (by simp))
  refine ⟨⟨_, rfl, ?_⟩, hb1.grown HG.out hb1.size (fun k hk => by injection hk with hk; subst hk; exact Nat.le_refl _)⟩
  have := HO.out
  rw [show (2 + (bts s).length) = (recB 2 s []).length by rw [recB_len, bts_len]; rfl] at this
  simpa [recB] using this

set_option maxRecDepth 100000 in
set_option maxHeartbeats 2000000 in
theorem ref_record1 (s : ByteArray) (A : Option Addr) (c n : Nat) (b : List Int) (w : World) (h24 : s.size ≤ 24) (hb : U8C w A b) (hn : Hid (n = b.length)) (h12 : n ≤ 4096) :
    Calls Try.prog 43 #[.int .u8 1, .string s, .slice A n c] w fun e w' => (∃ v, e = .returned v ∧ w'.ownsRow w.heap.size 5 1 v (recB 1 s b).length (nums8 (recB 1 s b))) ∧ Below w.heap.size w w' := by
  have hwr : IntKind.u8.wrap (s.size : Int) = s.size := by simp [IntKind.wrap, IntKind.bits, IntKind.signed]; omega
  have hcv := run_conv s
  have HCB := fun W : World => Lib.hid (conv_below W s)
  have HC1 := Lib.hid (show U8C (Lib.bytesWorld (w.alloc (.cells #[.int .u8 1, .int .u8 s.size] 5)) 5 s) (some ⟨w.heap.size + 1, 0, none⟩) (bts s) by have h := conv_C (w.alloc (.cells #[.int .u8 1, .int .u8 s.size] 5)) s (by omega); rwa [show (w.alloc (.cells #[.int .u8 1, .int .u8 s.size] 5)).heap.size = w.heap.size + 1 by simp] at h)
  have HBB := Lib.hid hb
  clear hb
  go_enter Try.func43, Try.ntmps43
  go_wp2_with (first
    | (at_builtin; refine wpList_append_u8 rfl (.tmp 12) (.tmp 14) 23 rfl w.heap.size 5 Try.underlying23 info5 _ 2 [1, (s.size : Int)] rfl (own_step (own_row_new w w.heap.size 5 (nums8 [1, (s.size : Int)]) 2 2 rfl rfl (Nat.le_refl _) (by decide)) (fun k hk => (HCB _).out.block k (by injection hk with hk; subst hk; simp))) _ _ _ (bts s) rfl (bts_len s).symm HC1.out (by rw [bts_len]; omega) (by have := (HCB (w.alloc (.cells #[.int .u8 1, .int .u8 s.size] 5))).out.size; simp at this; omega) ?_; intro v1 w1 ho hg hat; have HG := Lib.hid ((start_below.trans ((HCB (w.alloc (.cells #[.int .u8 1, .int .u8 s.size] 5))).out.mono (by simp))).grown hg (start_below.trans ((HCB (w.alloc (.cells #[.int .u8 1, .int .u8 s.size] 5))).out.mono (by simp))).size (fun k hk => by injection hk with hk; subst hk; exact Nat.le_refl _)); obtain ⟨A1, c1, ev1, hc1, _⟩ := own_form ho; subst ev1; have HO := Lib.hid ho; clear ho hg hat)
    | (at_builtin; refine wpList_append_u8 rfl (.tmp 18) (.tmp 26) 23 rfl w.heap.size 5 Try.underlying23 info5 _ _ _ rfl (own_step HO.out (fun k hk => Below.heap_alloc _ _ _ (own_low HO.out k hk).2)) _ _ _ [(n : Int) / 256, (n : Int) % 256] rfl rfl (C_alloc2 w1 _ _) (by simp [bts_len]; omega) (by have := HG.out.size; simp; omega) ?_; intro v2 w2 ho hg hat; have HG2 := Lib.hid ((HG.out.alloc HG.out.size _).grown hg (by have := HG.out.size; simp; omega) (fun k hk => (own_low HO.out k hk).1)); obtain ⟨A2, c2, ev2, hc2, _⟩ := own_form ho; subst ev2; have HO2 := Lib.hid ho; clear ho hg hat)
    | (at_builtin; refine wpList_append_u8 rfl (.tmp 28) (.tmp 29) 23 rfl w.heap.size 5 Try.underlying23 info5 _ _ _ rfl HO2.out A c n b rfl hn.out (Kd.C_below HBB.out HG2.out) (by have := hn.out; simp [bts_len]; omega) HG2.out.size ?_; intro v3 w3 ho hg hat; have HG3 := Lib.hid (HG2.out.grown hg HG2.out.size (fun k hk => (own_low HO2.out k hk).1)); have HO3 := Lib.hid ho; clear ho hg hat))
  go_ret
  refine ⟨⟨_, rfl, ?_⟩, HG3.out⟩
  have := HO3.out
  have hnn := hn.out
  subst hnn
  rw [show (2 + (bts s).length + [(b.length : Int) / 256, (b.length : Int) % 256].length + b.length) = (recB 1 s b).length by rw [recB_len, bts_len]; simp; omega] at this
  simpa [recB] using this

end Go.Proofs.Ytcjniogdjbplbaa

/-! Rf2 -/
namespace Go.Proofs.Ytcjniogdjbplbaa
open Mem Go.RowKit Go.Proofs.YtcjniogdjbplbaaW.PrintWords Go.Proofs.YtcjniogdjbplbaaW.PrintLast Go.Proofs.YtcjniogdjbplbaaW.PrintMore PStorePlays

/-- Two writes at one place, in rows of their own. -/
def Wr2 (w : World) (base : Nat) (v : Value) (at_ : Int) (xs ys : List Int) : Prop :=
  ∃ L s1 s2, v = .slice (some ⟨L, 0, none⟩) 2 2 ∧ base ≤ L ∧ w.heap[L]? = some (.cells #[.int .i64 at_, s1, .int .i64 at_, s2] 52 (0, 0)) ∧
    w.ownsRow base 5 1 s1 xs.length (nums8 xs) ∧ w.ownsRow base 5 1 s2 ys.length (nums8 ys) ∧ (∀ k, s1.ownBlock = some k → s2.ownBlock ≠ some k)

theorem ref_laid_full (A0 : Option Addr) (n0 c0 : Nat) (A1 : Option Addr) (n1 c1 : Nat) (A2 : Option Addr) (n2 c2 : Nat) (A3 : Option Addr) (n3 c3 : Nat) (w : World) (hn : n0 + n3 + 1 > 1048576) (h0 : n0 ≤ 1048576) (h3 : n3 ≤ 1048576) :
    Calls Try.prog 41 #[.agg #[.slice A0 n0 c0, .slice A1 n1 c1], .slice A2 n2 c2, .slice A3 n3 c3] w fun e w' => e = .returned (.tuple #[.agg #[.slice A0 n0 c0, .slice A1 n1 c1], .slice none 0 0, .int .i64 7]) ∧ Below w.heap.size w w' := by
  have hcmp : ((n0 : Int) + n3 + 1 > 1048576) := by omega
  go_enter Try.func41, Try.ntmps41
  go_wp2
  go_returns
  exact ⟨rfl, by go_grown⟩

def cut1A (A : Option Addr) (c : Nat) : Option Addr := if c = 1 then A else A.map (·.add 1)
theorem cut1_u8 (A : Option Addr) (n c : Nat) (hn : 1 ≤ n) (_ : n ≤ c) : ∀ W : World, (Instr.slice 23 (.slice A n c) (some (.int .i64 1)) none none).run Try.prog W = .ok (.slice (cut1A A c) (n - 1) (c - 1)) W := by
  obtain ⟨i0, hi0, hz0, hz1, hz2⟩ := info_parts info5
  intro W
  have := cut_from (P := Try.prog) 23 5 .i64 Try.underlying23 hi0 1 hz1 A n c 1 (by omega) (by omega) W
  simpa [cut1A] using this

/-- The state's box and the result's. -/
def BX (W : World) (b : Nat) (A0 : Option Addr) (n0 c0 : Nat) (A1 : Option Addr) (n1 c1 : Nat) : Prop :=
  W.heap[b]? = some (.cells #[.slice A0 n0 c0, .slice A1 n1 c1] 29 (0, 0)) ∧ W.heap[b + 1]? = some (.cells #[.slice none 0 0, .slice none 0 0] 29 (0, 0))
theorem BX.step {W W' : World} {b : Nat} {A0 : Option Addr} {n0 c0 : Nat} {A1 : Option Addr} {n1 c1 : Nat} (h : BX W b A0 n0 c0 A1 n1 c1) (hk : ∀ k, k < b + 2 → W'.heap[k]? = W.heap[k]?) : BX W' b A0 n0 c0 A1 n1 c1 :=
  ⟨(hk b (by omega)).trans h.1, (hk (b + 1) (by omega)).trans h.2⟩
theorem BX.cells {W : World} {b : Nat} {A0 : Option Addr} {n0 c0 : Nat} {A1 : Option Addr} {n1 c1 : Nat} (h : BX W b A0 n0 c0 A1 n1 c1) :
    W.cell? ⟨b, 0, none⟩ = some (.slice A0 n0 c0) ∧ W.cell? ⟨b, 1, none⟩ = some (.slice A1 n1 c1) ∧ W.cell? ⟨b + 1, 0, none⟩ = some (.slice none 0 0) ∧ W.cell? ⟨b + 1, 1, none⟩ = some (.slice none 0 0) ∧ W.frozen? ⟨b + 1, 0, none⟩ = false ∧ W.frozen? ⟨b + 1, 1, none⟩ = false :=
  ⟨(blk_cell h.1 0).trans rfl, (blk_cell h.1 1).trans rfl, (blk_cell h.2 0).trans rfl, (blk_cell h.2 1).trans rfl, blk_frozen h.2 0, blk_frozen h.2 1⟩
theorem BX.new (w : World) (A0 : Option Addr) (n0 c0 : Nat) (A1 : Option Addr) (n1 c1 : Nat) : BX ((w.alloc (.cells #[.slice A0 n0 c0, .slice A1 n1 c1] 29)).alloc (.cells #[.slice none 0 0, .slice none 0 0] 29)) w.heap.size A0 n0 c0 A1 n1 c1 := by
  refine ⟨?_, ?_⟩
  · rw [Below.heap_alloc _ _ _ (by simp)]; exact heap_alloc_new _ _
  · have := heap_alloc_new (w.alloc (.cells #[.slice A0 n0 c0, .slice A1 n1 c1] 29)) (.cells #[.slice none 0 0, .slice none 0 0] 29)
    simpa using this

theorem tail_C {w W : World} {ad : Addr} {n c : Nat} {k : Int} {r : List Int} (h : U8C w (some ad) (k :: r)) (hn : n = (k :: r).length) (hc : n ≤ c) (hb : Below w.heap.size w W) :
    U8C W (cut1A (some ad) c) r := by
  subst hn
  have h1 := Kd.C_drop (k := Kd.int .u8) (m := 1) h (by simp) hc
  have e : (Kd.int IntKind.u8).sz = 1 := rfl
  rw [e, Nat.mul_one] at h1
  exact Kd.C_below h1 hb
theorem start3 {w : World} {a b c : Obj} : Below w.heap.size w (((w.alloc a).alloc b).alloc c) := ⟨rfl, rfl, rfl, by simp; omega, fun k hk => by rw [Below.heap_alloc _ _ _ (by simp; omega), Below.heap_alloc _ _ _ (by simp; omega), Below.heap_alloc _ _ _ hk]⟩
theorem laid_start {w w1 : World} {A0 : Option Addr} {n0 c0 : Nat} {A1 : Option Addr} {n1 c1 : Nat} {r : Option Nat} {o : Obj}
    (hg : ((((w.alloc (.cells #[.slice A0 n0 c0, .slice A1 n1 c1] 29)).alloc (.cells #[.slice none 0 0, .slice none 0 0] 29)).alloc o)).grownBy w1 r) (hr : ∀ k, r = some k → k = w.heap.size + 1 + 1) :
    BX w1 w.heap.size A0 n0 c0 A1 n1 c1 ∧ Below w.heap.size w w1 := by
  have hbx := BX.new w A0 n0 c0 A1 n1 c1
  have hbx2 := hbx.step (W' := (((w.alloc (.cells #[.slice A0 n0 c0, .slice A1 n1 c1] 29)).alloc (.cells #[.slice none 0 0, .slice none 0 0] 29)).alloc o)) (fun k hk => Below.heap_alloc _ _ _ (by simp; omega))
  refine ⟨hbx2.step (fun k hk => hg.block k (by simp; omega) (fun e => ?_)), Below.grown (by go_grown) hg (by simp <;> omega) (fun k hk => by have := hr k hk; omega)⟩
  have := hr k e.symm
  omega

theorem own_shape {w : World} {base n : Nat} {e : TypeId} {v : Value} {xs : List Value} (h : w.ownsRow base e 1 v n xs) : ∃ A c, v = .slice A n c ∧ n ≤ c := by
  obtain ⟨A, c, h1, h2, _⟩ := own_form h
  exact ⟨A, c, h1, h2⟩
theorem low_ne {w : World} {b0 g3 : Nat} {v : Value} (h : w.cell? ⟨g3, 0, none⟩ = some v) (hb : w.heap.size = b0) : ¬ g3 = b0 + 1 := by
  have h1 := World.block_lt_of_cell? _ _ h
  simp at h1
  omega
theorem laid_last (w4 : World) (b : Nat) (hb : b < w4.heap.size) (p q x : Value) (cs : Array Value) :
    (∀ j, j < w4.heap.size → j ≠ b → (((((w4.setCell ⟨b, 0, none⟩ p).setCell ⟨b, 1, none⟩ q).alloc (.cells #[x] 5)).alloc (.cells cs 52)).drew).heap[j]? = w4.heap[j]?) ∧
    (((((w4.setCell ⟨b, 0, none⟩ p).setCell ⟨b, 1, none⟩ q).alloc (.cells #[x] 5)).alloc (.cells cs 52)).drew).heap[w4.heap.size]? = some (.cells #[x] 5 (0, 0)) ∧
    (((((w4.setCell ⟨b, 0, none⟩ p).setCell ⟨b, 1, none⟩ q).alloc (.cells #[x] 5)).alloc (.cells cs 52)).drew).heap[w4.heap.size + 1]? = some (.cells cs 52 (0, 0)) ∧
    Below b w4 (((((w4.setCell ⟨b, 0, none⟩ p).setCell ⟨b, 1, none⟩ q).alloc (.cells #[x] 5)).alloc (.cells cs 52)).drew) ∧
    (∀ u v, w4.heap[b]? = some (.cells #[u, v] 29 (0, 0)) → (((((w4.setCell ⟨b, 0, none⟩ p).setCell ⟨b, 1, none⟩ q).alloc (.cells #[x] 5)).alloc (.cells cs 52)).drew).heap[b]? = some (.cells #[p, q] 29 (0, 0))) := by
  have hs : ((w4.setCell ⟨b, 0, none⟩ p).setCell ⟨b, 1, none⟩ q).heap.size = w4.heap.size := by simp [World.setCell]
  have h1 : ∀ j, j < w4.heap.size → j ≠ b → (((((w4.setCell ⟨b, 0, none⟩ p).setCell ⟨b, 1, none⟩ q).alloc (.cells #[x] 5)).alloc (.cells cs 52)).drew).heap[j]? = w4.heap[j]? := by
    intro j hj hne
    show ((((w4.setCell ⟨b, 0, none⟩ p).setCell ⟨b, 1, none⟩ q).alloc (.cells #[x] 5)).alloc (.cells cs 52)).heap[j]? = _
    rw [Below.heap_alloc _ _ _ (by simp [World.setCell]; omega), Below.heap_alloc _ _ _ (by rw [hs]; exact hj), Below.heap_setCell _ _ _ _ hne, Below.heap_setCell _ _ _ _ hne]
  refine ⟨h1, ?_, ?_, ⟨rfl, rfl, rfl, by simp [World.setCell]; omega, fun j hj => h1 j (by omega) (by omega)⟩, fun u v h => ?_⟩
  rotate_right
  · show ((((w4.setCell ⟨b, 0, none⟩ p).setCell ⟨b, 1, none⟩ q).alloc (.cells #[x] 5)).alloc (.cells cs 52)).heap[b]? = _
    rw [Below.heap_alloc _ _ _ (by simp [World.setCell]; omega), Below.heap_alloc _ _ _ (by rw [hs]; exact hb)]
    exact (blk_set ((blk_set h 0 p).trans rfl) 1 q).trans rfl
  · show ((((w4.setCell ⟨b, 0, none⟩ p).setCell ⟨b, 1, none⟩ q).alloc (.cells #[x] 5)).alloc (.cells cs 52)).heap[w4.heap.size]? = _
    rw [Below.heap_alloc _ _ _ (by simp [World.setCell])]
    have := heap_alloc_new ((w4.setCell ⟨b, 0, none⟩ p).setCell ⟨b, 1, none⟩ q) (.cells #[x] 5)
    rwa [hs] at this
  · show ((((w4.setCell ⟨b, 0, none⟩ p).setCell ⟨b, 1, none⟩ q).alloc (.cells #[x] 5)).alloc (.cells cs 52)).heap[w4.heap.size + 1]? = _
    have := heap_alloc_new (((w4.setCell ⟨b, 0, none⟩ p).setCell ⟨b, 1, none⟩ q).alloc (.cells #[x] 5)) (.cells cs 52)
    rwa [show (((w4.setCell ⟨b, 0, none⟩ p).setCell ⟨b, 1, none⟩ q).alloc (.cells #[x] 5)).heap.size = w4.heap.size + 1 by simp [World.setCell]] at this
theorem own_blk1 {w : World} {base g : Nat} {x : Int} (h : w.heap[g]? = some (.cells #[.int .u8 x] 5 (0, 0))) (hb : base ≤ g) : w.ownsRow base 5 1 (.slice (some ⟨g, 0, none⟩) 1 1) [x].length (nums8 [x]) :=
  ⟨rfl, .inr ⟨g, 1, _, rfl, hb, h, Nat.le_refl _, by decide, rfl, rfl⟩⟩
theorem laid_step {w W W' w2 : World} {b : Nat} {A0 : Option Addr} {n0 c0 : Nat} {A1 : Option Addr} {n1 c1 n : Nat} {v : Value} {xs : List Value} (hbx : BX W b A0 n0 c0 A1 n1 c1) (hb : Below b w W)
    (ho : W.ownsRow b 5 1 v n xs) (hW : Below W.heap.size W W') (hg : W'.grownBy w2 v.ownBlock) : BX w2 b A0 n0 c0 A1 n1 c1 ∧ Below b w w2 := by
  have h1 := own_ne ho hbx.1 (by decide)
  have h2 := own_ne ho hbx.2 (by decide)
  have l1 := blk_lt hbx.1
  have l2 := blk_lt hbx.2
  have hs := hW.size
  refine ⟨⟨?_, ?_⟩, Below.grown (hb.trans (hW.mono (by omega))) hg (by omega) (fun k hk => (own_low ho k hk).1)⟩
  · exact ((hg.block _ (by omega) (fun e => h1 e.symm)).trans (hW.block _ l1)).trans hbx.1
  · exact ((hg.block _ (by omega) (fun e => h2 e.symm)).trans (hW.block _ l2)).trans hbx.2
theorem BX.lt {W : World} {b : Nat} {A0 : Option Addr} {n0 c0 : Nat} {A1 : Option Addr} {n1 c1 : Nat} (h : BX W b A0 n0 c0 A1 n1 c1) : b + 2 ≤ W.heap.size := by
  have := blk_lt h.2
  omega
theorem own_after {W W' w2 : World} {base n : Nat} {v : Value} {xs : List Value} {r : Option Nat} (ho : W.ownsRow base 5 1 v n xs) (hW : Below W.heap.size W W') (hg : W'.grownBy w2 r) (hr : ∀ k, v.ownBlock = some k → r ≠ some k) : w2.ownsRow base 5 1 v n xs :=
  own_step ho (fun k hk => by
    have l := (own_low ho k hk).2
    exact (hg.block k (by have := hW.size; omega) (fun e => hr k hk e.symm)).trans (hW.block k l))

set_option maxRecDepth 100000 in
set_option maxHeartbeats 4000000 in
theorem ref_laid_ok (A0 : Option Addr) (n0 c0 : Nat) (img : List Int) (A1 : Option Addr) (n1 c1 : Nat) (A2 : Option Addr) (n2 c2 : Nat) (g3 n3 c3 : Nat) (k : Int) (r : List Int) (w : World) (hi : U8C w A0 img) (h0 : Hid (n0 = img.length)) (hr : U8C w (some ⟨g3, 0, none⟩) (k :: r)) (h3 : Hid (n3 = (k :: r).length)) (h33 : n3 ≤ c3) (hn : ¬ n0 + n3 + 1 > 1048576) :
    Calls Try.prog 41 #[.agg #[.slice A0 n0 c0, .slice A1 n1 c1], .slice A2 n2 c2, (.slice (some ⟨g3, 0, none⟩) n3 c3)] w fun e w' => (∃ vi wl, e = .returned (.tuple #[.agg #[vi, .slice A2 n2 c2], wl, .int .i64 0]) ∧ w'.ownsRow w.heap.size 5 1 vi (img ++ k :: r).length (nums8 (img ++ k :: r)) ∧ Wr2 w' w.heap.size wl n0 (0 :: r ++ [0]) [k]) ∧ Below w.heap.size w w' := by
  have hcmp : ¬ ((n0 : Int) + n3 + 1 > 1048576) := by omega
  have HN := Lib.hid (show n0 + n3 + 1 ≤ 1048576 by omega)
  clear hn
  have hl3 : 1 ≤ n3 := by have := h3.out; simp at this; omega
  have HL3 := Lib.hid (show n3 = r.length + 1 by have := h3.out; simpa using this)
  have hsl := cut1_u8 (some ⟨g3, 0, none⟩) n3 c3 hl3 h33
  have HI := Lib.hid hi
  have HR := Lib.hid hr
  obtain ⟨ad, ead, hcc⟩ := C_int_cells hr (by simp)
  have r0 := hcc 0 (.int .u8 k) rfl
  cases ead
  replace r0 : w.cell? ⟨g3, 0, none⟩ = some (.int .u8 k) := r0
  have hl30 : 0 < n3 := hl3
  have R0 := Lib.hid r0
  clear hi hr hcc r0
  go_enter Try.func41, Try.ntmps41
  go_wp2_with (first
    | (at_builtin; refine wpList_append_u8n rfl (.tmp 21) (.tmp 23) 23 rfl w.heap.size 5 Try.underlying23 info5 _ 1 [0] rfl (own_row_at _ w.heap.size _ 5 [0] 1 rfl (by (first | rfl | omega | (simp; done) | (simp; omega))) (by (first | rfl | omega | (simp; done) | (simp; omega))) (by omega)) _ _ _ r rfl (by have := HL3.out; omega) (tail_C HR.out h3.out h33 start3) n3 (by have := HL3.out; omega) (by have := HN.out; omega) (by (first | rfl | omega | (simp; done) | (simp; omega))) ?_; intro v1 w1 ho hg hat; obtain ⟨hbx, hb1⟩ := laid_start hg (by intro k hk; injection hk with hk; subst hk; rfl); obtain ⟨x0, x1, x2, x3, x4, x5⟩ := hbx.cells; obtain ⟨B1, d1, ev1, hd1⟩ := own_shape ho; subst ev1; have HO1 := Lib.hid ho; have HBX1 := Lib.hid hbx; have HB1 := Lib.hid hb1; clear ho hg hat hbx hb1; generalize hb0 : w.heap.size = b0 at *; have HB0 := Lib.hid hb0; clear hb0 hcmp)
    | (at_builtin; refine wpList_append_u8n rfl (.tmp 25) (.tmp 26) 23 rfl b0 5 Try.underlying23 info5 _ _ _ rfl (own_step HO1.out (fun k hk => Below.heap_alloc _ _ _ (own_low HO1.out k hk).2)) _ _ _ [0] rfl rfl (C_row_at w1 _ 5 [0] rfl (by simp)) (n3 + 1) rfl (by have := HN.out; omega) (by have := HBX1.out.lt; simp; omega) ?_; intro v2 w2 ho hg hat; obtain ⟨hbx, hb2⟩ := laid_step HBX1.out HB1.out HO1.out start_below hg; obtain ⟨y0, y1, y2, y3, y4, y5⟩ := hbx.cells; have hl2 : b0 < w2.heap.size := blk_lt hbx.1; obtain ⟨B2, d2, ev2, hd2⟩ := own_shape ho; subst ev2; have HO2 := Lib.hid ho; have HBX2 := Lib.hid hbx; have HB2 := Lib.hid hb2; clear ho hg hat hbx hb2 x0 x1 x2 x3 x4 x5)
    | (at_builtin; refine wpList_append_u8n rfl (.tmp 31) (.tmp 33) 23 rfl w2.heap.size 5 Try.underlying23 info5 _ 0 [] rfl (own_row_at w2 w2.heap.size _ 5 [] 0 rfl rfl (Nat.le_refl _) (by omega)) A0 c0 n0 img rfl h0.out (Kd.C_below HI.out (HB0.out ▸ HB2.out.trans (start_below.mono (by have := HBX2.out.lt; omega)))) n0 (by have := h0.out; omega) (by have := HN.out; omega) (by (first | rfl | omega | (simp; done) | (simp; omega))) ?_; intro v3 w3 ho hg hat; have hbg := (start_below (w := w2) (o := .cells #[] 5)).grown hg (by (first | rfl | omega | (simp; done) | (simp; omega))) (fun k hk => by injection hk with hk; subst hk; exact Nat.le_refl _); have ho2 := own_step HO2.out (fun k hk => hbg.block k (own_low HO2.out k hk).2); have hbx := HBX2.out.step (fun k hk => hbg.block k (by have := HBX2.out.lt; omega)); obtain ⟨z0, z1, z2, z3, z4, z5⟩ := hbx.cells; obtain ⟨B3, d3, ev3, hd3⟩ := own_shape ho; subst ev3; have HO3 := Lib.hid ho; have HO23 := Lib.hid ho2; have HBX3 := Lib.hid hbx; have HB3 := Lib.hid (HB2.out.trans (hbg.mono (by have := HBX2.out.lt; omega))); have HS3 := Lib.hid hbg.size; clear ho hg hat hbx hbg ho2 y0 y1 y2 y3 y4 y5 hl2)
    | (at_builtin; refine wpList_append_u8n rfl (.tmp 35) (.tmp 36) 23 rfl w2.heap.size 5 Try.underlying23 info5 _ _ _ rfl HO3.out (some ⟨g3, 0, none⟩) c3 n3 (k :: r) rfl h3.out (Kd.C_below HR.out (HB0.out ▸ HB3.out)) (n0 + n3) (by have := h3.out; omega) (by have := HN.out; omega) HS3.out ?_; intro v4 w4 ho hg hat; obtain ⟨hbx, hb4⟩ := laid_step HBX3.out HB3.out (own_drop HO3.out (fun k hk => by have := (own_low HO3.out k hk).1; have := HBX2.out.lt; omega)) (Below.refl _ _) hg; have ho2 := own_after HO23.out (Below.refl _ _) hg (fun k hk e => by have := (own_low HO3.out k e).1; have := (own_low HO2.out k hk).2; omega); obtain ⟨z0, z1, z2, z3, z4, z5⟩ := hbx.cells; obtain ⟨B4, d4, ev4, hd4⟩ := own_shape ho; subst ev4; have HO4 := Lib.hid ho; have HO24 := Lib.hid ho2; have HBX4 := Lib.hid hbx; have HB4 := Lib.hid hb4; have hl4 : b0 + 1 < w4.heap.size := blk_lt hbx.2; have hl5 : b0 + 1 < w4.heap.size + 1 := Nat.lt_succ_of_lt hl4; have r4 := (World.cell?_of_block (hb4.block _ (by have := World.block_lt_of_cell? _ _ R0.out; have := HB0.out; omega))).trans R0.out; have hn3 : ¬ g3 = b0 + 1 := low_ne R0.out HB0.out; clear ho hg hat hbx hb4 ho2))
  go_region
  obtain ⟨q1, q2, q3, q4, q5⟩ := laid_last w4 (b0 + 1) hl4 (.slice B4 (n0 + n3) d4) (.slice A2 n2 c2) (.int .u8 k) #[.int .i64 n0, .slice B2 (n3 + 1) d2, .int .i64 n0, .slice (some ⟨w4.heap.size, 0, none⟩) 1 1]
  have hq5 := q5 _ _ HBX4.out.2
  have hnb : ∀ j, (Value.slice B4 (n0 + n3) d4).ownBlock = some j → j ≠ b0 + 1 := fun j hj e => own_ne HO4.out HBX4.out.2 (by decide) (by rw [hj, e])
  have hnc : ∀ j, (Value.slice B2 (n3 + 1) d2).ownBlock = some j → j ≠ b0 + 1 := fun j hj e => own_ne HO24.out HBX4.out.2 (by decide) (by rw [hj, e])
  refine exit_world (fun W5 => W5.cell? ⟨b0 + 1, 0, none⟩ = some (.slice B4 (n0 + n3) d4) ∧ W5.cell? ⟨b0 + 1, 1, none⟩ = some (.slice A2 n2 c2) ∧ W5.ownsRow b0 5 1 (.slice B4 (n0 + n3) d4) (n0 + n3) (nums8 (img ++ k :: r)) ∧ Wr2 W5 b0 (.slice (some ⟨w4.heap.size + 1, 0, none⟩) 2 2) n0 (0 :: r ++ [0]) [k] ∧ Below b0 w W5)
    ⟨(blk_cell hq5 0).trans rfl, (blk_cell hq5 1).trans rfl, ?_, ?_, HB4.out.trans (q4.mono (by omega))⟩ ?_
  · have := own_step HO4.out (fun j hj => q1 j (own_low HO4.out j hj).2 (hnb j hj))
    refine own_drop (by simpa using this) (fun j hj => ?_)
    have := (own_low HO4.out j hj).1
    have := HBX2.out.lt
    omega
  · have e4 : (0 :: r ++ [0]).length = n3 + 1 := by have := HL3.out; simp; omega
    refine ⟨_, _, _, rfl, by omega, q3, ?_, ?_, fun j hj e => ?_⟩
    · rw [e4]
      have := own_step HO24.out (fun j hj => q1 j (own_low HO24.out j hj).2 (hnc j hj))
      simpa using this
    · exact own_blk1 q2 (by omega)
    · have := (own_low HO24.out j hj).2
      simp [Value.ownBlock] at e
      omega
  rintro W5 ⟨u0, u1, hO, hWr, hB⟩
  have HO := Lib.hid hO
  have HWr := Lib.hid hWr
  have HB := Lib.hid hB
  clear hO hWr hB q1 q2 q3 q4 q5 hq5 hnb hnc
  go_wp2_with fail
  refine bodyPost_ret (by simp [results, Try.results41, go_sem, u0, u1]; try rfl) rfl ?_
  have e3 : (img ++ k :: r).length = n0 + n3 := by have := h0.out; have := h3.out; simp at *; omega
  rw [HB0.out, e3]
  exact ⟨⟨_, _, rfl, HO.out, HWr.out⟩, HB.out⟩

end Go.Proofs.Ytcjniogdjbplbaa

/-! St2 -/
namespace Go.Proofs.Ytcjniogdjbplbaa
open Mem Go.RowKit Go.Proofs.YtcjniogdjbplbaaW.PrintWords Go.Proofs.YtcjniogdjbplbaaW.PrintLast Go.Proofs.YtcjniogdjbplbaaW.PrintMore PStorePlays
variable {X : Nat → Prop}

/-- What a function value puts: bytes behind, in whatever writer from 'base' on. -/
def Puts (fn : FuncId) (cap : List Value) (base : Nat) (ys : List Int) (w : World) : Prop :=
  ∀ (W : World) (g : Nat) (v : Value) (xs : List Int), Below base w W → IsWr W base g v xs → xs.length ≤ 100 → base ≤ W.heap.size →
    Calls Try.prog fn (#[.pointer (some ⟨g, 0, none⟩)] ++ cap.toArray) W fun e w' => e = .returned (.tuple #[]) ∧ (∃ v', IsWr w' base g v' (xs ++ ys)) ∧ Below base W w'

theorem C_lt' {w : World} {ad : Addr} {xs : List Int} (h : U8C w (some ad) xs) (hp : 0 < xs.length) : ad.block < w.heap.size := Kd.C_lt h hp (by decide)
theorem own_shape' {w : World} {base n : Nat} {e : TypeId} {v : Value} {xs : List Value} (h : w.ownsRow base e 1 v n xs) : ∃ A c, v = .slice A n c ∧ n ≤ c := own_shape h

theorem own_len {w : World} {base n : Nat} {e : TypeId} {v : Value} {xs : List Value} (h : w.ownsRow base e 1 v n xs) : n ≤ 9223372036854775807 := by
  rcases h.2 with ⟨_, h0⟩ | ⟨g, cap, cur, _, _, _, hn, hc, _⟩
  · omega
  · unfold maxLen at hc; omega
theorem wr_Bytes_n (base g : Nat) (v : Value) (xs : List Int) (m : Nat) (hm : Hid (m = xs.length)) (w : World) (hw : IsWr w base g v xs) :
    Calls Try.prog 62 #[.pointer (some ⟨g, 0, none⟩)] w fun e w' => e = .returned (.slice (some ⟨w.heap.size, 0, none⟩) m m) ∧ w.alloc (.cells (u8row xs) 5) = w' := by
  have e := hm.out
  subst e
  exact wr_Bytes base g v xs w hw

theorem u8row_at {xs : List Int} {j : Nat} {x : Int} (h : xs[j]? = some x) : (u8row xs)[j]? = some (.int .u8 x) := by
  simp [u8row, nums8, h]
theorem u8row_set (tail : List Int) (a b : Int) : (u8row (a :: tail)).setIfInBounds 0 (.int .u8 b) = u8row (b :: tail) := by
  unfold u8row nums8
  simp

/-- The worlds behind the writer: the row, its copy, and the writes. -/
theorem laid_mid {w w4 w7 : World} {v7 : Value} {tail : List Int} {nr n0 : Nat} {kind : Int} (hb : Below w.heap.size w w4) (hnr : nr = (0 :: tail).length)
    (hg : (((w4.alloc (.cells (u8row (0 :: tail)) 5)).alloc (.cells (u8row (0 :: tail)) 5)).alloc (.cells #[.int .u8 0] 5)).grownBy w7 (some (w4.heap.size + 1)))
    (ho : w7.ownsRow w.heap.size 5 1 v7 (nr + 1) (nums8 (0 :: tail ++ [0]))) (hat : v7.ownBlock = some (w4.heap.size + 1) ∨ v7.ownBlock = some (w4.heap.size + 3)) :
    w7.cell? ⟨w4.heap.size, 0, none⟩ = some (.int .u8 0) ∧ w7.frozen? ⟨w4.heap.size, 0, none⟩ = false ∧ w4.heap.size < w7.heap.size ∧ w4.heap.size < w7.heap.size + 1 ∧
    (∀ k, k < w4.heap.size → (((w7.setCell ⟨w4.heap.size, 0, none⟩ (.int .u8 kind)).alloc (.cells #[.int .u8 kind] 5)).alloc (.cells #[.int .i64 n0, v7, .int .i64 n0, .slice (some ⟨w7.heap.size, 0, none⟩) 1 1] 52)).heap[k]? = w4.heap[k]?) ∧
    U8C (((w7.setCell ⟨w4.heap.size, 0, none⟩ (.int .u8 kind)).alloc (.cells #[.int .u8 kind] 5)).alloc (.cells #[.int .i64 n0, v7, .int .i64 n0, .slice (some ⟨w7.heap.size, 0, none⟩) 1 1] 52)) (some ⟨w4.heap.size, 0, none⟩) (kind :: tail) ∧
    Wr2 (((w7.setCell ⟨w4.heap.size, 0, none⟩ (.int .u8 kind)).alloc (.cells #[.int .u8 kind] 5)).alloc (.cells #[.int .i64 n0, v7, .int .i64 n0, .slice (some ⟨w7.heap.size, 0, none⟩) 1 1] 52)) (w4.heap.size + 1) (.slice (some ⟨w7.heap.size + 1, 0, none⟩) 2 2) n0 (0 :: tail ++ [0]) [kind] ∧
    Below w.heap.size w (((w7.setCell ⟨w4.heap.size, 0, none⟩ (.int .u8 kind)).alloc (.cells #[.int .u8 kind] 5)).alloc (.cells #[.int .i64 n0, v7, .int .i64 n0, .slice (some ⟨w7.heap.size, 0, none⟩) 1 1] 52)) := by
  have hs7 : w4.heap.size + 3 ≤ w7.heap.size := by have := hg.size; simp at this; omega
  have hrow : w7.heap[w4.heap.size]? = some (.cells (u8row (0 :: tail)) 5 (0, 0)) := by
    rw [hg.block _ (by simp; omega) (by simp), Below.heap_alloc _ _ _ (by simp; omega), Below.heap_alloc _ _ _ (by simp)]
    exact heap_alloc_new _ _
  have hold : ∀ k, k < w4.heap.size → w7.heap[k]? = w4.heap[k]? := fun k hk => by
    rw [hg.block _ (by simp; omega) (by simp; omega), Below.heap_alloc _ _ _ (by simp; omega), Below.heap_alloc _ _ _ (by simp; omega), Below.heap_alloc _ _ _ hk]
  have hW : ∀ k, k < w7.heap.size → k ≠ w4.heap.size → (((w7.setCell ⟨w4.heap.size, 0, none⟩ (.int .u8 kind)).alloc (.cells #[.int .u8 kind] 5)).alloc (.cells #[.int .i64 n0, v7, .int .i64 n0, .slice (some ⟨w7.heap.size, 0, none⟩) 1 1] 52)).heap[k]? = w7.heap[k]? := fun k hk hne => by
    rw [Below.heap_alloc _ _ _ (by simp [World.setCell]; omega), Below.heap_alloc _ _ _ (by simpa [World.setCell] using hk), Below.heap_setCell _ _ _ _ hne]
  have hrow8 : (((w7.setCell ⟨w4.heap.size, 0, none⟩ (.int .u8 kind)).alloc (.cells #[.int .u8 kind] 5)).alloc (.cells #[.int .i64 n0, v7, .int .i64 n0, .slice (some ⟨w7.heap.size, 0, none⟩) 1 1] 52)).heap[w4.heap.size]? = some (.cells (u8row (kind :: tail)) 5 (0, 0)) := by
    rw [Below.heap_alloc _ _ _ (by simp [World.setCell]; omega), Below.heap_alloc _ _ _ (by simp [World.setCell]; omega), blk_set hrow 0 (.int .u8 kind), u8row_set]
  have hk8 : (((w7.setCell ⟨w4.heap.size, 0, none⟩ (.int .u8 kind)).alloc (.cells #[.int .u8 kind] 5)).alloc (.cells #[.int .i64 n0, v7, .int .i64 n0, .slice (some ⟨w7.heap.size, 0, none⟩) 1 1] 52)).heap[w7.heap.size]? = some (.cells #[.int .u8 kind] 5 (0, 0)) := by
    rw [Below.heap_alloc _ _ _ (by simp [World.setCell])]
    have := heap_alloc_new (w7.setCell ⟨w4.heap.size, 0, none⟩ (.int .u8 kind)) (.cells #[.int .u8 kind] 5)
    rwa [show (w7.setCell ⟨w4.heap.size, 0, none⟩ (.int .u8 kind)).heap.size = w7.heap.size by simp [World.setCell]] at this
  have hl8 : (((w7.setCell ⟨w4.heap.size, 0, none⟩ (.int .u8 kind)).alloc (.cells #[.int .u8 kind] 5)).alloc (.cells #[.int .i64 n0, v7, .int .i64 n0, .slice (some ⟨w7.heap.size, 0, none⟩) 1 1] 52)).heap[w7.heap.size + 1]? = some (.cells #[.int .i64 n0, v7, .int .i64 n0, .slice (some ⟨w7.heap.size, 0, none⟩) 1 1] 52 (0, 0)) := by
    have := heap_alloc_new ((w7.setCell ⟨w4.heap.size, 0, none⟩ (.int .u8 kind)).alloc (.cells #[.int .u8 kind] 5)) (.cells #[.int .i64 n0, v7, .int .i64 n0, .slice (some ⟨w7.heap.size, 0, none⟩) 1 1] 52)
    rwa [show ((w7.setCell ⟨w4.heap.size, 0, none⟩ (.int .u8 kind)).alloc (.cells #[.int .u8 kind] 5)).heap.size = w7.heap.size + 1 by simp [World.setCell]] at this
  have hlt : w.heap.size ≤ w4.heap.size := hb.size
  refine ⟨(blk_cell hrow 0).trans (by simp [u8row, nums8]), blk_frozen hrow 0, by omega, by omega, fun k hk => (hW k (by omega) (by omega)).trans (hold k hk), C_int_of_blk hrow8 (fun j x hj => u8row_at hj) (by have := own_len ho; simp only [List.length_cons] at hnr ⊢; omega), ?_, ?_⟩
  · refine ⟨_, _, _, rfl, by omega, hl8, ?_, own_blk1 hk8 (by omega), fun j hj e => ?_⟩
    · have hj1 : ∀ j, v7.ownBlock = some j → w4.heap.size + 1 ≤ j := fun j hj => by
        rcases hat with h | h <;> rw [h] at hj <;> injection hj with hj <;> omega
      have := own_step ho (fun j hj => hW j (own_low ho j hj).2 (by have := hj1 j hj; omega))
      have e : ((0 : Int) :: tail ++ [0]).length = nr + 1 := by rw [hnr]; simp
      rw [e]
      exact own_drop this hj1
    · have h2 := (own_low ho j hj).2
      simp [Value.ownBlock] at e
      omega
  · exact ⟨(hg.os.trans hb.os : _), (hg.tape.trans hb.tape : _), (hg.output.trans hb.output : _), by simp [World.setCell]; omega, fun k hk => (hW k (by omega) (by omega)).trans ((hold k (by omega)).trans (hb.block k hk))⟩

end Go.Proofs.Ytcjniogdjbplbaa

/-! Rf3 -/
namespace Go.Proofs.Ytcjniogdjbplbaa
open Mem Go.RowKit Go.Proofs.YtcjniogdjbplbaaW.PrintWords Go.Proofs.YtcjniogdjbplbaaW.PrintLast Go.Proofs.YtcjniogdjbplbaaW.PrintMore PStorePlays

/-- The document's state: its image and what it keeps, in blocks of ok. -/
structure RefSt (w : World) (ok : Nat → Prop) (A0 : Option Addr) (c0 : Nat) (A1 : Option Addr) (c1 : Nat) (img : List Int) (l : List S99) : Prop where
  fi : Kd.F (Kd.int .u8) w ok A0 img.length img
  ci : img.length ≤ c0
  fl : Kd.F k99 w ok A1 l.length l
  cl : l.length ≤ c1

theorem RefSt.step {w w' : World} {ok : Nat → Prop} {A0 : Option Addr} {c0 : Nat} {A1 : Option Addr} {c1 : Nat} {img : List Int} {l : List S99} (h : RefSt w ok A0 c0 A1 c1 img l) (hk : ∀ k, ok k → k < w.heap.size → w'.heap[k]? = w.heap[k]?) : RefSt w' ok A0 c0 A1 c1 img l :=
  ⟨Kd.F_step h.fi hk, h.ci, Kd.F_step h.fl hk, h.cl⟩
theorem RefSt.below {w w' : World} {ok : Nat → Prop} {A0 : Option Addr} {c0 : Nat} {A1 : Option Addr} {c1 : Nat} {img : List Int} {l : List S99} (h : RefSt w ok A0 c0 A1 c1 img l) (hb : Below w.heap.size w w') : RefSt w' ok A0 c0 A1 c1 img l :=
  h.step (fun k _ hlt => hb.block k hlt)

theorem place_any (A0 : Option Addr) (c0 : Nat) (l : List S99) (n : ByteArray) (w : World) (hl : Kd.C k99 w A0 l.length l) (hc : l.length ≤ c0) (m : Nat) (hm : Hid (m = l.length)) (h6 : m ≤ 1000000) :
    Calls Try.prog 40 #[.slice A0 m c0, .string n] w fun e w' => e = .returned (.tuple #[.int .i64 ((plc l n).1 : Nat), .bool (plc l n).2]) ∧ Drawn0 w w' := by
  obtain ⟨K, hK⟩ := place_f l n (by have := hm.out; omega)
  have := hm.out
  subst this
  exact provisoref21_place.calls K A0 c0 l n _ _ w hl hc (hK K (Nat.le_refl _))

theorem ref_put_name (A0 : Option Addr) (n0 c0 : Nat) (A1 : Option Addr) (n1 c1 : Nat) (A2 : Option Addr) (n2 c2 : Nat) (s : ByteArray) (w : World) (hs : isNameB s = false) :
    Calls Try.prog 12 #[.agg #[.slice A0 n0 c0, .slice A1 n1 c1], .string s, .slice A2 n2 c2] w fun e w' => e = .returned (.tuple #[.agg #[.slice A0 n0 c0, .slice A1 n1 c1], .slice none 0 0, .int .i64 6]) ∧ Below w.heap.size w w' := by
  have hcall := fun W : World => ref_isName_calls s W
  rw [hs] at hcall
  go_enter Try.func12, Try.ntmps12
  go_wp2_with (first | (go_at_call 39; refine (hcall _).mono ?_; rintro e w' ⟨rfl, ⟨nq, rfl⟩⟩))
  go_returns
  exact ⟨rfl, by (repeat (first | exact Below.refl _ _ | refine pw_below_drewN ?_ _ | refine Below.drew ?_ | refine Below.alloc ?_ (by first | rfl | omega | (simp; done) | (simp; omega)) _ | refine Below.setCell ?_ (by first | rfl | omega | (simp; done) | (simp; omega)) _))⟩
theorem ref_put_long (A0 : Option Addr) (n0 c0 : Nat) (A1 : Option Addr) (n1 c1 : Nat) (A2 : Option Addr) (n2 c2 : Nat) (s : ByteArray) (w : World) (hs : isNameB s = true) (h4 : 4096 < n2) :
    Calls Try.prog 12 #[.agg #[.slice A0 n0 c0, .slice A1 n1 c1], .string s, .slice A2 n2 c2] w fun e w' => e = .returned (.tuple #[.agg #[.slice A0 n0 c0, .slice A1 n1 c1], .slice none 0 0, .int .i64 4]) ∧ Below w.heap.size w w' := by
  have hcall := fun W : World => ref_isName_calls s W
  rw [hs] at hcall
  go_enter Try.func12, Try.ntmps12
  go_wp2_with (first | (go_at_call 39; refine (hcall _).mono ?_; rintro e w' ⟨rfl, ⟨nq, rfl⟩⟩))
  go_returns
  exact ⟨rfl, by (repeat (first | exact Below.refl _ _ | refine pw_below_drewN ?_ _ | refine Below.drew ?_ | refine Below.alloc ?_ (by first | rfl | omega | (simp; done) | (simp; omega)) _ | refine Below.setCell ?_ (by first | rfl | omega | (simp; done) | (simp; omega)) _))⟩
theorem ref_put_full (A0 : Option Addr) (n0 c0 : Nat) (A1 : Option Addr) (n1 c1 : Nat) (l : List S99) (A2 : Option Addr) (n2 c2 : Nat) (s : ByteArray) (w : World) (hs : isNameB s = true) (h4 : n2 ≤ 4096) (hl : Kd.C k99 w A1 l.length l) (hc : l.length ≤ c1) (hn1 : Hid (n1 = l.length)) (ht : (plc l s).2 = false) (h16 : n1 = 16) :
    Calls Try.prog 12 #[.agg #[.slice A0 n0 c0, .slice A1 n1 c1], .string s, .slice A2 n2 c2] w fun e w' => e = .returned (.tuple #[.agg #[.slice A0 n0 c0, .slice A1 n1 c1], .slice none 0 0, .int .i64 7]) ∧ Below w.heap.size w w' := by
  have hcall := fun W : World => ref_isName_calls s W
  rw [hs] at hcall
  subst h16
  have HL := Lib.hid hl
  have HP := fun (W : World) (h : Kd.C k99 W A1 l.length l) => place_any A1 c1 l s W h hc 16 hn1 (by omega)
  rw [ht] at HP
  clear hl
  go_enter Try.func12, Try.ntmps12
  go_wp2_with (first | (go_at_call 39; refine (hcall _).mono ?_; rintro e w' ⟨rfl, ⟨nq, rfl⟩⟩) | (go_at_call 40; refine (HP _ (Kd.C_below HL.out (by (repeat (first | exact Below.refl _ _ | refine pw_below_drewN ?_ _ | refine Below.drew ?_ | refine Below.alloc ?_ (by first | rfl | omega | (simp; done) | (simp; omega)) _ | refine Below.setCell ?_ (by first | rfl | omega | (simp; done) | (simp; omega)) _))))).mono ?_; rintro e w' ⟨rfl, ⟨np, rfl⟩⟩))
  go_returns
  exact ⟨rfl, by (repeat (first | exact Below.refl _ _ | refine pw_below_drewN ?_ _ | refine Below.drew ?_ | refine Below.alloc ?_ (by first | rfl | omega | (simp; done) | (simp; omega)) _ | refine Below.setCell ?_ (by first | rfl | omega | (simp; done) | (simp; omega)) _))⟩


theorem ins_len (l : List S99) (n : ByteArray) (b : List Int) : (ins l n b).length = if (plc l n).2 = true then l.length else l.length + 1 := by
  have h1 := plc_le l n
  have h2 := plc_lt l n
  unfold ins
  split
  · rename_i h; have := h2 h; simp; omega
  · simp; omega
theorem rem_len (l : List S99) (n : ByteArray) : (rem l n).length = if (plc l n).2 = true then l.length - 1 else l.length := by
  have h1 := plc_le l n
  have h2 := plc_lt l n
  unfold rem
  split
  · rename_i h; have := h2 h; simp; omega
  · simp

theorem with_any (A1 : Option Addr) (c1 : Nat) (l : List S99) (m : Nat) (s : ByteArray) (A2 : Option Addr) (c2 n : Nat) (b : List Int) (ok : Nat → Prop) (w : World) (hok : ∀ k, w.heap.size ≤ k → ok k)
    (hl : Kd.F k99 w ok A1 l.length l) (hc : l.length ≤ c1) (hm : Hid (m = l.length)) (h1m : m ≤ 1000) (hb : Kd.F (Kd.int .u8) w ok A2 b.length b) (hcb : b.length ≤ c2) (hn : Hid (n = b.length)) (mi : Nat) (hmi : Hid (mi = (ins l s b).length)) :
    Calls Try.prog 42 #[.slice A1 m c1, .string s, .slice A2 n c2] w fun e w' => (∃ B d, e = .returned (.slice B mi d) ∧ mi ≤ d ∧ Kd.F k99 w' ok B (ins l s b).length (ins l s b)) ∧ Below w.heap.size w w' := by
  obtain ⟨K, hK⟩ := with_f l s b (by have := hm.out; omega)
  have e1 := hm.out
  have e2 := hn.out
  subst e1
  subst e2
  refine (provisoref21_with.calls K ok A1 c1 l s ok A2 c2 b _ w (Kd.V_mk hc hl) (Kd.V_mk hcb hb) hK).mono ?_
  rintro e w' ⟨v, rfl, hN, hB⟩
  have hV := Kd.N_V (base' := 0) (Kd.N_mono hN (fun k hk => hk.elim (fun h => h.elim id id) (hok k)))
  obtain ⟨B, d, rfl, hd, hF⟩ := hV
  have e3 := hmi.out
  subst e3
  exact ⟨⟨B, d, rfl, hd, hF⟩, hB⟩
theorem without_any (A1 : Option Addr) (c1 : Nat) (l : List S99) (m : Nat) (s : ByteArray) (ok : Nat → Prop) (w : World) (hok : ∀ k, w.heap.size ≤ k → ok k)
    (hl : Kd.F k99 w ok A1 l.length l) (hc : l.length ≤ c1) (hm : Hid (m = l.length)) (h1m : m ≤ 1000) (mi : Nat) (hmi : Hid (mi = (rem l s).length)) :
    Calls Try.prog 56 #[.slice A1 m c1, .string s] w fun e w' => (∃ B d, e = .returned (.slice B mi d) ∧ mi ≤ d ∧ Kd.F k99 w' ok B (rem l s).length (rem l s)) ∧ Below w.heap.size w w' := by
  obtain ⟨K, hK⟩ := without_f l s (by have := hm.out; omega)
  have e1 := hm.out
  subst e1
  refine (provisoref21_without.calls K ok A1 c1 l s _ w (Kd.V_mk hc hl) hK).mono ?_
  rintro e w' ⟨v, rfl, hN, hB⟩
  have hV := Kd.N_V (base' := 0) (Kd.N_mono hN (fun k hk => hk.elim id (hok k)))
  obtain ⟨B, d, rfl, hd, hF⟩ := hV
  have e3 := hmi.out
  subst e3
  exact ⟨⟨B, d, rfl, hd, hF⟩, hB⟩

theorem start_below' {W : World} {o : Obj} : Below W.heap.size W (W.drew.alloc o) := ⟨rfl, rfl, rfl, by simp, fun k hk => Below.heap_alloc W.drew o k hk⟩
theorem put_copy {W w1 : World} {o : Obj} {n c : Nat} (hg : (W.drew.alloc o).grownBy w1 (Value.slice (some ⟨W.heap.size, 0, none⟩) n c).ownBlock) : Below W.heap.size W w1 :=
  start_below'.grown hg (by simp) (fun k hk => by injection hk with hk; subst hk; exact Nat.le_refl _)

/-- A row of bytes that is owned, as what is only read. -/
theorem own_F {w : World} {base n : Nat} {v : Value} {xs : List Int} {ok : Nat → Prop} (h : w.ownsRow base 5 1 v n (nums8 xs)) (hok : ∀ k, base ≤ k → ok k) : ∃ A c, v = .slice A n c ∧ n = xs.length ∧ xs.length ≤ c ∧ Kd.F (Kd.int .u8) w ok A xs.length xs ∧ (0 < xs.length → ∃ g, A = some ⟨g, 0, none⟩ ∧ base ≤ g ∧ g < w.heap.size) := by
  obtain ⟨A, c, hv, hn, hc, hA, hC⟩ := own_C8 h
  subst hn
  refine ⟨A, c, hv, rfl, hc, fun W' hW => C8_blk hC (fun ad e hp => ?_), fun hp => ?_⟩
  · obtain ⟨g, rfl, hg, ho⟩ := hA ad e
    exact hW g (hok g hg) (own_low h g ho).2
  · obtain ⟨ad, e, _⟩ := C_int_cells hC hp
    obtain ⟨g, rfl, hg, ho⟩ := hA ad e
    exact ⟨g, e, hg, (own_low h g ho).2⟩

theorem rec_form {w : World} {base : Nat} {k : Int} {s : ByteArray} {b : List Int} {v : Value} (h : w.ownsRow base 5 1 v (recB k s b).length (nums8 (recB k s b))) :
    ∃ g c, v = .slice (some ⟨g, 0, none⟩) (recB k s b).length c ∧ (recB k s b).length ≤ c ∧ base ≤ g ∧ U8C w (some ⟨g, 0, none⟩) (k :: (recB k s b).tail) := by
  obtain ⟨A, c, hv, hn, hc, hF, hA⟩ := own_F (ok := fun _ => True) h (fun _ _ => trivial)
  obtain ⟨g, rfl, hg, _⟩ := hA (by unfold recB; simp)
  refine ⟨g, c, hv, hc, hg, ?_⟩
  have e : k :: (recB k s b).tail = recB k s b := by unfold recB; simp
  rw [e]
  exact Kd.F_now hF

theorem ref_laid_any (A0 : Option Addr) (n0 c0 : Nat) (img : List Int) (A1 : Option Addr) (n1 c1 : Nat) (A2 : Option Addr) (n2 c2 : Nat) (g3 n3 c3 : Nat) (k : Int) (r : List Int) (ok : Nat → Prop) (w : World) (hok : ∀ k, w.heap.size ≤ k → ok k) (hi : U8C w A0 img) (h0 : Hid (n0 = img.length)) (hr : U8C w (some ⟨g3, 0, none⟩) (k :: r)) (h3 : Hid (n3 = (k :: r).length)) (h33 : n3 ≤ c3) (hn : Hid (n0 + n3 + 1 ≤ 1048576)) (nn : Nat) (hnn : Hid (nn = (img ++ k :: r).length)) :
    Calls Try.prog 41 #[.agg #[.slice A0 n0 c0, .slice A1 n1 c1], .slice A2 n2 c2, .slice (some ⟨g3, 0, none⟩) n3 c3] w fun e w' => (∃ B d wl, e = .returned (.tuple #[.agg #[.slice B nn d, .slice A2 n2 c2], wl, .int .i64 0]) ∧ nn ≤ d ∧ Kd.F (Kd.int .u8) w' ok B (img ++ k :: r).length (img ++ k :: r) ∧ Wr2 w' w.heap.size wl n0 (0 :: r ++ [0]) [k]) ∧ Below w.heap.size w w' := by
  refine (ref_laid_ok A0 n0 c0 img A1 n1 c1 A2 n2 c2 g3 n3 c3 k r w hi h0 hr h3 h33 (by have := hn.out; omega)).mono ?_
  rintro e w' ⟨⟨vi, wl, rfl, ho, hw⟩, hb⟩
  obtain ⟨B, d, ev, hl, hd, hF, -⟩ := own_F ho hok
  subst ev
  have e := hnn.out
  subst e
  exact ⟨⟨B, d, wl, rfl, hd, hF, hw⟩, hb⟩
theorem RefSt.away {w : World} {ok : Nat → Prop} {A0 : Option Addr} {c0 : Nat} {A1 : Option Addr} {c1 : Nat} {img : List Int} {l : List S99} (h : RefSt w ok A0 c0 A1 c1 img l) (b : Nat) (hb : w.heap.size ≤ b) : RefSt w (fun k => ok k ∧ k ≠ b) A0 c0 A1 c1 img l :=
  ⟨Kd.F_elderB h.fi b hb, h.ci, Kd.F_elderB h.fl b hb, h.cl⟩
theorem RefSt.mono {w : World} {ok ok' : Nat → Prop} {A0 : Option Addr} {c0 : Nat} {A1 : Option Addr} {c1 : Nat} {img : List Int} {l : List S99} (h : RefSt w ok A0 c0 A1 c1 img l) (hk : ∀ k, ok k → ok' k) : RefSt w ok' A0 c0 A1 c1 img l :=
  ⟨Kd.F_mono h.fi hk, h.ci, Kd.F_mono h.fl hk, h.cl⟩
theorem Wr2.step {w w' : World} {base : Nat} {v : Value} {at_ : Int} {xs ys : List Int} (h : Wr2 w base v at_ xs ys) (hk : ∀ k, base ≤ k → k < w.heap.size → w'.heap[k]? = w.heap[k]?) : Wr2 w' base v at_ xs ys := by
  obtain ⟨L, s1, s2, hv, hL, hb, h1, h2, hne⟩ := h
  exact ⟨L, s1, s2, hv, hL, (hk L hL (blk_lt hb)).trans hb, own_step h1 (fun k e => hk k (own_low h1 k e).1 (own_low h1 k e).2), own_step h2 (fun k e => hk k (own_low h2 k e).1 (own_low h2 k e).2), hne⟩
theorem Wr2.low {w : World} {base base' : Nat} {v : Value} {at_ : Int} {xs ys : List Int} (h : Wr2 w base v at_ xs ys) (hb : base' ≤ base) : Wr2 w base' v at_ xs ys := by
  obtain ⟨L, s1, s2, hv, hL, hbl, h1, h2, hne⟩ := h
  exact ⟨L, s1, s2, hv, Nat.le_trans hb hL, hbl, own_drop h1 (fun k e => Nat.le_trans hb (own_low h1 k e).1), own_drop h2 (fun k e => Nat.le_trans hb (own_low h2 k e).1), hne⟩
theorem set2_same {w : World} {b k : Nat} {p q : Value} (h : k ≠ b + 1) : ((w.setCell ⟨b + 1, 0, none⟩ p).setCell ⟨b + 1, 1, none⟩ q).heap[k]? = w.heap[k]? := by
  rw [Below.heap_setCell _ _ _ _ h, Below.heap_setCell _ _ _ _ h]
theorem set2_keep {w : World} {b : Nat} {p q u v : Value} (h0 : w.cell? ⟨b, 0, none⟩ = some u) (h1 : w.cell? ⟨b, 1, none⟩ = some v) :
    ((w.setCell ⟨b + 1, 0, none⟩ p).setCell ⟨b + 1, 1, none⟩ q).cell? ⟨b, 0, none⟩ = some u ∧ ((w.setCell ⟨b + 1, 0, none⟩ p).setCell ⟨b + 1, 1, none⟩ q).cell? ⟨b, 1, none⟩ = some v := by
  refine ⟨?_, ?_⟩
  · rw [World.cell?_setCell_other _ _ _ _ (by simp), World.cell?_setCell_other _ _ _ _ (by simp)]; exact h0
  · rw [World.cell?_setCell_other _ _ _ _ (by simp), World.cell?_setCell_other _ _ _ _ (by simp)]; exact h1
theorem set2_below {w : World} {b : Nat} {p q : Value} : Below b w ((w.setCell ⟨b + 1, 0, none⟩ p).setCell ⟨b + 1, 1, none⟩ q) :=
  ((Below.refl b w).setCell (by simp) p).setCell (by simp) q
theorem BX.two {W : World} {b : Nat} {A0 : Option Addr} {n0 c0 : Nat} {A1 : Option Addr} {n1 c1 : Nat} (h : BX W b A0 n0 c0 A1 n1 c1) : W.cell? ⟨b, 0, none⟩ = some (.slice A0 n0 c0) ∧ W.cell? ⟨b, 1, none⟩ = some (.slice A1 n1 c1) := ⟨h.cells.1, h.cells.2.1⟩

set_option maxRecDepth 100000 in
set_option maxHeartbeats 4000000 in
theorem ref_put_laid (A0 : Option Addr) (n0 c0 : Nat) (A1 : Option Addr) (n1 c1 : Nat) (img : List Int) (l : List S99) (A2 : Option Addr) (n2 c2 : Nat) (b : List Int) (s : ByteArray) (ok : Nat → Prop) (w : World) (hok : ∀ k, w.heap.size ≤ k → ok k)
    (hS : RefSt w ok A0 c0 A1 c1 img l) (hn0 : Hid (n0 = img.length)) (hn1 : Hid (n1 = l.length)) (h1m : n1 ≤ 1000) (hb : U8C w A2 b) (hn2 : Hid (n2 = b.length)) (hs : isNameB s = true) (h24 : s.size ≤ 24) (h4 : n2 ≤ 4096) (t : Bool) (ht : Hid (t = (plc l s).2)) (h16 : t = true ∨ (t = false ∧ ¬ (n1 : Int) = 16))
    (nr : Nat) (hnr : Hid (nr = (recB 1 s b).length)) (h20 : Hid (n0 + nr + 1 ≤ 1048576)) (nn : Nat) (hnn : Hid (nn = (img ++ 1 :: (recB 1 s b).tail).length)) (mi : Nat) (hmi : Hid (mi = (ins l s b).length)) :
    Calls Try.prog 12 #[.agg #[.slice A0 n0 c0, .slice A1 n1 c1], .string s, .slice A2 n2 c2] w fun e w' => (∃ B0 d0 B1 d1 wl, e = .returned (.tuple #[.agg #[.slice B0 nn d0, .slice B1 mi d1], wl, .int .i64 0]) ∧
      RefSt w' ok B0 d0 B1 d1 (img ++ 1 :: (recB 1 s b).tail) (ins l s b) ∧ Wr2 w' w.heap.size wl n0 (0 :: (recB 1 s b).tail ++ [0]) [1]) ∧ Below w.heap.size w w' := by
  have hcall := fun W : World => ref_isName_calls s W
  rw [hs] at hcall
  have HS := Lib.hid hS
  have HBB := Lib.hid hb
  have HOK := Lib.hid hok
  have HP := fun (W : World) (h : Below w.heap.size w W) => place_any A1 c1 l s W (Kd.F_now (HS.out.below h).fl) hS.cl n1 hn1 (by omega)
  rw [← ht.out] at HP
  have hrl := Lib.hid (show nr = (1 :: (recB 1 s b).tail).length by rw [hnr.out]; unfold recB; simp)
  clear hS hb hok
  go_enter Try.func12, Try.ntmps12
  rcases h16 with h16 | ⟨h16, h17⟩
  all_goals subst h16
  all_goals go_wp2_with (first | (go_at_call 39; refine (hcall _).mono ?_; rintro e w' ⟨rfl, ⟨nq, rfl⟩⟩) | (go_at_call 40; refine (HP _ (by (repeat (first | exact Below.refl _ _ | refine pw_below_drewN ?_ _ | refine Below.drew ?_ | refine Below.alloc ?_ (by first | rfl | omega | (simp; done) | (simp; omega)) _ | refine Below.setCell ?_ (by first | rfl | omega | (simp; done) | (simp; omega)) _)))).mono ?_; rintro e w' ⟨rfl, ⟨np, rfl⟩⟩))
  all_goals (
    refine wp_world (fun W => BX W w.heap.size A0 n0 c0 A1 n1 c1 ∧ Below w.heap.size w W) ⟨BX.new w A0 n0 c0 A1 n1 c1, by (repeat (first | exact Below.refl _ _ | refine pw_below_drewN ?_ _ | refine Below.drew ?_ | refine Below.alloc ?_ (by first | rfl | omega | (simp; done) | (simp; omega)) _ | refine Below.setCell ?_ (by first | rfl | omega | (simp; done) | (simp; omega)) _))⟩ ?_
    rintro W ⟨hbx, hbw⟩
    have x := hbx.two
    have HSW := Lib.hid ((HS.out.away (w.heap.size + 1) (by omega)).below hbw)
    have HBW := Lib.hid (Kd.C_below HBB.out hbw)
    have HX := Lib.hid hbx
    have HW := Lib.hid hbw
    have HLE := Lib.hid hbw.size
    generalize hb0 : w.heap.size = b0 at *
    have HB0 := Lib.hid hb0
    clear hb0
    clear hbx hbw HP hcall HBB HS
    go_region_held3 (fun W' => W'.cell? ⟨b0, 0, none⟩ = some (.slice A0 n0 c0) ∧ W'.cell? ⟨b0, 1, none⟩ = some (.slice A1 n1 c1))
      (first | exact x | exact (HX.out.step (fun k hk => Below.heap_alloc W.drew _ k (by have := HX.out.lt; simp; omega))).two | exact set2_keep HX4.out.cells.1 HX4.out.cells.2.1 | exact HX4.out.two | exact HX3.out.two | exact HX2.out.two | exact HX1.out.two)
      (first
        | (refine step_append_u8 rfl (.tmp 39) (.tmp 40) 23 rfl W.heap.size 5 Try.underlying23 info5 _ 0 [] rfl (own_row_at W.drew W.heap.size _ 5 [] 0 rfl rfl (Nat.le_refl _) (by omega)) A2 c2 n2 b rfl hn2.out (Kd.C_below HBW.out start_below') n2 (by have := hn2.out; omega) (by omega) (by simp) ?_; intro v1 w1 ho hg hat; have hb1 := put_copy hg; obtain ⟨B1, d1, ev1, -, hd1, hF1, -⟩ := own_F (ok := fun k => ok k ∧ k ≠ b0 + 1) ho (fun k hk => ⟨HOK.out k (by have := HX.out.lt; omega), by have := HX.out.lt; omega⟩); subst ev1; have HF1 := Lib.hid hF1; have HB1 := Lib.hid hb1; have HX1 := Lib.hid (HX.out.step (fun k hk => hb1.block k (by have := HX.out.lt; omega))); clear ho hg hat hF1 hb1)
        | (go_at_call 42; refine (with_any A1 c1 l n1 s B1 d1 n2 b (fun k => ok k ∧ k ≠ b0 + 1) w1 (fun k hk => ⟨HOK.out k (by have := HX1.out.lt; omega), by have := HX1.out.lt; omega⟩) (HSW.out.below HB1.out).fl HSW.out.cl hn1 h1m HF1.out hd1 hn2 mi hmi).mono ?_; rintro e w2 ⟨⟨B2, d2, rfl, hd2, hF2⟩, hb2⟩; have HF2 := Lib.hid hF2; have HB2 := Lib.hid (HB1.out.trans (hb2.mono HB1.out.size)); have HX2 := Lib.hid (HX1.out.step (fun k hk => hb2.block k (by have := HX1.out.lt; omega))); clear hF2 hb2)
        | (go_at_call 43; refine (ref_record1 s A2 c2 n2 b w2 h24 (Kd.C_below HBW.out HB2.out) hn2 h4).mono ?_; rintro e w3 ⟨⟨v3, rfl, ho3⟩, hb3⟩; obtain ⟨g3, c3, ev3, hc3, hg3, hC3⟩ := rec_form ho3; rw [← hnr.out] at ev3 hc3; subst ev3; have HO3 := Lib.hid ho3; have HC3 := Lib.hid hC3; have HB23 := Lib.hid hb3; have HB3 := Lib.hid (HB2.out.trans (hb3.mono HB2.out.size)); have HX3 := Lib.hid (HX2.out.step (fun k hk => hb3.block k (by have := HX2.out.lt; omega))); clear ho3 hb3 hC3)
        | (go_at_call 41; refine (ref_laid_any A0 n0 c0 img A1 n1 c1 B2 mi d2 g3 nr c3 1 (recB 1 s b).tail (fun k => ok k ∧ k ≠ b0 + 1) w3 (fun k hk => ⟨HOK.out k (by have := HX3.out.lt; omega), by have := HX3.out.lt; omega⟩) (Kd.F_now (HSW.out.below HB3.out).fi) hn0 HC3.out hrl hc3 h20 nn hnn).mono ?_; rintro e w4 ⟨⟨B4, d4, wl, rfl, hd4, hF4, hwr4⟩, hb4⟩; have HF4 := Lib.hid hF4; have HWR4 := Lib.hid hwr4; have HB34 := Lib.hid hb4; have HB4 := Lib.hid (HB3.out.trans (hb4.mono HB3.out.size)); have hx4 := HX3.out.step (fun k hk => hb4.block k (by have := HX3.out.lt; omega)); have HX4 := Lib.hid hx4; obtain ⟨-, -, z2, z3, z4, z5⟩ := hx4.cells; clear hwr4 hb4 hF4 hx4))
    have x4 := set2_keep (p := .slice B4 nn d4) (q := .slice B2 mi d2) HX4.out.cells.1 HX4.out.cells.2.1
    have hq := (blk_set ((blk_set HX4.out.2 0 (.slice B4 nn d4)).trans rfl) 1 (.slice B2 mi d2)).trans rfl
    have hbl := set2_below (w := w4) (b := b0) (p := .slice B4 nn d4) (q := .slice B2 mi d2)
    refine exit_world (fun W5 => W5.cell? ⟨b0 + 1, 0, none⟩ = some (.slice B4 nn d4) ∧ W5.cell? ⟨b0 + 1, 1, none⟩ = some (.slice B2 mi d2) ∧ RefSt W5 ok B4 d4 B2 d2 (img ++ 1 :: (recB 1 s b).tail) (ins l s b) ∧ Wr2 W5 b0 wl n0 (0 :: (recB 1 s b).tail ++ [0]) [1] ∧ Below b0 w W5)
      ⟨(blk_cell hq 0).trans rfl, (blk_cell hq 1).trans rfl, ?_, ?_, (HW.out.trans (HB4.out.mono HLE.out)).trans hbl⟩ ?_
    · have h24 : Below w2.heap.size w2 w4 := HB23.out.trans (HB34.out.mono HB23.out.size)
      exact ⟨Kd.F_mono (Kd.F_step HF4.out (fun k hk _ => set2_same hk.2)) (fun k hk => hk.1), by rw [← hnn.out]; exact hd4, Kd.F_mono (Kd.F_step (Kd.F_below HF2.out h24) (fun k hk _ => set2_same hk.2)) (fun k hk => hk.1), by rw [← hmi.out]; exact hd2⟩
    · exact (HWR4.out.step (fun k hk _ => set2_same (by have := HX3.out.lt; omega))).low (by have := HX3.out.lt; omega)
    rintro W5 ⟨u0, u1, hS5, hWr5, hB5⟩
    have HS5 := Lib.hid hS5
    have HWr5 := Lib.hid hWr5
    have HB5 := Lib.hid hB5
    clear hS5 hWr5 hB5 x4 hq hbl
    go_wp2_with fail
    refine bodyPost_ret (by simp [results, Try.results12, go_sem, u0, u1]; try rfl) rfl ?_
    rw [HB0.out]
    exact ⟨⟨_, _, _, _, _, rfl, HS5.out, HWr5.out⟩, HB5.out⟩)

end Go.Proofs.Ytcjniogdjbplbaa

/-! St3 -/
namespace Go.Proofs.Ytcjniogdjbplbaa
open Mem Go.RowKit Go.Proofs.YtcjniogdjbplbaaW.PrintWords Go.Proofs.YtcjniogdjbplbaaW.PrintLast Go.Proofs.YtcjniogdjbplbaaW.PrintMore PStorePlays
variable {X : Nat → Prop}

/-- Behind a record that was laid: the store's block, its image; all else is as it was. -/
structure Laid (w w' : World) (g M : Nat) (vi vi' : Value) (img : List Int) : Prop where
  blk : w'.heap[g]? = some (.cells #[vi', .map (some M), .bool true] 77 (0, 0))
  own : w'.ownsRow 0 5 1 vi' img.length (nums8 img)
  chg : Chg (fun k => k = g ∨ vi.ownBlock = some k) w w'
  at_ : vi'.ownBlock = vi.ownBlock ∨ ∃ k, vi'.ownBlock = some k ∧ w.heap.size ≤ k

theorem laid_row1 (s : ByteArray) (b : List Int) (n : Nat) (hn : n = b.length) : ([] ++ [((0 : Nat) : Int)] ++ ((s.size : Int) :: bts s)) ++ ([(n : Int) / 256, (n : Int) % 256] ++ b) = 0 :: (recB 1 s b).tail := by
  subst hn
  simp [recB]
theorem laid_row2 (s : ByteArray) : ([] ++ [((0 : Nat) : Int)] ++ ((s.size : Int) :: bts s)) = 0 :: (recB 2 s []).tail := by
  simp [recB]
theorem laid_old {w w4 w7 : World} {g : Nat} {o : Obj} {a b c : Obj} (hb : Below w.heap.size w w4) (hg : (((w4.alloc a).alloc b).alloc c).grownBy w7 (some (w4.heap.size + 1))) (hl : g < w.heap.size) (h : w.heap[g]? = some o) : w7.heap[g]? = some o := by
  have hlt : g < w4.heap.size := Nat.lt_of_lt_of_le hl hb.size
  rw [hg.block g (by simp; omega) (by simp; omega), Below.heap_alloc _ _ _ (by simp; omega), Below.heap_alloc _ _ _ (by simp; omega), Below.heap_alloc _ _ _ hlt, hb.block g hl, h]
theorem laid_blk {w W w9 : World} {g M : Nat} {vi : Value} {img : List Int} {l : List S99} (h : StAt X w g M vi img l) (hb : Below w.heap.size w W) (hg : W.grownBy w9 vi.ownBlock) : w9.heap[g]? = some (.cells #[vi, .map (some M), .bool true] 77 (0, 0)) := by
  have hne := own_ne h.own h.blk (by decide)
  have hl := blk_lt h.blk
  rw [hg.block g (Nat.lt_of_lt_of_le hl hb.size) (fun e => hne e.symm), hb.block g hl, h.blk]

set_option maxRecDepth 100000 in
set_option maxHeartbeats 4000000 in
theorem laid_put_over (g M : Nat) (vi : Value) (img : List Int) (l : List S99) (s : ByteArray) (q : Nat) (A : Option Addr) (c n : Nat) (b : List Int) (w : World) (h : StAt X w g M vi img l) (hs : isNameB s = true) (h24 : s.size ≤ 24)
    (hq : w.heap[q]? = some (.cells #[.slice A n c] 23 (0, 0))) (hb : U8C w A b) (hn : Hid (n = b.length)) (h4 : n ≤ 4096) (nr : Nat) (hnr : Hid (nr = (recB 1 s b).length)) (n0 : Nat) (hn0 : Hid (n0 = img.length)) (h20 : Hid (n0 + nr + 1 > 1048576)) :
    Calls Try.prog 34 #[.pointer (some ⟨g, 0, none⟩), .int .u8 1, .string s, .func (.func 35) #[] #[.pointer (some ⟨q, 0, none⟩)]] w fun e w' => e = .returned (.tuple #[.slice none 0 0, .int .i64 7]) ∧ Below w.heap.size w w' := by
  have HH := Lib.hid h
  have HI := Lib.hid (show n0 ≤ 1048576 by rw [hn0.out]; exact h.room)
  have HNR := Lib.hid (show nr = (0 :: (recB 1 s b).tail).length by rw [hnr.out]; unfold recB; simp)
  have HNR2 := Lib.hid (show nr ≤ 5000 by have := hn.out; have := hnr.out; rw [recB_len] at this; simp at this; omega)
  have hnr0 : 0 < nr := by have := HNR.out; simp at this; omega
  have hcmp : (1048576 : Int) - n0 ≤ nr := by have := h20.out; omega
  have hwr : wrap64 ((1048576 : Int) - n0) = 1048576 - n0 := by have := HI.out; unfold wrap64; omega
  have HQ := Lib.hid hq
  have HBB := Lib.hid hb
  have hqb := Lib.hid (blk_lt hq)
  have hab := Lib.hid (show ∀ ad, A = some ad → 0 < b.length → ad.block < w.heap.size from fun ad e hp => C_lt' (e ▸ hb) hp)
  obtain ⟨Av, cv, ev, hcv⟩ := own_shape' h.own
  rw [← hn0.out] at ev
  have HAV := Lib.hid (own_low h.own)
  subst ev
  clear h hq hb
  go_enter Try.func34, Try.ntmps34
  go_wp2_with (first
    | (go_at_call 59; refine (wr_new w).mono ?_; rintro e w1 ⟨rfl, hw1, hb1⟩; have HW1 := Lib.hid hw1; have HB1 := Lib.hid hb1; clear hw1 hb1)
    | (go_at_call 60; refine (wr_Byte w.heap.size w.heap.size _ _ 0 w1 HW1.out (by omega) (by simp) HB1.out.size).mono ?_; rintro e w2 ⟨rfl, ⟨v2, hw2⟩, hb2⟩; have HW2 := Lib.hid hw2; have HB2 := Lib.hid (HB1.out.trans hb2); clear hw2 hb2)
    | (go_at_call 61; refine (wr_Name w.heap.size w.heap.size v2 _ s w2 HW2.out hs h24 (by simp) HB2.out.size).mono ?_; rintro e w3 ⟨rfl, ⟨v3, hw3⟩, hb3⟩; have HW3 := Lib.hid hw3; have HB3 := Lib.hid (HB2.out.trans hb3); clear hw3 hb3)
    | (go_at_call 35; refine (put1_any w.heap.size w.heap.size v3 _ q A c n b w3 HW3.out ((HB3.out.block q hqb.out).trans HQ.out) hqb.out (Kd.C_below HBB.out HB3.out) hab.out hn (by omega) (by have := hn.out; simp [bts_len]; omega) HB3.out.size).mono ?_; rintro e w4 ⟨rfl, ⟨v4, hw4⟩, hb4⟩; rw [laid_row1 s b n hn.out] at hw4; have HW4 := Lib.hid hw4; have HB4 := Lib.hid (HB3.out.trans hb4); have hx4 : w4.cell? ⟨g, 0, none⟩ = some (.slice Av n0 cv) := (blk_cell ((HB4.out.block g (blk_lt HH.out.blk)).trans HH.out.blk) 0).trans rfl; have hl4 : g < w4.heap.size := Nat.lt_of_lt_of_le (blk_lt HH.out.blk) HB4.out.size; have hl4' : g < w4.heap.size + 1 := Nat.lt_succ_of_lt hl4; have hl4'' : g < w4.heap.size + 1 + 1 := Nat.lt_succ_of_lt hl4'; clear hw4 hb4)
    | (go_at_call 62; refine (wr_Bytes_n w.heap.size w.heap.size _ (0 :: (recB 1 s b).tail) nr HNR w4 HW4.out).mono ?_; rintro e w5 ⟨rfl, rfl⟩))
  go_ret2
  exact ⟨rfl, HB4.out.trans (start_below.mono HB4.out.size)⟩

set_option maxRecDepth 100000 in
set_option maxHeartbeats 4000000 in
theorem laid_drop_over (g M : Nat) (vi : Value) (img : List Int) (l : List S99) (s : ByteArray) (w : World) (h : StAt X w g M vi img l) (hs : isNameB s = true) (h24 : s.size ≤ 24)
    (nr : Nat) (hnr : Hid (nr = (recB 2 s []).length)) (n0 : Nat) (hn0 : Hid (n0 = img.length)) (h20 : Hid (n0 + nr + 1 > 1048576)) :
    Calls Try.prog 34 #[.pointer (some ⟨g, 0, none⟩), .int .u8 2, .string s, .func (.func 66) #[] #[]] w fun e w' => e = .returned (.tuple #[.slice none 0 0, .int .i64 7]) ∧ Below w.heap.size w w' := by
  have HH := Lib.hid h
  have HI := Lib.hid (show n0 ≤ 1048576 by rw [hn0.out]; exact h.room)
  have HNR := Lib.hid (show nr = (0 :: (recB 2 s []).tail).length by rw [hnr.out]; unfold recB; simp)
  have HNR2 := Lib.hid (show nr ≤ 5000 by have := hnr.out; rw [recB_len] at this; simp at this; omega)
  have hnr0 : 0 < nr := by have := HNR.out; simp at this; omega
  have hcmp : (1048576 : Int) - n0 ≤ nr := by have := h20.out; omega
  have hwr : wrap64 ((1048576 : Int) - n0) = 1048576 - n0 := by have := HI.out; unfold wrap64; omega
  obtain ⟨Av, cv, ev, hcv⟩ := own_shape' h.own
  rw [← hn0.out] at ev
  have HAV := Lib.hid (own_low h.own)
  subst ev
  clear h
  go_enter Try.func34, Try.ntmps34
  go_wp2_with (first
    | (go_at_call 59; refine (wr_new w).mono ?_; rintro e w1 ⟨rfl, hw1, hb1⟩; have HW1 := Lib.hid hw1; have HB1 := Lib.hid hb1; clear hw1 hb1)
    | (go_at_call 60; refine (wr_Byte w.heap.size w.heap.size _ _ 0 w1 HW1.out (by omega) (by simp) HB1.out.size).mono ?_; rintro e w2 ⟨rfl, ⟨v2, hw2⟩, hb2⟩; have HW2 := Lib.hid hw2; have HB2 := Lib.hid (HB1.out.trans hb2); clear hw2 hb2)
    | (go_at_call 61; refine (wr_Name w.heap.size w.heap.size v2 _ s w2 HW2.out hs h24 (by simp) HB2.out.size).mono ?_; rintro e w3 ⟨rfl, ⟨v3, hw3⟩, hb3⟩; have HW3 := Lib.hid hw3; have HB3 := Lib.hid (HB2.out.trans hb3); clear hw3 hb3)
    | (go_at_call 66; refine (drop1_any _ w3).mono ?_; rintro e w4 ⟨rfl, hw4⟩; have hw5 := HW3.out; rw [hw4] at hw5; rw [laid_row2 s] at hw5; have HW4 := Lib.hid hw5; have HB4 := Lib.hid (show Below w.heap.size w w4 by rw [← hw4]; exact HB3.out); have hx4 : w4.cell? ⟨g, 0, none⟩ = some (.slice Av n0 cv) := (blk_cell ((HB4.out.block g (blk_lt HH.out.blk)).trans HH.out.blk) 0).trans rfl; have hl4 : g < w4.heap.size := Nat.lt_of_lt_of_le (blk_lt HH.out.blk) HB4.out.size; have hl4' : g < w4.heap.size + 1 := Nat.lt_succ_of_lt hl4; have hl4'' : g < w4.heap.size + 1 + 1 := Nat.lt_succ_of_lt hl4'; clear hw4 hw5)
    | (go_at_call 62; refine (wr_Bytes_n w.heap.size w.heap.size _ (0 :: (recB 2 s []).tail) nr HNR w4 HW4.out).mono ?_; rintro e w5 ⟨rfl, rfl⟩))
  go_ret2
  exact ⟨rfl, HB4.out.trans (start_below.mono HB4.out.size)⟩

set_option maxRecDepth 100000 in
set_option maxHeartbeats 4000000 in
theorem laid_put (g M : Nat) (vi : Value) (img : List Int) (l : List S99) (s : ByteArray) (q : Nat) (A : Option Addr) (c n : Nat) (b : List Int) (w : World) (h : StAt X w g M vi img l) (hs : isNameB s = true) (h24 : s.size ≤ 24)
    (hq : w.heap[q]? = some (.cells #[.slice A n c] 23 (0, 0))) (hb : U8C w A b) (hn : Hid (n = b.length)) (h4 : n ≤ 4096) (nr : Nat) (hnr : Hid (nr = (recB 1 s b).length)) (n0 : Nat) (hn0 : Hid (n0 = img.length)) (h20 : Hid (n0 + nr + 1 ≤ 1048576)) :
    Calls Try.prog 34 #[.pointer (some ⟨g, 0, none⟩), .int .u8 1, .string s, .func (.func 35) #[] #[.pointer (some ⟨q, 0, none⟩)]] w fun e w' => (∃ wl vi', e = .returned (.tuple #[wl, .int .i64 0]) ∧ Laid w w' g M vi vi' (img ++ 1 :: (recB 1 s b).tail) ∧ Wr2 w' w.heap.size wl n0 (0 :: (recB 1 s b).tail ++ [0]) [1]) := by
  have HH := Lib.hid h
  have HI := Lib.hid (show n0 ≤ 1048576 by rw [hn0.out]; exact h.room)
  have HNR := Lib.hid (show nr = (0 :: (recB 1 s b).tail).length by rw [hnr.out]; unfold recB; simp)
  have HNR2 := Lib.hid (show nr ≤ 5000 by have := hn.out; have := hnr.out; rw [recB_len] at this; simp at this; omega)
  have hnr0 : 0 < nr := by have := HNR.out; simp at this; omega
  have hcmp : ¬ ((1048576 : Int) - n0 ≤ nr) := by have := h20.out; omega
  have hwr : wrap64 ((1048576 : Int) - n0) = 1048576 - n0 := by have := HI.out; unfold wrap64; omega
  have HQ := Lib.hid hq
  have HBB := Lib.hid hb
  have hqb := Lib.hid (blk_lt hq)
  have hab := Lib.hid (show ∀ ad, A = some ad → 0 < b.length → ad.block < w.heap.size from fun ad e hp => C_lt' (e ▸ hb) hp)
  obtain ⟨Av, cv, ev, hcv⟩ := own_shape' h.own
  rw [← hn0.out] at ev
  have HAV := Lib.hid (own_low h.own)
  subst ev
  clear h hq hb
  go_enter Try.func34, Try.ntmps34
  go_wp2_with (first
    | (go_at_call 59; refine (wr_new w).mono ?_; rintro e w1 ⟨rfl, hw1, hb1⟩; have HW1 := Lib.hid hw1; have HB1 := Lib.hid hb1; clear hw1 hb1)
    | (go_at_call 60; refine (wr_Byte w.heap.size w.heap.size _ _ 0 w1 HW1.out (by omega) (by simp) HB1.out.size).mono ?_; rintro e w2 ⟨rfl, ⟨v2, hw2⟩, hb2⟩; have HW2 := Lib.hid hw2; have HB2 := Lib.hid (HB1.out.trans hb2); clear hw2 hb2)
    | (go_at_call 61; refine (wr_Name w.heap.size w.heap.size v2 _ s w2 HW2.out hs h24 (by simp) HB2.out.size).mono ?_; rintro e w3 ⟨rfl, ⟨v3, hw3⟩, hb3⟩; have HW3 := Lib.hid hw3; have HB3 := Lib.hid (HB2.out.trans hb3); clear hw3 hb3)
    | (go_at_call 35; refine (put1_any w.heap.size w.heap.size v3 _ q A c n b w3 HW3.out ((HB3.out.block q hqb.out).trans HQ.out) hqb.out (Kd.C_below HBB.out HB3.out) hab.out hn (by omega) (by have := hn.out; simp [bts_len]; omega) HB3.out.size).mono ?_; rintro e w4 ⟨rfl, ⟨v4, hw4⟩, hb4⟩; rw [laid_row1 s b n hn.out] at hw4; have HW4 := Lib.hid hw4; have HB4 := Lib.hid (HB3.out.trans hb4); have hx4 : w4.cell? ⟨g, 0, none⟩ = some (.slice Av n0 cv) := (blk_cell ((HB4.out.block g (blk_lt HH.out.blk)).trans HH.out.blk) 0).trans rfl; have hl4 : g < w4.heap.size := Nat.lt_of_lt_of_le (blk_lt HH.out.blk) HB4.out.size; have hl4' : g < w4.heap.size + 1 := Nat.lt_succ_of_lt hl4; have hl4'' : g < w4.heap.size + 1 + 1 := Nat.lt_succ_of_lt hl4'; clear hw4 hb4)
    | (go_at_call 62; refine (wr_Bytes_n w.heap.size w.heap.size _ (0 :: (recB 1 s b).tail) nr HNR w4 HW4.out).mono ?_; rintro e w5 ⟨rfl, rfl⟩)
    | (go_at_call 38; refine (cloned_any (some ⟨w4.heap.size, 0, none⟩) nr nr (0 :: (recB 1 s b).tail) (w4.alloc (.cells (u8row (0 :: (recB 1 s b).tail)) 5)) (u8row_C w4 _ (by have := HNR.out; have := HNR2.out; omega)) HNR (by have := HNR2.out; omega)).mono ?_; rintro e w6 ⟨rfl, rfl⟩)
    | (at_builtin; refine wpList_append_u8n rfl (.tmp 37) (.tmp 38) 23 rfl w.heap.size 5 Try.underlying23 info5 _ nr (0 :: (recB 1 s b).tail) rfl (own_step (own_row_at (w4.alloc (.cells (u8row (0 :: (recB 1 s b).tail)) 5)) w.heap.size _ 5 (0 :: (recB 1 s b).tail) nr HNR.out.symm (by (first | rfl | omega | (simp; done) | (simp; omega))) (by have := HB4.out.size; simp; omega) (by have := HNR2.out; omega)) (fun k hk => Below.heap_alloc _ _ _ (by injection hk with hk; subst hk; simp))) _ _ _ [0] rfl rfl (C_row_at _ _ 5 [0] (by (first | rfl | omega | (simp; done) | (simp; omega))) (by simp)) (nr + 1) rfl (by have := HNR2.out; omega) (by have := HB4.out.size; simp; omega) ?_; intro v7 w7 ho hg hat; obtain ⟨z0, zf, zl, zl1, ha, hC, hWr, hbl⟩ := laid_mid (n0 := n0) (kind := 1) HB4.out HNR.out hg ho (hat.elim (fun h => .inl h) (fun h => .inr (h.trans (by simp)))); have x7 : w7.cell? ⟨g, 0, none⟩ = some (.slice Av n0 cv) := (blk_cell (laid_old HB4.out hg (blk_lt HH.out.blk) HH.out.blk) 0).trans rfl; have hl7 : g < w7.heap.size := Nat.lt_trans hl4 zl; have hl7' : g < w7.heap.size + 1 := Nat.lt_succ_of_lt hl7; have hgr : ¬ g = w4.heap.size := Nat.ne_of_lt hl4; have hrg : ¬ w4.heap.size = g := fun e => hgr e.symm; have hv7 := own_shape ho; obtain ⟨A7, c7, ev7, hc7⟩ := hv7; subst ev7; have HA := Lib.hid ha; have HC := Lib.hid hC; have HWR := Lib.hid hWr; have HBL := Lib.hid hbl; clear ho hg hat ha hC hWr hbl)
    | (at_builtin; refine wpList_append_u8n rfl (.tmp 53) (.tmp 54) 23 rfl 0 5 Try.underlying23 info5 _ n0 img rfl (by have h0 := HH.out.own; rw [← hn0.out] at h0; exact own_step h0 (fun k hk => HBL.out.block k (HAV.out k hk).2)) (some ⟨w4.heap.size, 0, none⟩) nr nr (1 :: (recB 1 s b).tail) rfl (by have := HNR.out; simpa using this) HC.out (n0 + nr) (by have := HNR.out; simp at *; omega) (by have := HI.out; have := HNR2.out; omega) (Nat.zero_le _) ?_; intro v9 w9 ho hg hat; have hb9 := laid_blk HH.out HBL.out hg; have c9 : w9.cell? ⟨g, 0, none⟩ = some (.slice Av n0 cv) := (blk_cell hb9 0).trans rfl; have f9 : w9.frozen? ⟨g, 0, none⟩ = false := blk_frozen hb9 0; obtain ⟨A9, d9, ev9, hd9⟩ := own_shape ho; subst ev9; have HO9 := Lib.hid ho; have HG9 := Lib.hid hg; have HAT9 := Lib.hid hat; have HB9 := Lib.hid hb9; clear ho hg hat hb9))
  go_ret2
  have hne := own_ne HO9.out HB9.out (by decide)
  have el : (img ++ 1 :: (recB 1 s b).tail).length = n0 + nr := by have := HNR.out; have := hn0.out; simp at *; omega
  refine ⟨_, _, rfl, ⟨(blk_set HB9.out 0 _).trans rfl, ?_, ?_, ?_⟩, ?_⟩
  · rw [el]
    exact own_step HO9.out (fun k hk => Below.heap_setCell _ _ _ _ (fun e => hne (by rw [hk, e])))
  · exact ((Chg.of_below HBL.out).trans (Chg.of_grown HG9.out (fun k e => .inr e))).trans (Chg.set _ _ _ (.inl rfl))
  · exact HAT9.out.elim (fun e => .inl e) (fun e => .inr ⟨_, e, HBL.out.size⟩)
  · refine (HWR.out.step (fun k hk hlt => ?_)).low (by have := HB4.out.size; omega)
    have h4 := HB4.out.size
    rw [Below.heap_setCell _ _ _ _ (by have := blk_lt HH.out.blk; simp; omega)]
    exact HG9.out.block k hlt (fun e => by have := (HAV.out k e.symm).2; omega)

set_option maxRecDepth 100000 in
set_option maxHeartbeats 4000000 in
theorem laid_drop (g M : Nat) (vi : Value) (img : List Int) (l : List S99) (s : ByteArray) (w : World) (h : StAt X w g M vi img l) (hs : isNameB s = true) (h24 : s.size ≤ 24)
    (nr : Nat) (hnr : Hid (nr = (recB 2 s []).length)) (n0 : Nat) (hn0 : Hid (n0 = img.length)) (h20 : Hid (n0 + nr + 1 ≤ 1048576)) :
    Calls Try.prog 34 #[.pointer (some ⟨g, 0, none⟩), .int .u8 2, .string s, .func (.func 66) #[] #[]] w fun e w' => (∃ wl vi', e = .returned (.tuple #[wl, .int .i64 0]) ∧ Laid w w' g M vi vi' (img ++ 2 :: (recB 2 s []).tail) ∧ Wr2 w' w.heap.size wl n0 (0 :: (recB 2 s []).tail ++ [0]) [2]) := by
  have HH := Lib.hid h
  have HI := Lib.hid (show n0 ≤ 1048576 by rw [hn0.out]; exact h.room)
  have HNR := Lib.hid (show nr = (0 :: (recB 2 s []).tail).length by rw [hnr.out]; unfold recB; simp)
  have HNR2 := Lib.hid (show nr ≤ 5000 by have := hnr.out; rw [recB_len] at this; simp at this; omega)
  have hnr0 : 0 < nr := by have := HNR.out; simp at this; omega
  have hcmp : ¬ ((1048576 : Int) - n0 ≤ nr) := by have := h20.out; omega
  have hwr : wrap64 ((1048576 : Int) - n0) = 1048576 - n0 := by have := HI.out; unfold wrap64; omega
  obtain ⟨Av, cv, ev, hcv⟩ := own_shape' h.own
  rw [← hn0.out] at ev
  have HAV := Lib.hid (own_low h.own)
  subst ev
  clear h
  go_enter Try.func34, Try.ntmps34
  go_wp2_with (first
    | (go_at_call 59; refine (wr_new w).mono ?_; rintro e w1 ⟨rfl, hw1, hb1⟩; have HW1 := Lib.hid hw1; have HB1 := Lib.hid hb1; clear hw1 hb1)
    | (go_at_call 60; refine (wr_Byte w.heap.size w.heap.size _ _ 0 w1 HW1.out (by omega) (by simp) HB1.out.size).mono ?_; rintro e w2 ⟨rfl, ⟨v2, hw2⟩, hb2⟩; have HW2 := Lib.hid hw2; have HB2 := Lib.hid (HB1.out.trans hb2); clear hw2 hb2)
    | (go_at_call 61; refine (wr_Name w.heap.size w.heap.size v2 _ s w2 HW2.out hs h24 (by simp) HB2.out.size).mono ?_; rintro e w3 ⟨rfl, ⟨v3, hw3⟩, hb3⟩; have HW3 := Lib.hid hw3; have HB3 := Lib.hid (HB2.out.trans hb3); clear hw3 hb3)
    | (go_at_call 66; refine (drop1_any _ w3).mono ?_; rintro e w4 ⟨rfl, hw4⟩; have hw5 := HW3.out; rw [hw4] at hw5; rw [laid_row2 s] at hw5; have HW4 := Lib.hid hw5; have HB4 := Lib.hid (show Below w.heap.size w w4 by rw [← hw4]; exact HB3.out); have hx4 : w4.cell? ⟨g, 0, none⟩ = some (.slice Av n0 cv) := (blk_cell ((HB4.out.block g (blk_lt HH.out.blk)).trans HH.out.blk) 0).trans rfl; have hl4 : g < w4.heap.size := Nat.lt_of_lt_of_le (blk_lt HH.out.blk) HB4.out.size; have hl4' : g < w4.heap.size + 1 := Nat.lt_succ_of_lt hl4; have hl4'' : g < w4.heap.size + 1 + 1 := Nat.lt_succ_of_lt hl4'; clear hw4 hw5)
    | (go_at_call 62; refine (wr_Bytes_n w.heap.size w.heap.size _ (0 :: (recB 2 s []).tail) nr HNR w4 HW4.out).mono ?_; rintro e w5 ⟨rfl, rfl⟩)
    | (go_at_call 38; refine (cloned_any (some ⟨w4.heap.size, 0, none⟩) nr nr (0 :: (recB 2 s []).tail) (w4.alloc (.cells (u8row (0 :: (recB 2 s []).tail)) 5)) (u8row_C w4 _ (by have := HNR.out; have := HNR2.out; omega)) HNR (by have := HNR2.out; omega)).mono ?_; rintro e w6 ⟨rfl, rfl⟩)
    | (at_builtin; refine wpList_append_u8n rfl (.tmp 37) (.tmp 38) 23 rfl w.heap.size 5 Try.underlying23 info5 _ nr (0 :: (recB 2 s []).tail) rfl (own_step (own_row_at (w4.alloc (.cells (u8row (0 :: (recB 2 s []).tail)) 5)) w.heap.size _ 5 (0 :: (recB 2 s []).tail) nr HNR.out.symm (by (first | rfl | omega | (simp; done) | (simp; omega))) (by have := HB4.out.size; simp; omega) (by have := HNR2.out; omega)) (fun k hk => Below.heap_alloc _ _ _ (by injection hk with hk; subst hk; simp))) _ _ _ [0] rfl rfl (C_row_at _ _ 5 [0] (by (first | rfl | omega | (simp; done) | (simp; omega))) (by simp)) (nr + 1) rfl (by have := HNR2.out; omega) (by have := HB4.out.size; simp; omega) ?_; intro v7 w7 ho hg hat; obtain ⟨z0, zf, zl, zl1, ha, hC, hWr, hbl⟩ := laid_mid (n0 := n0) (kind := 2) HB4.out HNR.out hg ho (hat.elim (fun h => .inl h) (fun h => .inr (h.trans (by simp)))); have x7 : w7.cell? ⟨g, 0, none⟩ = some (.slice Av n0 cv) := (blk_cell (laid_old HB4.out hg (blk_lt HH.out.blk) HH.out.blk) 0).trans rfl; have hl7 : g < w7.heap.size := Nat.lt_trans hl4 zl; have hl7' : g < w7.heap.size + 1 := Nat.lt_succ_of_lt hl7; have hgr : ¬ g = w4.heap.size := Nat.ne_of_lt hl4; have hrg : ¬ w4.heap.size = g := fun e => hgr e.symm; have hv7 := own_shape ho; obtain ⟨A7, c7, ev7, hc7⟩ := hv7; subst ev7; have HA := Lib.hid ha; have HC := Lib.hid hC; have HWR := Lib.hid hWr; have HBL := Lib.hid hbl; clear ho hg hat ha hC hWr hbl)
    | (at_builtin; refine wpList_append_u8n rfl (.tmp 53) (.tmp 54) 23 rfl 0 5 Try.underlying23 info5 _ n0 img rfl (by have h0 := HH.out.own; rw [← hn0.out] at h0; exact own_step h0 (fun k hk => HBL.out.block k (HAV.out k hk).2)) (some ⟨w4.heap.size, 0, none⟩) nr nr (2 :: (recB 2 s []).tail) rfl (by have := HNR.out; simpa using this) HC.out (n0 + nr) (by have := HNR.out; simp at *; omega) (by have := HI.out; have := HNR2.out; omega) (Nat.zero_le _) ?_; intro v9 w9 ho hg hat; have hb9 := laid_blk HH.out HBL.out hg; have c9 : w9.cell? ⟨g, 0, none⟩ = some (.slice Av n0 cv) := (blk_cell hb9 0).trans rfl; have f9 : w9.frozen? ⟨g, 0, none⟩ = false := blk_frozen hb9 0; obtain ⟨A9, d9, ev9, hd9⟩ := own_shape ho; subst ev9; have HO9 := Lib.hid ho; have HG9 := Lib.hid hg; have HAT9 := Lib.hid hat; have HB9 := Lib.hid hb9; clear ho hg hat hb9))
  go_ret2
  have hne := own_ne HO9.out HB9.out (by decide)
  have el : (img ++ 2 :: (recB 2 s []).tail).length = n0 + nr := by have := HNR.out; have := hn0.out; simp at *; omega
  refine ⟨_, _, rfl, ⟨(blk_set HB9.out 0 _).trans rfl, ?_, ?_, ?_⟩, ?_⟩
  · rw [el]
    exact own_step HO9.out (fun k hk => Below.heap_setCell _ _ _ _ (fun e => hne (by rw [hk, e])))
  · exact ((Chg.of_below HBL.out).trans (Chg.of_grown HG9.out (fun k e => .inr e))).trans (Chg.set _ _ _ (.inl rfl))
  · exact HAT9.out.elim (fun e => .inl e) (fun e => .inr ⟨_, e, HBL.out.size⟩)
  · refine (HWR.out.step (fun k hk hlt => ?_)).low (by have := HB4.out.size; omega)
    have h4 := HB4.out.size
    rw [Below.heap_setCell _ _ _ _ (by have := blk_lt HH.out.blk; simp; omega)]
    exact HG9.out.block k hlt (fun e => by have := (HAV.out k e.symm).2; omega)

end Go.Proofs.Ytcjniogdjbplbaa

/-! St4 -/
namespace Go.Proofs.Ytcjniogdjbplbaa
open Mem Go.RowKit Go.Proofs.YtcjniogdjbplbaaW.PrintWords Go.Proofs.YtcjniogdjbplbaaW.PrintLast Go.Proofs.YtcjniogdjbplbaaW.PrintMore PStorePlays
variable {X : Nat → Prop}

theorem st_name (g M : Nat) (vi : Value) (img : List Int) (l : List S99) (s : ByteArray) (p : Option Addr) (n c : Nat) (w : World) (h : StAt X w g M vi img l) (hs : isNameB s = false) (hm : s.size ≤ maxLen) :
    Calls Try.prog 10 #[.pointer (some ⟨g, 0, none⟩), .string s, .slice p n c] w fun e w' => e = .returned (.tuple #[.slice none 0 0, .int .i64 6]) ∧ Below w.heap.size w w' := by
  have h1 := h.step (start_below (w := w) (o := .cells #[.slice p n c] 23))
  obtain ⟨v, hrun, hg⟩ := h1.map.lookup s hm
  have hcall := fun W : World => wire_isName_calls s W
  rw [hs] at hcall
  have c1 : (w.alloc (.cells #[.slice p n c] 23)).cell? ⟨g, 1, none⟩ = some (.map (some M)) := (blk_cell h1.blk 1).trans rfl
  have HB := Lib.hid h1.blk
  clear h h1 hg hm
  go_enter Try.func10, Try.ntmps10
  go_wp2_with (first | (go_at_call 32; refine (st_ready g _ _ _ HB.out).mono ?_; rintro e w' ⟨rfl, rfl⟩) | (go_at_call 33; refine (hcall _).mono ?_; rintro e w' ⟨rfl, ⟨nq, rfl⟩⟩))
  go_ret2
  exact ⟨rfl, by (repeat (first | exact Below.refl _ _ | refine pw_below_drewN ?_ _ | refine Below.drew ?_ | refine Below.alloc ?_ (by first | rfl | omega | (simp; done) | (simp; omega)) _ | refine Below.setCell ?_ (by first | rfl | omega | (simp; done) | (simp; omega)) _))⟩
set_option maxRecDepth 100000 in
theorem st_long (g M : Nat) (vi : Value) (img : List Int) (l : List S99) (s : ByteArray) (p : Option Addr) (n c : Nat) (w : World) (h : StAt X w g M vi img l) (hs : isNameB s = true) (hm : s.size ≤ maxLen) (h4 : 4096 < n) :
    Calls Try.prog 10 #[.pointer (some ⟨g, 0, none⟩), .string s, .slice p n c] w fun e w' => e = .returned (.tuple #[.slice none 0 0, .int .i64 4]) ∧ Below w.heap.size w w' := by
  have h1 := h.step (start_below (w := w) (o := .cells #[.slice p n c] 23))
  obtain ⟨v, hrun, hg⟩ := h1.map.lookup s hm
  have hcall := fun W : World => wire_isName_calls s W
  rw [hs] at hcall
  have c1 : (w.alloc (.cells #[.slice p n c] 23)).cell? ⟨g, 1, none⟩ = some (.map (some M)) := (blk_cell h1.blk 1).trans rfl
  have HB := Lib.hid h1.blk
  clear h h1 hg hm
  go_enter Try.func10, Try.ntmps10
  go_wp2_with (first | (go_at_call 32; refine (st_ready g _ _ _ HB.out).mono ?_; rintro e w' ⟨rfl, rfl⟩) | (go_at_call 33; refine (hcall _).mono ?_; rintro e w' ⟨rfl, ⟨nq, rfl⟩⟩))
  go_ret2
  exact ⟨rfl, by (repeat (first | exact Below.refl _ _ | refine pw_below_drewN ?_ _ | refine Below.drew ?_ | refine Below.alloc ?_ (by first | rfl | omega | (simp; done) | (simp; omega)) _ | refine Below.setCell ?_ (by first | rfl | omega | (simp; done) | (simp; omega)) _))⟩
set_option maxRecDepth 100000 in
theorem st_full (g M : Nat) (vi : Value) (img : List Int) (l : List S99) (s : ByteArray) (p : Option Addr) (n c : Nat) (w : World) (h : StAt X w g M vi img l) (hs : isNameB s = true) (hm : s.size ≤ maxLen) (h4 : n ≤ 4096) (ht : (plc l s).2 = false) (h16 : l.length = 16) :
    Calls Try.prog 10 #[.pointer (some ⟨g, 0, none⟩), .string s, .slice p n c] w fun e w' => e = .returned (.tuple #[.slice none 0 0, .int .i64 7]) ∧ Below w.heap.size w w' := by
  have h1 := h.step (start_below (w := w) (o := .cells #[.slice p n c] 23))
  obtain ⟨v, hrun, hg⟩ := h1.map.lookup s hm
  rw [ht] at hrun
  have hlen := fun (W : World) (hW : ∀ k, k < (w.alloc (.cells #[.slice p n c] 23)).heap.size → W.heap[k]? = (w.alloc (.cells #[.slice p n c] 23)).heap[k]?) => (h1.keep hW).map.len 3
  have hlen2 := fun m : Nat => hlen ((w.alloc (.cells #[.slice p n c] 23)).drewN m) (fun _ _ => rfl)
  rw [h16] at hlen2
  have hcall := fun W : World => wire_isName_calls s W
  rw [hs] at hcall
  have c1 : (w.alloc (.cells #[.slice p n c] 23)).cell? ⟨g, 1, none⟩ = some (.map (some M)) := (blk_cell h1.blk 1).trans rfl
  have HB := Lib.hid h1.blk
  clear h h1 hg hm hlen
  go_enter Try.func10, Try.ntmps10
  go_wp2_with (first | (go_at_call 32; refine (st_ready g _ _ _ HB.out).mono ?_; rintro e w' ⟨rfl, rfl⟩) | (go_at_call 33; refine (hcall _).mono ?_; rintro e w' ⟨rfl, ⟨nq, rfl⟩⟩))
  go_ret2
  exact ⟨rfl, by (repeat (first | exact Below.refl _ _ | refine pw_below_drewN ?_ _ | refine Below.drew ?_ | refine Below.alloc ?_ (by first | rfl | omega | (simp; done) | (simp; omega)) _ | refine Below.setCell ?_ (by first | rfl | omega | (simp; done) | (simp; omega)) _))⟩

end Go.Proofs.Ytcjniogdjbplbaa

/-! St5 -/
namespace Go.Proofs.Ytcjniogdjbplbaa
open Mem Go.RowKit Go.Proofs.YtcjniogdjbplbaaW.PrintWords Go.Proofs.YtcjniogdjbplbaaW.PrintLast Go.Proofs.YtcjniogdjbplbaaW.PrintMore PStorePlays
variable {X : Nat → Prop}

set_option maxRecDepth 100000 in
set_option maxHeartbeats 4000000 in
theorem st_put_over (g M : Nat) (vi : Value) (img : List Int) (l : List S99) (s : ByteArray) (A : Option Addr) (n c : Nat) (b : List Int) (w : World) (h : StAt X w g M vi img l) (hb : U8C w A b) (hn : Hid (n = b.length)) (hs : isNameB s = true) (h24 : s.size ≤ 24) (hm : s.size ≤ maxLen) (h4 : n ≤ 4096)
    (ht : (plc l s).2 = true ∨ ((plc l s).2 = false ∧ l.length < 16)) (nr : Nat) (hnr : Hid (nr = (recB 1 s b).length)) (n0 : Nat) (hn0 : Hid (n0 = img.length)) (h20 : Hid (n0 + nr + 1 > 1048576)) :
    Calls Try.prog 10 #[.pointer (some ⟨g, 0, none⟩), .string s, .slice A n c] w fun e w' => e = .returned (.tuple #[.slice none 0 0, .int .i64 7]) ∧ Below w.heap.size w w' := by
  have h1 := h.step (start_below (w := w) (o := .cells #[.slice A n c] 23))
  have H1 := Lib.hid h1
  have HBB := Lib.hid (Kd.C_below hb (start_below (w := w) (o := .cells #[.slice A n c] 23)))
  have HQ := Lib.hid (heap_alloc_new w (.cells #[.slice A n c] 23))
  obtain ⟨v, hrun, hg⟩ := h1.map.lookup s hm
  have hlen2 := fun m : Nat => (h1.keep (w' := (w.alloc (.cells #[.slice A n c] 23)).drewN m) (fun _ _ => rfl)).map.len 3
  have hcall := fun W : World => wire_isName_calls s W
  rw [hs] at hcall
  have c1 : (w.alloc (.cells #[.slice A n c] 23)).cell? ⟨g, 1, none⟩ = some (.map (some M)) := (blk_cell h1.blk 1).trans rfl
  have HB := Lib.hid h1.blk
  clear h h1 hg hm hb
  go_enter Try.func10, Try.ntmps10
  rcases ht with ht | ⟨ht, h16⟩
  all_goals rw [ht] at hrun
  all_goals (
    go_wp2_with (first
      | (go_at_call 32; refine (st_ready g _ _ _ HB.out).mono ?_; rintro e w' ⟨rfl, rfl⟩)
      | (go_at_call 33; refine (hcall _).mono ?_; rintro e w' ⟨rfl, ⟨nq, rfl⟩⟩)
      | (go_at_call 34; refine (laid_put_over g M vi img l s w.heap.size A c n b ((w.alloc (.cells #[.slice A n c] 23)).drewN nq) (H1.out.keep (fun _ _ => rfl)) hs h24 HQ.out (Kd.C_drewN HBB.out _) hn h4 nr hnr n0 hn0 h20).mono ?_; rintro e w2 ⟨rfl, hb2⟩; have HB2 := Lib.hid hb2; clear hb2))
    go_ret2
    exact ⟨rfl, (show Below w.heap.size w ((w.alloc (.cells #[.slice A n c] 23)).drewN nq) by (repeat (first | exact Below.refl _ _ | refine pw_below_drewN ?_ _ | refine Below.drew ?_ | refine Below.alloc ?_ (by first | rfl | omega | (simp; done) | (simp; omega)) _ | refine Below.setCell ?_ (by first | rfl | omega | (simp; done) | (simp; omega)) _))).trans (HB2.out.mono (by simp))⟩)

end Go.Proofs.Ytcjniogdjbplbaa

/-! St6 -/
namespace Go.Proofs.Ytcjniogdjbplbaa
open Mem Go.RowKit Go.Proofs.YtcjniogdjbplbaaW.PrintWords Go.Proofs.YtcjniogdjbplbaaW.PrintLast Go.Proofs.YtcjniogdjbplbaaW.PrintMore PStorePlays
variable {X : Nat → Prop}

theorem StAt.lts {w : World} {g M : Nat} {vi : Value} {img : List Int} {l : List S99} (h : StAt X w g M vi img l) : g < w.heap.size ∧ M < w.heap.size ∧ ∀ k, vi.ownBlock = some k → k < w.heap.size :=
  ⟨blk_lt h.blk, h.map.lt, fun k hk => (own_low h.own k hk).2⟩
theorem StAt.gM {w : World} {g M : Nat} {vi : Value} {img : List Int} {l : List S99} (h : StAt X w g M vi img l) : g ≠ M ∧ vi.ownBlock ≠ some g ∧ vi.ownBlock ≠ some M := by
  refine ⟨h.map.ne h.blk, own_ne h.own h.blk (by decide), fun e => ?_⟩
  rcases h.own.2 with ⟨e2, _⟩ | ⟨k, cap, cur, e2, _, hk, _⟩
  · rw [e2] at e; simp [Value.ownBlock] at e
  · rw [e2] at e
    simp [Value.ownBlock] at e
    subst e
    exact h.map.ne hk rfl

/-- What is not the store's own stands where a record was laid. -/
theorem Laid.rest {W w2 : World} {g M : Nat} {vi vi' : Value} {img img' : List Int} {l : List S99} (_ : StAt X W g M vi img l) (L : Laid W w2 g M vi vi' img') {k : Nat} (hk : Rest g M vi k) (hlt : k < W.heap.size) : w2.heap[k]? = W.heap[k]? ∧ Rest g M vi' k := by
  refine ⟨L.chg.block k hlt (fun h2 => h2.elim hk.1 hk.2.2), hk.1, hk.2.1, fun e => ?_⟩
  rcases L.at_ with h3 | ⟨j, hj, hle⟩
  · exact hk.2.2 (h3 ▸ e)
  · rw [hj] at e; injection e with e; omega
theorem Laid.map {W w2 : World} {g M : Nat} {vi vi' : Value} {img img' : List Int} {l : List S99} (h : StAt X W g M vi img l) (L : Laid W w2 g M vi vi' img') : MapIs w2 M (RX X g M vi') l := by
  obtain ⟨h1, h2, h3⟩ := h.gM
  have hM : w2.heap[M]? = W.heap[M]? := L.chg.block M h.map.lt (fun e => e.elim (fun e => h1 e.symm) h3)
  have hm : MapIs W M (fun k => RX X g M vi k ∧ k < W.heap.size) l := h.map.mono (fun k hk hlt => ⟨hk, hlt⟩)
  exact (hm.step hM (fun k hk _ => (L.rest h hk.1.1 hk.2).1)).mono (fun k hk _ => ⟨(L.rest h hk.1.1 hk.2).2, hk.1.2⟩)

theorem put_map {W w2 : World} {g M : Nat} {vi vi' : Value} {img img' : List Int} {l : List S99} (h : StAt X W g M vi img l) (L : Laid W w2 g M vi vi' img') (hr : img'.length ≤ 1048576) (s : ByteArray) (hs : isNameB s = true) (hm : s.size ≤ maxLen) (b : List Int) (n : Nat) (hn : n = b.length) (h4 : n ≤ 4096) (h16 : (ins l s b).length ≤ 16) :
    ∃ w4, (Instr.mapUpdate 75 (.map (some M)) (.string s) (.slice (some ⟨w2.heap.size, 0, none⟩) n n)).run Try.prog (w2.drew.alloc (.cells (u8row b) 5)) = .ok () w4 ∧ StAt X w4 g M vi' img' (ins l s b) ∧ (w2.drew.alloc (.cells (u8row b) 5)).mapTurned w4 M := by
  subst hn
  have hmap := L.map h
  obtain ⟨h1, h2, h3⟩ := h.gM
  have hb3 : Below w2.heap.size w2 (w2.drew.alloc (.cells (u8row b) 5)) := ⟨rfl, rfl, rfl, by simp, fun k hk => Below.heap_alloc w2.drew _ k hk⟩
  have hg2 : g < w2.heap.size := blk_lt L.blk
  have ho2 : ∀ k, vi'.ownBlock = some k → k < w2.heap.size := fun k hk => (own_low L.own k hk).2
  have hnew : ∀ k, w2.heap.size ≤ k → RX X g M vi' k := fun k hk => ⟨⟨by omega, by have := hmap.lt; omega, fun e => by have := ho2 k e; omega⟩, fun hX => by have := h.low k hX; have := L.chg.size; omega⟩
  obtain ⟨A, c, ev, -, hc, hF, -⟩ := own_F (ok := RX X g M vi') (u8row_own w2.drew b (by omega)) hnew
  have hmap3 := hmap.step (hb3.block M hmap.lt) (fun k _ hlt => hb3.block k hlt)
  have hgM : vi'.ownBlock ≠ some M := fun e => by
    rcases L.own.2 with ⟨e2, _⟩ | ⟨k, cap, cur, e2, _, hk, _⟩
    · rw [e2] at e; simp [Value.ownBlock] at e
    · rw [e2] at e
      simp [Value.ownBlock] at e
      subst e
      exact hmap.ne hk rfl
  obtain ⟨w4, hrun, hm4, ht⟩ := hmap3.store h.rise (by have := h.few; omega) (fun hM => hM.1.2.1 rfl) s hm (.slice (some ⟨w2.heap.size, 0, none⟩) b.length b.length) b ⟨A, c, ev, hc, hF⟩
  have hgr := ht.grown
  refine ⟨w4, hrun, ⟨?_, ?_, hm4, h.rise.ins s b, hr, h16, fun x hx => (ins_mem hx).elim (fun e => by subst e; exact ⟨h4, hs⟩) (fun hx => h.small x hx), fun k hk => ?_⟩, ht⟩
  · rw [hgr.block g (by simp; omega) (fun e => by injection e with e; exact h1 e), hb3.block g hg2]
    exact L.blk
  · exact own_step L.own (fun k hk => by
      rw [hgr.block k (by have := ho2 k hk; simp; omega) (fun e => by injection e with e; subst e; exact hgM hk), hb3.block k (ho2 k hk)])
  · have := h.low k hk
    have h5 := L.chg.size
    have h6 := hgr.size
    simp at h6
    omega

end Go.Proofs.Ytcjniogdjbplbaa

/-! St7 -/
namespace Go.Proofs.Ytcjniogdjbplbaa
open Mem Go.RowKit Go.Proofs.YtcjniogdjbplbaaW.PrintWords Go.Proofs.YtcjniogdjbplbaaW.PrintLast Go.Proofs.YtcjniogdjbplbaaW.PrintMore PStorePlays
variable {X : Nat → Prop}

theorem wr2_form {w : World} {base : Nat} {v : Value} {at_ : Int} {xs ys : List Int} (h : Wr2 w base v at_ xs ys) : ∃ L, v = .slice (some ⟨L, 0, none⟩) 2 2 := by
  obtain ⟨L, s1, s2, hv, _⟩ := h
  exact ⟨L, hv⟩

theorem put_q {w : World} {g M : Nat} {vi : Value} {img : List Int} {l : List S99} (h : StAt X w g M vi img l) (e : w.heap.size = g ∨ vi.ownBlock = some w.heap.size) : False := by
  obtain ⟨h1, h2, h3⟩ := h.lts
  rcases e with e | e
  · omega
  · exact Nat.lt_irrefl _ (h3 _ e)
theorem put_room {img b : List Int} {s : ByteArray} {n0 nr : Nat} (h0 : Hid (n0 = img.length)) (hr : Hid (nr = (recB 1 s b).length)) (h : Hid (n0 + nr + 1 ≤ 1048576)) : (img ++ 1 :: (recB 1 s b).tail).length ≤ 1048576 := by
  have a := h0.out
  have b' := hr.out
  have c := h.out
  have e : (1 :: (recB 1 s b).tail).length = (recB 1 s b).length := by unfold recB; simp
  rw [List.length_append, e]
  omega
theorem put_cells3 {w2 w4 : World} {g M q : Nat} {u v : Value} {o : Obj} (ht : (w2.drew.alloc o).mapTurned w4 M) (hg : g ≠ M) (hq : q ≠ M) (lg : g < w2.heap.size) (lq : q < w2.heap.size) (h1 : w2.cell? ⟨g, 1, none⟩ = some u) (h2 : w2.cell? ⟨q, 0, none⟩ = some v) :
    (w2.drew.alloc o).cell? ⟨g, 1, none⟩ = some u ∧ (w2.drew.alloc o).cell? ⟨q, 0, none⟩ = some v ∧ w4.cell? ⟨g, 1, none⟩ = some u ∧ w4.cell? ⟨q, 0, none⟩ = some v := by
  have hb : ∀ k, k < w2.heap.size → (w2.drew.alloc o).heap[k]? = w2.heap[k]? := fun k hk => Below.heap_alloc w2.drew o k hk
  have hgr := ht.grown
  have ht2 : ∀ k, k < w2.heap.size → k ≠ M → w4.heap[k]? = w2.heap[k]? := fun k hk hne => (hgr.block k (by simp; omega) (fun e => by injection e with e; exact hne e)).trans (hb k hk)
  exact ⟨(World.cell?_of_block (hb g lg)).trans h1, (World.cell?_of_block (hb q lq)).trans h2, (World.cell?_of_block (ht2 g lg hg)).trans h1, (World.cell?_of_block (ht2 q lq hq)).trans h2⟩
theorem put_read {w w2 : World} {o : Obj} {m : Nat} {g M : Nat} {vi vi' : Value} {img img' : List Int} {l : List S99} {A : Option Addr} {b : List Int} (_ : StAt X w g M vi img l) (hb : Kd.F (Kd.int .u8) w (Rest g M vi) A b.length b) (L : Laid ((w.alloc o).drewN m) w2 g M vi vi' img') : U8C w2.drew A b :=
  Kd.C_drew (hb w2 (fun k hk hlt => (L.chg.block k (by simp; omega) (fun e => e.elim hk.1 hk.2.2)).trans (Below.heap_alloc w o k hlt)))

theorem put_old {w2 w4 : World} {M k : Nat} {o : Obj} (ht : (w2.drew.alloc o).mapTurned w4 M) (hk : k < w2.heap.size) (hne : k ≠ M) : w4.heap[k]? = w2.heap[k]? :=
  (ht.grown.block k (by simp; omega) (fun e => by injection e with e; exact hne e)).trans (Below.heap_alloc w2.drew o k hk)
theorem put_chg {w w2 w4 : World} {o o2 : Obj} {m : Nat} {g M : Nat} {vi vi' : Value} {img' : List Int} (L : Laid ((w.alloc o).drewN m) w2 g M vi vi' img') (ht : (w2.drew.alloc o2).mapTurned w4 M) : Chg (fun k => ¬ Rest g M vi k) w w4 := by
  have c1 : Chg (fun k => ¬ Rest g M vi k) w ((w.alloc o).drewN m) := ⟨rfl, rfl, rfl, by simp, fun k hk _ => Below.heap_alloc w o k hk⟩
  have c2 : Chg (fun k => ¬ Rest g M vi k) ((w.alloc o).drewN m) w2 := L.chg.mono (fun k _ e hr => e.elim hr.1 hr.2.2)
  have c3 : Chg (fun k => ¬ Rest g M vi k) w2 (w2.drew.alloc o2) := ⟨rfl, rfl, rfl, by simp, fun k hk _ => Below.heap_alloc w2.drew o2 k hk⟩
  exact ((c1.trans c2).trans c3).trans (turned_chg ht (fun hr => hr.2.1 rfl))

set_option maxRecDepth 100000 in
set_option maxHeartbeats 4000000 in
theorem st_put_ok (g M : Nat) (vi : Value) (img : List Int) (l : List S99) (s : ByteArray) (A : Option Addr) (n c : Nat) (b : List Int) (w : World) (h : StAt X w g M vi img l) (hb : Kd.F (Kd.int .u8) w (Rest g M vi) A b.length b) (hn : Hid (n = b.length)) (hs : isNameB s = true) (h24 : s.size ≤ 24) (hm : s.size ≤ maxLen) (h4 : n ≤ 4096)
    (ht : (plc l s).2 = true ∨ ((plc l s).2 = false ∧ l.length < 16)) (nr : Nat) (hnr : Hid (nr = (recB 1 s b).length)) (n0 : Nat) (hn0 : Hid (n0 = img.length)) (h20 : Hid (n0 + nr + 1 ≤ 1048576)) :
    Calls Try.prog 10 #[.pointer (some ⟨g, 0, none⟩), .string s, .slice A n c] w fun e w' => (∃ wl vi', e = .returned (.tuple #[wl, .int .i64 0]) ∧ StAt X w' g M vi' (img ++ 1 :: (recB 1 s b).tail) (ins l s b) ∧ Wr2 w' w.heap.size wl n0 (0 :: (recB 1 s b).tail ++ [0]) [1] ∧ (vi'.ownBlock = vi.ownBlock ∨ ∃ k, vi'.ownBlock = some k ∧ w.heap.size ≤ k)) ∧
      Chg (fun k => ¬ Rest g M vi k) w w' := by
  have HH := Lib.hid h
  have HF := Lib.hid hb
  have h1 := h.step (start_below (w := w) (o := .cells #[.slice A n c] 23))
  have H1 := Lib.hid h1
  have HBB := Lib.hid (Kd.F_below hb (start_below (w := w) (o := .cells #[.slice A n c] 23)))
  have HQ := Lib.hid (heap_alloc_new w (.cells #[.slice A n c] 23))
  have HM := Lib.hid hm
  have H16 := Lib.hid (show (ins l s b).length ≤ 16 by rw [ins_len']; have := h.few; rcases ht with e | ⟨e, e2⟩ <;> simp [e] <;> omega)
  obtain ⟨v, hrun, hg⟩ := h1.map.lookup s hm
  have hlen2 := fun m : Nat => (h1.keep (w' := (w.alloc (.cells #[.slice A n c] 23)).drewN m) (fun _ _ => rfl)).map.len 3
  have hcall := fun W : World => wire_isName_calls s W
  rw [hs] at hcall
  have c1 : (w.alloc (.cells #[.slice A n c] 23)).cell? ⟨g, 1, none⟩ = some (.map (some M)) := (blk_cell h1.blk 1).trans rfl
  have HB := Lib.hid h1.blk
  clear h h1 hg hm hb
  go_enter Try.func10, Try.ntmps10
  rcases ht with ht | ⟨ht, h16⟩
  all_goals rw [ht] at hrun
  all_goals (
    go_wp2_with (first
      | (go_at_call 32; refine (st_ready g _ _ _ HB.out).mono ?_; rintro e w' ⟨rfl, rfl⟩)
      | (go_at_call 33; refine (hcall _).mono ?_; rintro e w' ⟨rfl, ⟨nq, rfl⟩⟩)
      | (go_at_call 34; refine (laid_put g M vi img l s w.heap.size A c n b ((w.alloc (.cells #[.slice A n c] 23)).drewN nq) (H1.out.keep (fun _ _ => rfl)) hs h24 HQ.out (Kd.C_drewN (Kd.F_now HBB.out) _) hn h4 nr hnr n0 hn0 h20).mono ?_; rintro e w2 ⟨wl, vi', rfl, hL, hW⟩; obtain ⟨L, eL⟩ := wr2_form hW; subst eL; have HL := Lib.hid hL; have HW := Lib.hid hW; clear hL hW))
    have hq2 : w2.heap[w.heap.size]? = some (.cells #[.slice A n c] 23 (0, 0)) := (HL.out.chg.block w.heap.size (by simp) (fun e => put_q HH.out e)).trans HQ.out
    have c2 : w2.cell? ⟨g, 1, none⟩ = some (.map (some M)) := (blk_cell HL.out.blk 1).trans rfl
    have q2 : w2.cell? ⟨w.heap.size, 0, none⟩ = some (.slice A n c) := (blk_cell hq2 0).trans rfl
    obtain ⟨w4, hrun4, hst, hturn⟩ := put_map (H1.out.keep (w' := (w.alloc (.cells #[.slice A n c] 23)).drewN nq) (fun _ _ => rfl)) HL.out (put_room hn0 hnr h20) s hs HM.out b n hn.out h4 H16.out
    replace hrun4 : (Instr.mapUpdate 75 (.map (some M)) (.string s) (.slice (some ⟨w2.heap.size, 0, none⟩) n n)).run Try.prog (w2.alloc (.cells (u8row b) 5)).drew = .ok () w4 := hrun4
    have hw3 := put_cells3 hturn (HH.out.gM.1) (fun e => Nat.lt_irrefl _ (e ▸ HH.out.map.lt)) (blk_lt HL.out.blk) (blk_lt hq2) c2 q2
    obtain ⟨c3, q3, c4, q4⟩ := hw3
    have HBF := Lib.hid (put_read HH.out HF.out HL.out)
    have HST := Lib.hid hst
    have HT := Lib.hid hturn
    clear hst hturn hq2
    go_region_held3 (fun W' => W'.cell? ⟨g, 1, none⟩ = some (.map (some M)) ∧ W'.cell? ⟨w.heap.size, 0, none⟩ = some (.slice A n c))
      (first | exact ⟨c2, q2⟩ | exact ⟨c3, q3⟩ | exact ⟨c4, q4⟩)
      (first | (go_at_call 38; refine (cloned_any A c n b w2.drew HBF.out hn (by omega)).mono ?_; rintro e w3 ⟨rfl, rfl⟩))
    go_wp2_with fail
    go_ret2
    refine ⟨⟨_, vi', rfl, HST.out, ?_, ?_⟩, ?_⟩
    · exact (HW.out.step (fun k hk hlt => put_old HT.out hlt (by have := HH.out.map.lt; simp at hk; omega))).low (by simp)
    · exact HL.out.at_.elim (fun e => .inl e) (fun ⟨k, e, hk⟩ => .inr ⟨k, e, by simp at hk; omega⟩)
    · exact put_chg HL.out HT.out)

end Go.Proofs.Ytcjniogdjbplbaa

/-! St8 -/
namespace Go.Proofs.Ytcjniogdjbplbaa
open Mem Go.RowKit Go.Proofs.YtcjniogdjbplbaaW.PrintWords Go.Proofs.YtcjniogdjbplbaaW.PrintLast Go.Proofs.YtcjniogdjbplbaaW.PrintMore PStorePlays
variable {X : Nat → Prop}

theorem st_drop_name (g M : Nat) (vi : Value) (img : List Int) (l : List S99) (s : ByteArray) (w : World) (h : StAt X w g M vi img l) (hs : isNameB s = false) (hm : s.size ≤ maxLen) :
    Calls Try.prog 44 #[.pointer (some ⟨g, 0, none⟩), .string s] w fun e w' => e = .returned (.tuple #[.slice none 0 0, .int .i64 6]) ∧ Drawn0 w w' := by
  have HH := Lib.hid h
  have HM := Lib.hid hm
  clear h hm
  go_enter Try.func44, Try.ntmps44
  go_wp2_with (first | (go_at_call 46; refine (get_name g M vi img l s _ HH.out hs HM.out).mono ?_; rintro e w' ⟨rfl, ⟨nq, rfl⟩⟩))
  go_ret2
  exact ⟨rfl, ⟨⟨_, rfl⟩⟩⟩
theorem st_drop_key (g M : Nat) (vi : Value) (img : List Int) (l : List S99) (s : ByteArray) (w : World) (h : StAt X w g M vi img l) (hs : isNameB s = true) (hm : s.size ≤ maxLen) (ht : (plc l s).2 = false) :
    Calls Try.prog 44 #[.pointer (some ⟨g, 0, none⟩), .string s] w fun e w' => e = .returned (.tuple #[.slice none 0 0, .int .i64 211]) ∧ Drawn0 w w' := by
  have HH := Lib.hid h
  have HM := Lib.hid hm
  clear h hm
  go_enter Try.func44, Try.ntmps44
  go_wp2_with (first | (go_at_call 46; refine (get_key g M vi img l s _ HH.out hs HM.out ht).mono ?_; rintro e w' ⟨rfl, ⟨nq, rfl⟩⟩))
  go_ret2
  exact ⟨rfl, ⟨⟨_, rfl⟩⟩⟩

theorem StAt.drawn {w : World} {g M : Nat} {vi : Value} {img : List Int} {l : List S99} (h : StAt X w g M vi img l) (n : Nat) : StAt X (w.drewN n) g M vi img l := h.keep (fun _ _ => rfl)
theorem look_of {l : List S99} {s : ByteArray} (h : (plc l s).2 = true) : ∃ xs, look l s = some xs := by
  rw [← look_some] at h
  exact Option.isSome_iff_exists.1 h

set_option maxRecDepth 100000 in
set_option maxHeartbeats 4000000 in
theorem st_drop_over (g M : Nat) (vi : Value) (img : List Int) (l : List S99) (s : ByteArray) (w : World) (h : StAt X w g M vi img l) (hs : isNameB s = true) (h24 : s.size ≤ 24) (hm : s.size ≤ maxLen) (ht : (plc l s).2 = true)
    (nr : Nat) (hnr : Hid (nr = (recB 2 s []).length)) (n0 : Nat) (hn0 : Hid (n0 = img.length)) (h20 : Hid (n0 + nr + 1 > 1048576)) :
    Calls Try.prog 44 #[.pointer (some ⟨g, 0, none⟩), .string s] w fun e w' => e = .returned (.tuple #[.slice none 0 0, .int .i64 7]) ∧ Below w.heap.size w w' := by
  have HH := Lib.hid h
  have HM := Lib.hid hm
  obtain ⟨xs, hx⟩ := look_of ht
  have HX := Lib.hid hx
  clear h hm ht hx
  go_enter Try.func44, Try.ntmps44
  go_wp2_with (first
    | (go_at_call 46; refine (get_ok g M vi img l s xs _ HH.out hs HM.out HX.out).mono ?_; rintro e w' ⟨⟨v, rfl, ⟨A, c, ev, -, -⟩⟩, ⟨nq, rfl⟩⟩; subst ev)
    | (go_at_call 34; refine (laid_drop_over g M vi img l s (w.drewN nq) (HH.out.drawn nq) hs h24 nr hnr n0 hn0 h20).mono ?_; rintro e w2 ⟨rfl, hb2⟩; have HB2 := Lib.hid hb2; clear hb2))
  go_ret2
  exact ⟨rfl, (pw_below_drewN (Below.refl _ w) nq).trans HB2.out⟩

theorem drop_map {W w2 : World} {g M : Nat} {vi vi' : Value} {img img' : List Int} {l : List S99} (h : StAt X W g M vi img l) (L : Laid W w2 g M vi vi' img') (hr : img'.length ≤ 1048576) (s : ByteArray) (hm : s.size ≤ maxLen) (ht : (plc l s).2 = true) (ty : TypeId) :
    ∃ w4, (Builtin.delete_ #[75, 9] ty #[.map (some M), .string s]).run Try.prog w2 = .ok (.tuple #[]) w4 ∧ StAt X w4 g M vi' img' (rem l s) ∧ w2.mapTurned w4 M := by
  have hmap := L.map h
  obtain ⟨h1, h2, h3⟩ := h.gM
  have hg2 : g < w2.heap.size := blk_lt L.blk
  have ho2 : ∀ k, vi'.ownBlock = some k → k < w2.heap.size := fun k hk => (own_low L.own k hk).2
  have hgM : vi'.ownBlock ≠ some M := fun e => by
    rcases L.own.2 with ⟨e2, _⟩ | ⟨k, cap, cur, e2, _, hk, _⟩
    · rw [e2] at e; simp [Value.ownBlock] at e
    · rw [e2] at e
      simp [Value.ownBlock] at e
      subst e
      exact hmap.ne hk rfl
  obtain ⟨w4, hrun, hm4, htn⟩ := hmap.drop h.rise (fun hM => hM.1.2.1 rfl) s hm ht ty
  have hgr := htn.grown
  refine ⟨w4, hrun, ⟨?_, ?_, hm4, h.rise.rem s, hr, ?_, fun x hx => h.small x (rem_mem hx), fun k hk => by have := h.low k hk; have h5 := L.chg.size; have h6 := hgr.size; omega⟩, htn⟩
  · rw [hgr.block g hg2 (fun e => by injection e with e; exact h1 e)]
    exact L.blk
  · exact own_step L.own (fun k hk => hgr.block k (ho2 k hk) (fun e => by injection e with e; subst e; exact hgM hk))
  · have := h.few
    rw [rem_len', ht, if_pos rfl]
    omega

theorem drop_room {img : List Int} {s : ByteArray} {n0 nr : Nat} (h0 : Hid (n0 = img.length)) (hr : Hid (nr = (recB 2 s []).length)) (h : Hid (n0 + nr + 1 ≤ 1048576)) : (img ++ 2 :: (recB 2 s []).tail).length ≤ 1048576 := by
  have a := h0.out
  have b' := hr.out
  have c := h.out
  have e : (2 :: (recB 2 s []).tail).length = (recB 2 s []).length := by unfold recB; simp
  rw [List.length_append, e]
  omega

set_option maxRecDepth 100000 in
set_option maxHeartbeats 4000000 in
theorem st_drop_ok (g M : Nat) (vi : Value) (img : List Int) (l : List S99) (s : ByteArray) (w : World) (h : StAt X w g M vi img l) (hs : isNameB s = true) (h24 : s.size ≤ 24) (hm : s.size ≤ maxLen) (ht : (plc l s).2 = true)
    (nr : Nat) (hnr : Hid (nr = (recB 2 s []).length)) (n0 : Nat) (hn0 : Hid (n0 = img.length)) (h20 : Hid (n0 + nr + 1 ≤ 1048576)) :
    Calls Try.prog 44 #[.pointer (some ⟨g, 0, none⟩), .string s] w fun e w' => (∃ wl vi', e = .returned (.tuple #[wl, .int .i64 0]) ∧ StAt X w' g M vi' (img ++ 2 :: (recB 2 s []).tail) (rem l s) ∧ Wr2 w' w.heap.size wl n0 (0 :: (recB 2 s []).tail ++ [0]) [2] ∧ (vi'.ownBlock = vi.ownBlock ∨ ∃ k, vi'.ownBlock = some k ∧ w.heap.size ≤ k)) ∧
      Chg (fun k => ¬ Rest g M vi k) w w' := by
  have HH := Lib.hid h
  have HM := Lib.hid hm
  have HT0 := Lib.hid ht
  obtain ⟨xs, hx⟩ := look_of ht
  have HX := Lib.hid hx
  clear h hm ht hx
  go_enter Try.func44, Try.ntmps44
  go_wp2_with (first
    | (go_at_call 46; refine (get_ok g M vi img l s xs _ HH.out hs HM.out HX.out).mono ?_; rintro e w' ⟨⟨v, rfl, ⟨A, c, ev, -, -⟩⟩, ⟨nq, rfl⟩⟩; subst ev)
    | (go_at_call 34; refine (laid_drop g M vi img l s (w.drewN nq) (HH.out.drawn nq) hs h24 nr hnr n0 hn0 h20).mono ?_; rintro e w2 ⟨wl, vi', rfl, hL, hW⟩; obtain ⟨L, eL⟩ := wr2_form hW; subst eL; have c2 : w2.cell? ⟨g, 1, none⟩ = some (.map (some M)) := (blk_cell hL.blk 1).trans rfl; obtain ⟨w4, hrun4, hst, hturn⟩ := drop_map (HH.out.drawn nq) hL (drop_room hn0 hnr h20) s HM.out HT0.out 0; have HL := Lib.hid hL; have HW := Lib.hid hW; have HST := Lib.hid hst; have HT := Lib.hid hturn; clear hL hW hst hturn))
  go_ret2
  refine ⟨⟨_, vi', rfl, HST.out, ?_, ?_⟩, ?_⟩
  · exact HW.out.step (fun k hk hlt => HT.out.grown.block k hlt (fun e => by injection e with e; have := HH.out.map.lt; simp at hk; omega))
  · exact HL.out.at_
  · exact ((show Chg (fun k => ¬ Rest g M vi k) w (w.drewN nq) from ⟨rfl, rfl, rfl, Nat.le_refl _, fun _ _ _ => rfl⟩).trans (HL.out.chg.mono (fun k _ e hr => e.elim hr.1 hr.2.2))).trans (turned_chg HT.out (fun hr => hr.2.1 rfl))

end Go.Proofs.Ytcjniogdjbplbaa

/-! Rf4 -/
namespace Go.Proofs.Ytcjniogdjbplbaa
open Mem Go.RowKit Go.Proofs.YtcjniogdjbplbaaW.PrintWords Go.Proofs.YtcjniogdjbplbaaW.PrintLast Go.Proofs.YtcjniogdjbplbaaW.PrintMore PStorePlays

theorem undrew' {W w' : World} (h : Below W.drew.heap.size W.drew w') : Below W.heap.size W w' := ⟨h.os, h.tape, h.output, h.size, h.block⟩

set_option maxRecDepth 100000 in
set_option maxHeartbeats 4000000 in
theorem ref_put_over (A0 : Option Addr) (n0 c0 : Nat) (A1 : Option Addr) (n1 c1 : Nat) (img : List Int) (l : List S99) (A2 : Option Addr) (n2 c2 : Nat) (b : List Int) (s : ByteArray) (ok : Nat → Prop) (w : World) (hok : ∀ k, w.heap.size ≤ k → ok k)
    (hS : RefSt w ok A0 c0 A1 c1 img l) (_ : Hid (n0 = img.length)) (hn1 : Hid (n1 = l.length)) (h1m : n1 ≤ 1000) (hb : U8C w A2 b) (hn2 : Hid (n2 = b.length)) (hs : isNameB s = true) (h24 : s.size ≤ 24) (h4 : n2 ≤ 4096) (t : Bool) (ht : Hid (t = (plc l s).2)) (h16 : t = true ∨ (t = false ∧ ¬ (n1 : Int) = 16))
    (nr : Nat) (hnr : Hid (nr = (recB 1 s b).length)) (h20 : Hid (n0 + nr + 1 > 1048576)) (h0m : n0 ≤ 1048576) (mi : Nat) (hmi : Hid (mi = (ins l s b).length)) :
    Calls Try.prog 12 #[.agg #[.slice A0 n0 c0, .slice A1 n1 c1], .string s, .slice A2 n2 c2] w fun e w' => e = .returned (.tuple #[.agg #[.slice A0 n0 c0, .slice A1 n1 c1], .slice none 0 0, .int .i64 7]) ∧ Below w.heap.size w w' := by
  have hcall := fun W : World => ref_isName_calls s W
  rw [hs] at hcall
  have HS := Lib.hid hS
  have HBB := Lib.hid hb
  have HOK := Lib.hid hok
  have HP := fun (W : World) (h : Below w.heap.size w W) => place_any A1 c1 l s W (Kd.F_now (HS.out.below h).fl) hS.cl n1 hn1 (by omega)
  rw [← ht.out] at HP
  have hrl := Lib.hid (show nr = (1 :: (recB 1 s b).tail).length by rw [hnr.out]; unfold recB; simp)
  clear hS hb hok
  go_enter Try.func12, Try.ntmps12
  rcases h16 with h16 | ⟨h16, h17⟩
  all_goals subst h16
  all_goals go_wp2_with (first | (go_at_call 39; refine (hcall _).mono ?_; rintro e w' ⟨rfl, ⟨nq, rfl⟩⟩) | (go_at_call 40; refine (HP _ (by (repeat (first | exact Below.refl _ _ | refine pw_below_drewN ?_ _ | refine Below.drew ?_ | refine Below.alloc ?_ (by first | rfl | omega | (simp; done) | (simp; omega)) _ | refine Below.setCell ?_ (by first | rfl | omega | (simp; done) | (simp; omega)) _)))).mono ?_; rintro e w' ⟨rfl, ⟨np, rfl⟩⟩))
  all_goals (
    refine wp_world (fun W => BX W w.heap.size A0 n0 c0 A1 n1 c1 ∧ Below w.heap.size w W) ⟨BX.new w A0 n0 c0 A1 n1 c1, by (repeat (first | exact Below.refl _ _ | refine pw_below_drewN ?_ _ | refine Below.drew ?_ | refine Below.alloc ?_ (by first | rfl | omega | (simp; done) | (simp; omega)) _ | refine Below.setCell ?_ (by first | rfl | omega | (simp; done) | (simp; omega)) _))⟩ ?_
    rintro W ⟨hbx, hbw⟩
    have x := hbx.two
    have HSW := Lib.hid ((HS.out.away (w.heap.size + 1) (by omega)).below hbw)
    have HBW := Lib.hid (Kd.C_below HBB.out hbw)
    have HX := Lib.hid hbx
    have HW := Lib.hid hbw
    have HLE := Lib.hid hbw.size
    generalize hb0 : w.heap.size = b0 at *
    have HB0 := Lib.hid hb0
    clear hb0
    clear hbx hbw HP hcall HBB HS
    go_region_held3 (fun W' => W'.cell? ⟨b0, 0, none⟩ = some (.slice A0 n0 c0) ∧ W'.cell? ⟨b0, 1, none⟩ = some (.slice A1 n1 c1))
      (first | exact x | exact (HX.out.step (fun k hk => Below.heap_alloc W.drew _ k (by have := HX.out.lt; simp; omega))).two | exact set2_keep HX4.out.cells.1 HX4.out.cells.2.1 | exact HX4.out.two | exact HX3.out.two | exact HX2.out.two | exact HX1.out.two)
      (first
        | (refine step_append_u8 rfl (.tmp 39) (.tmp 40) 23 rfl W.heap.size 5 Try.underlying23 info5 _ 0 [] rfl (own_row_at W.drew W.heap.size _ 5 [] 0 rfl rfl (Nat.le_refl _) (by omega)) A2 c2 n2 b rfl hn2.out (Kd.C_below HBW.out start_below') n2 (by have := hn2.out; omega) (by omega) (by simp) ?_; intro v1 w1 ho hg hat; have hb1 := put_copy hg; obtain ⟨B1, d1, ev1, -, hd1, hF1, -⟩ := own_F (ok := fun k => ok k ∧ k ≠ b0 + 1) ho (fun k hk => ⟨HOK.out k (by have := HX.out.lt; omega), by have := HX.out.lt; omega⟩); subst ev1; have HF1 := Lib.hid hF1; have HB1 := Lib.hid hb1; have HX1 := Lib.hid (HX.out.step (fun k hk => hb1.block k (by have := HX.out.lt; omega))); clear ho hg hat hF1 hb1)
        | (go_at_call 42; refine (with_any A1 c1 l n1 s B1 d1 n2 b (fun k => ok k ∧ k ≠ b0 + 1) w1 (fun k hk => ⟨HOK.out k (by have := HX1.out.lt; omega), by have := HX1.out.lt; omega⟩) (HSW.out.below HB1.out).fl HSW.out.cl hn1 h1m HF1.out hd1 hn2 mi hmi).mono ?_; rintro e w2 ⟨⟨B2, d2, rfl, hd2, hF2⟩, hb2⟩; have HF2 := Lib.hid hF2; have HB2 := Lib.hid (HB1.out.trans (hb2.mono HB1.out.size)); have HX2 := Lib.hid (HX1.out.step (fun k hk => hb2.block k (by have := HX1.out.lt; omega))); clear hF2 hb2)
        | (go_at_call 43; refine (ref_record1 s A2 c2 n2 b w2 h24 (Kd.C_below HBW.out HB2.out) hn2 h4).mono ?_; rintro e w3 ⟨⟨v3, rfl, ho3⟩, hb3⟩; obtain ⟨g3, c3, ev3, hc3, hg3, hC3⟩ := rec_form ho3; rw [← hnr.out] at ev3 hc3; subst ev3; have HO3 := Lib.hid ho3; have HC3 := Lib.hid hC3; have HB23 := Lib.hid hb3; have HB3 := Lib.hid (HB2.out.trans (hb3.mono HB2.out.size)); have HX3 := Lib.hid (HX2.out.step (fun k hk => hb3.block k (by have := HX2.out.lt; omega))); clear ho3 hb3 hC3)
        | (go_at_call 41; refine (ref_laid_full A0 n0 c0 A1 n1 c1 B2 mi d2 (some ⟨g3, 0, none⟩) nr c3 w3 h20.out h0m (by have := hnr.out; rw [recB_len] at this; have := hn2.out; simp at *; omega)).mono ?_; rintro e w4 ⟨rfl, hb4⟩; have HB34 := Lib.hid hb4; have HB4 := Lib.hid (HB3.out.trans (hb4.mono HB3.out.size)); have hx4 := HX3.out.step (fun k hk => hb4.block k (by have := HX3.out.lt; omega)); have HX4 := Lib.hid hx4; obtain ⟨-, -, z2, z3, z4, z5⟩ := hx4.cells; clear hb4 hx4))
    have hq := (blk_set ((blk_set HX4.out.2 0 (.slice A0 n0 c0)).trans rfl) 1 (.slice A1 n1 c1)).trans rfl
    have hbl := set2_below (w := w4) (b := b0) (p := .slice A0 n0 c0) (q := .slice A1 n1 c1)
    refine exit_world (fun W5 => W5.cell? ⟨b0 + 1, 0, none⟩ = some (.slice A0 n0 c0) ∧ W5.cell? ⟨b0 + 1, 1, none⟩ = some (.slice A1 n1 c1) ∧ Below b0 w W5)
      ⟨(blk_cell hq 0).trans rfl, (blk_cell hq 1).trans rfl, (HW.out.trans (HB4.out.mono HLE.out)).trans hbl⟩ ?_
    rintro W5 ⟨u0, u1, hB5⟩
    have HB5 := Lib.hid hB5
    clear hB5 hq hbl
    go_wp2_with fail
    refine bodyPost_ret (by simp [results, Try.results12, go_sem, u0, u1]; try rfl) rfl ?_
    rw [HB0.out]
    exact ⟨rfl, HB5.out⟩)

theorem ref_drop_name (A0 : Option Addr) (n0 c0 : Nat) (A1 : Option Addr) (n1 c1 : Nat) (s : ByteArray) (w : World) (hs : isNameB s = false) :
    Calls Try.prog 45 #[.agg #[.slice A0 n0 c0, .slice A1 n1 c1], .string s] w fun e w' => e = .returned (.tuple #[.agg #[.slice A0 n0 c0, .slice A1 n1 c1], .slice none 0 0, .int .i64 6]) ∧ Below w.heap.size w w' := by
  have hcall := fun W : World => ref_isName_calls s W
  rw [hs] at hcall
  go_enter Try.func45, Try.ntmps45
  go_wp2_with (first | (go_at_call 39; refine (hcall _).mono ?_; rintro e w' ⟨rfl, ⟨nq, rfl⟩⟩))
  go_returns
  exact ⟨rfl, by (repeat (first | exact Below.refl _ _ | refine pw_below_drewN ?_ _ | refine Below.drew ?_ | refine Below.alloc ?_ (by first | rfl | omega | (simp; done) | (simp; omega)) _ | refine Below.setCell ?_ (by first | rfl | omega | (simp; done) | (simp; omega)) _))⟩
theorem ref_drop_key (A0 : Option Addr) (n0 c0 : Nat) (A1 : Option Addr) (n1 c1 : Nat) (l : List S99) (s : ByteArray) (w : World) (hs : isNameB s = true) (hl : Kd.C k99 w A1 l.length l) (hc : l.length ≤ c1) (hn1 : Hid (n1 = l.length)) (h1m : n1 ≤ 1000) (ht : (plc l s).2 = false) :
    Calls Try.prog 45 #[.agg #[.slice A0 n0 c0, .slice A1 n1 c1], .string s] w fun e w' => e = .returned (.tuple #[.agg #[.slice A0 n0 c0, .slice A1 n1 c1], .slice none 0 0, .int .i64 211]) ∧ Below w.heap.size w w' := by
  have hcall := fun W : World => ref_isName_calls s W
  rw [hs] at hcall
  have HL := Lib.hid hl
  have HP := fun (W : World) (h : Kd.C k99 W A1 l.length l) => place_any A1 c1 l s W h hc n1 hn1 (by omega)
  rw [ht] at HP
  clear hl
  go_enter Try.func45, Try.ntmps45
  go_wp2_with (first | (go_at_call 39; refine (hcall _).mono ?_; rintro e w' ⟨rfl, ⟨nq, rfl⟩⟩) | (go_at_call 40; refine (HP _ (Kd.C_below HL.out (by (repeat (first | exact Below.refl _ _ | refine pw_below_drewN ?_ _ | refine Below.drew ?_ | refine Below.alloc ?_ (by first | rfl | omega | (simp; done) | (simp; omega)) _ | refine Below.setCell ?_ (by first | rfl | omega | (simp; done) | (simp; omega)) _))))).mono ?_; rintro e w' ⟨rfl, ⟨np, rfl⟩⟩))
  go_returns
  exact ⟨rfl, by (repeat (first | exact Below.refl _ _ | refine pw_below_drewN ?_ _ | refine Below.drew ?_ | refine Below.alloc ?_ (by first | rfl | omega | (simp; done) | (simp; omega)) _ | refine Below.setCell ?_ (by first | rfl | omega | (simp; done) | (simp; omega)) _))⟩

set_option maxRecDepth 100000 in
set_option maxHeartbeats 4000000 in
theorem ref_drop_laid (A0 : Option Addr) (n0 c0 : Nat) (A1 : Option Addr) (n1 c1 : Nat) (img : List Int) (l : List S99) (s : ByteArray) (ok : Nat → Prop) (w : World) (hok : ∀ k, w.heap.size ≤ k → ok k)
    (hS : RefSt w ok A0 c0 A1 c1 img l) (hn0 : Hid (n0 = img.length)) (hn1 : Hid (n1 = l.length)) (h1m : n1 ≤ 1000) (hs : isNameB s = true) (h24 : s.size ≤ 24) (ht : (plc l s).2 = true)
    (nr : Nat) (hnr : Hid (nr = (recB 2 s []).length)) (h20 : Hid (n0 + nr + 1 ≤ 1048576)) (nn : Nat) (hnn : Hid (nn = (img ++ 2 :: (recB 2 s []).tail).length)) (mi : Nat) (hmi : Hid (mi = (rem l s).length)) :
    Calls Try.prog 45 #[.agg #[.slice A0 n0 c0, .slice A1 n1 c1], .string s] w fun e w' => (∃ B0 d0 B1 d1 wl, e = .returned (.tuple #[.agg #[.slice B0 nn d0, .slice B1 mi d1], wl, .int .i64 0]) ∧
      RefSt w' ok B0 d0 B1 d1 (img ++ 2 :: (recB 2 s []).tail) (rem l s) ∧ Wr2 w' w.heap.size wl n0 (0 :: (recB 2 s []).tail ++ [0]) [2]) ∧ Below w.heap.size w w' := by
  have hcall := fun W : World => ref_isName_calls s W
  rw [hs] at hcall
  have HS := Lib.hid hS
  have HOK := Lib.hid hok
  have HP := fun (W : World) (h : Below w.heap.size w W) => place_any A1 c1 l s W (Kd.F_now (HS.out.below h).fl) hS.cl n1 hn1 (by omega)
  rw [ht] at HP
  have hrl := Lib.hid (show nr = (2 :: (recB 2 s []).tail).length by rw [hnr.out]; unfold recB; simp)
  clear hS hok
  go_enter Try.func45, Try.ntmps45
  all_goals go_wp2_with (first | (go_at_call 39; refine (hcall _).mono ?_; rintro e w' ⟨rfl, ⟨nq, rfl⟩⟩) | (go_at_call 40; refine (HP _ (by (repeat (first | exact Below.refl _ _ | refine pw_below_drewN ?_ _ | refine Below.drew ?_ | refine Below.alloc ?_ (by first | rfl | omega | (simp; done) | (simp; omega)) _ | refine Below.setCell ?_ (by first | rfl | omega | (simp; done) | (simp; omega)) _)))).mono ?_; rintro e w' ⟨rfl, ⟨np, rfl⟩⟩))
  all_goals (
    refine wp_world (fun W => BX W w.heap.size A0 n0 c0 A1 n1 c1 ∧ Below w.heap.size w W) ⟨BX.new w A0 n0 c0 A1 n1 c1, by (repeat (first | exact Below.refl _ _ | refine pw_below_drewN ?_ _ | refine Below.drew ?_ | refine Below.alloc ?_ (by first | rfl | omega | (simp; done) | (simp; omega)) _ | refine Below.setCell ?_ (by first | rfl | omega | (simp; done) | (simp; omega)) _))⟩ ?_
    rintro W ⟨hbx, hbw⟩
    have x := hbx.two
    have HSW := Lib.hid ((HS.out.away (w.heap.size + 1) (by omega)).below hbw)
    have HX := Lib.hid hbx
    have HW := Lib.hid hbw
    have HLE := Lib.hid hbw.size
    generalize hb0 : w.heap.size = b0 at *
    have HB0 := Lib.hid hb0
    clear hb0
    clear hbx hbw HP hcall HS
    go_region_held3 (fun W' => W'.cell? ⟨b0, 0, none⟩ = some (.slice A0 n0 c0) ∧ W'.cell? ⟨b0, 1, none⟩ = some (.slice A1 n1 c1))
      (first | exact x | exact (HX.out.step (fun k hk => Below.heap_alloc W.drew _ k (by have := HX.out.lt; simp; omega))).two | exact set2_keep HX4.out.cells.1 HX4.out.cells.2.1 | exact HX4.out.two | exact HX3.out.two | exact HX2.out.two)
      (first
        | (go_at_call 56; refine (without_any A1 c1 l n1 s (fun k => ok k ∧ k ≠ b0 + 1) W.drew (fun k hk => ⟨HOK.out k (by have := HX.out.lt; simp at hk; omega), by have := HX.out.lt; simp at hk; omega⟩) (Kd.F_drew HSW.out.fl) HSW.out.cl hn1 h1m mi hmi).mono ?_; rintro e w2 ⟨⟨B2, d2, rfl, hd2, hF2⟩, hb2⟩; have hb2 := undrew' hb2; have HF2 := Lib.hid hF2; have HB2 := Lib.hid hb2; have HX2 := Lib.hid (HX.out.step (fun k hk => hb2.block k (by have := HX.out.lt; omega))); clear hF2 hb2)
        | (go_at_call 43; refine (ref_record2 s (.slice none 0 0) w2 h24).mono ?_; rintro e w3 ⟨⟨v3, rfl, ho3⟩, hb3⟩; obtain ⟨g3, c3, ev3, hc3, hg3, hC3⟩ := rec_form ho3; rw [← hnr.out] at ev3 hc3; subst ev3; have HO3 := Lib.hid ho3; have HC3 := Lib.hid hC3; have HB23 := Lib.hid hb3; have HB3 := Lib.hid (HB2.out.trans (hb3.mono HB2.out.size)); have HX3 := Lib.hid (HX2.out.step (fun k hk => hb3.block k (by have := HX2.out.lt; omega))); clear ho3 hb3 hC3)
        | (go_at_call 41; refine (ref_laid_any A0 n0 c0 img A1 n1 c1 B2 mi d2 g3 nr c3 2 (recB 2 s []).tail (fun k => ok k ∧ k ≠ b0 + 1) w3 (fun k hk => ⟨HOK.out k (by have := HX3.out.lt; omega), by have := HX3.out.lt; omega⟩) (Kd.F_now (HSW.out.below HB3.out).fi) hn0 HC3.out hrl hc3 h20 nn hnn).mono ?_; rintro e w4 ⟨⟨B4, d4, wl, rfl, hd4, hF4, hwr4⟩, hb4⟩; have HF4 := Lib.hid hF4; have HWR4 := Lib.hid hwr4; have HB34 := Lib.hid hb4; have HB4 := Lib.hid (HB3.out.trans (hb4.mono HB3.out.size)); have hx4 := HX3.out.step (fun k hk => hb4.block k (by have := HX3.out.lt; omega)); have HX4 := Lib.hid hx4; obtain ⟨-, -, z2, z3, z4, z5⟩ := hx4.cells; clear hwr4 hb4 hF4 hx4))
    have x4 := set2_keep (p := .slice B4 nn d4) (q := .slice B2 mi d2) HX4.out.cells.1 HX4.out.cells.2.1
    have hq := (blk_set ((blk_set HX4.out.2 0 (.slice B4 nn d4)).trans rfl) 1 (.slice B2 mi d2)).trans rfl
    have hbl := set2_below (w := w4) (b := b0) (p := .slice B4 nn d4) (q := .slice B2 mi d2)
    refine exit_world (fun W5 => W5.cell? ⟨b0 + 1, 0, none⟩ = some (.slice B4 nn d4) ∧ W5.cell? ⟨b0 + 1, 1, none⟩ = some (.slice B2 mi d2) ∧ RefSt W5 ok B4 d4 B2 d2 (img ++ 2 :: (recB 2 s []).tail) (rem l s) ∧ Wr2 W5 b0 wl n0 (0 :: (recB 2 s []).tail ++ [0]) [2] ∧ Below b0 w W5)
      ⟨(blk_cell hq 0).trans rfl, (blk_cell hq 1).trans rfl, ?_, ?_, (HW.out.trans (HB4.out.mono HLE.out)).trans hbl⟩ ?_
    · have h24 : Below w2.heap.size w2 w4 := HB23.out.trans (HB34.out.mono HB23.out.size)
      exact ⟨Kd.F_mono (Kd.F_step HF4.out (fun k hk _ => set2_same hk.2)) (fun k hk => hk.1), by rw [← hnn.out]; exact hd4, Kd.F_mono (Kd.F_step (Kd.F_below HF2.out h24) (fun k hk _ => set2_same hk.2)) (fun k hk => hk.1), by rw [← hmi.out]; exact hd2⟩
    · exact (HWR4.out.step (fun k hk _ => set2_same (by have := HX3.out.lt; omega))).low (by have := HX3.out.lt; omega)
    rintro W5 ⟨u0, u1, hS5, hWr5, hB5⟩
    have HS5 := Lib.hid hS5
    have HWr5 := Lib.hid hWr5
    have HB5 := Lib.hid hB5
    clear hS5 hWr5 hB5 x4 hq hbl
    go_wp2_with fail
    refine bodyPost_ret (by simp [results, Try.results45, go_sem, u0, u1]; try rfl) rfl ?_
    rw [HB0.out]
    exact ⟨⟨_, _, _, _, _, rfl, HS5.out, HWr5.out⟩, HB5.out⟩)

set_option maxRecDepth 100000 in
set_option maxHeartbeats 4000000 in
theorem ref_drop_over (A0 : Option Addr) (n0 c0 : Nat) (A1 : Option Addr) (n1 c1 : Nat) (img : List Int) (l : List S99) (s : ByteArray) (ok : Nat → Prop) (w : World) (hok : ∀ k, w.heap.size ≤ k → ok k)
    (hS : RefSt w ok A0 c0 A1 c1 img l) (_ : Hid (n0 = img.length)) (hn1 : Hid (n1 = l.length)) (h1m : n1 ≤ 1000) (hs : isNameB s = true) (h24 : s.size ≤ 24) (ht : (plc l s).2 = true)
    (nr : Nat) (hnr : Hid (nr = (recB 2 s []).length)) (h20 : Hid (n0 + nr + 1 > 1048576)) (h0m : n0 ≤ 1048576) (mi : Nat) (hmi : Hid (mi = (rem l s).length)) :
    Calls Try.prog 45 #[.agg #[.slice A0 n0 c0, .slice A1 n1 c1], .string s] w fun e w' => e = .returned (.tuple #[.agg #[.slice A0 n0 c0, .slice A1 n1 c1], .slice none 0 0, .int .i64 7]) ∧ Below w.heap.size w w' := by
  have hcall := fun W : World => ref_isName_calls s W
  rw [hs] at hcall
  have HS := Lib.hid hS
  have HOK := Lib.hid hok
  have HP := fun (W : World) (h : Below w.heap.size w W) => place_any A1 c1 l s W (Kd.F_now (HS.out.below h).fl) hS.cl n1 hn1 (by omega)
  rw [ht] at HP
  have hrl := Lib.hid (show nr = (2 :: (recB 2 s []).tail).length by rw [hnr.out]; unfold recB; simp)
  clear hS hok
  go_enter Try.func45, Try.ntmps45
  all_goals go_wp2_with (first | (go_at_call 39; refine (hcall _).mono ?_; rintro e w' ⟨rfl, ⟨nq, rfl⟩⟩) | (go_at_call 40; refine (HP _ (by (repeat (first | exact Below.refl _ _ | refine pw_below_drewN ?_ _ | refine Below.drew ?_ | refine Below.alloc ?_ (by first | rfl | omega | (simp; done) | (simp; omega)) _ | refine Below.setCell ?_ (by first | rfl | omega | (simp; done) | (simp; omega)) _)))).mono ?_; rintro e w' ⟨rfl, ⟨np, rfl⟩⟩))
  all_goals (
    refine wp_world (fun W => BX W w.heap.size A0 n0 c0 A1 n1 c1 ∧ Below w.heap.size w W) ⟨BX.new w A0 n0 c0 A1 n1 c1, by (repeat (first | exact Below.refl _ _ | refine pw_below_drewN ?_ _ | refine Below.drew ?_ | refine Below.alloc ?_ (by first | rfl | omega | (simp; done) | (simp; omega)) _ | refine Below.setCell ?_ (by first | rfl | omega | (simp; done) | (simp; omega)) _))⟩ ?_
    rintro W ⟨hbx, hbw⟩
    have x := hbx.two
    have HSW := Lib.hid ((HS.out.away (w.heap.size + 1) (by omega)).below hbw)
    have HX := Lib.hid hbx
    have HW := Lib.hid hbw
    have HLE := Lib.hid hbw.size
    generalize hb0 : w.heap.size = b0 at *
    have HB0 := Lib.hid hb0
    clear hb0
    clear hbx hbw HP hcall HS
    go_region_held3 (fun W' => W'.cell? ⟨b0, 0, none⟩ = some (.slice A0 n0 c0) ∧ W'.cell? ⟨b0, 1, none⟩ = some (.slice A1 n1 c1))
      (first | exact x | exact (HX.out.step (fun k hk => Below.heap_alloc W.drew _ k (by have := HX.out.lt; simp; omega))).two | exact set2_keep HX4.out.cells.1 HX4.out.cells.2.1 | exact HX4.out.two | exact HX3.out.two | exact HX2.out.two)
      (first
        | (go_at_call 56; refine (without_any A1 c1 l n1 s (fun k => ok k ∧ k ≠ b0 + 1) W.drew (fun k hk => ⟨HOK.out k (by have := HX.out.lt; simp at hk; omega), by have := HX.out.lt; simp at hk; omega⟩) (Kd.F_drew HSW.out.fl) HSW.out.cl hn1 h1m mi hmi).mono ?_; rintro e w2 ⟨⟨B2, d2, rfl, hd2, hF2⟩, hb2⟩; have hb2 := undrew' hb2; have HF2 := Lib.hid hF2; have HB2 := Lib.hid hb2; have HX2 := Lib.hid (HX.out.step (fun k hk => hb2.block k (by have := HX.out.lt; omega))); clear hF2 hb2)
        | (go_at_call 43; refine (ref_record2 s (.slice none 0 0) w2 h24).mono ?_; rintro e w3 ⟨⟨v3, rfl, ho3⟩, hb3⟩; obtain ⟨g3, c3, ev3, hc3, hg3, hC3⟩ := rec_form ho3; rw [← hnr.out] at ev3 hc3; subst ev3; have HO3 := Lib.hid ho3; have HC3 := Lib.hid hC3; have HB23 := Lib.hid hb3; have HB3 := Lib.hid (HB2.out.trans (hb3.mono HB2.out.size)); have HX3 := Lib.hid (HX2.out.step (fun k hk => hb3.block k (by have := HX2.out.lt; omega))); clear ho3 hb3 hC3)
        | (go_at_call 41; refine (ref_laid_full A0 n0 c0 A1 n1 c1 B2 mi d2 (some ⟨g3, 0, none⟩) nr c3 w3 h20.out h0m (by have := hnr.out; rw [recB_len] at this; simp at *; omega)).mono ?_; rintro e w4 ⟨rfl, hb4⟩; have HB34 := Lib.hid hb4; have HB4 := Lib.hid (HB3.out.trans (hb4.mono HB3.out.size)); have hx4 := HX3.out.step (fun k hk => hb4.block k (by have := HX3.out.lt; omega)); have HX4 := Lib.hid hx4; obtain ⟨-, -, z2, z3, z4, z5⟩ := hx4.cells; clear hb4 hx4))
    have hq := (blk_set ((blk_set HX4.out.2 0 (.slice A0 n0 c0)).trans rfl) 1 (.slice A1 n1 c1)).trans rfl
    have hbl := set2_below (w := w4) (b := b0) (p := .slice A0 n0 c0) (q := .slice A1 n1 c1)
    refine exit_world (fun W5 => W5.cell? ⟨b0 + 1, 0, none⟩ = some (.slice A0 n0 c0) ∧ W5.cell? ⟨b0 + 1, 1, none⟩ = some (.slice A1 n1 c1) ∧ Below b0 w W5)
      ⟨(blk_cell hq 0).trans rfl, (blk_cell hq 1).trans rfl, (HW.out.trans (HB4.out.mono HLE.out)).trans hbl⟩ ?_
    rintro W5 ⟨u0, u1, hB5⟩
    have HB5 := Lib.hid hB5
    clear hB5 hq hbl
    go_wp2_with fail
    refine bodyPost_ret (by simp [results, Try.results45, go_sem, u0, u1]; try rfl) rfl ?_
    rw [HB0.out]
    exact ⟨rfl, HB5.out⟩)

end Go.Proofs.Ytcjniogdjbplbaa

/-! St9 -/
namespace Go.Proofs.Ytcjniogdjbplbaa
open Mem Go.RowKit Go.Proofs.YtcjniogdjbplbaaW.PrintWords Go.Proofs.YtcjniogdjbplbaaW.PrintLast Go.Proofs.YtcjniogdjbplbaaW.PrintMore PStorePlays
variable {X : Nat → Prop}

/-- What a call that turns a store comes to: the error, the image, what is kept, the writes. -/
structure Out where
  er : Int
  img : List Int
  l : List S99
  ms : List S52

def laidS (kind : Int) (img : List Int) (l' : List S99) (l : List S99) (rec : List Int) : Out :=
  if img.length + rec.length + 1 > 1048576 then ⟨7, img, l, []⟩ else ⟨0, img ++ kind :: rec.tail, l', [⟨img.length, 0 :: rec.tail ++ [0]⟩, ⟨img.length, [kind]⟩]⟩
def putS (img : List Int) (l : List S99) (s : ByteArray) (b : List Int) : Out :=
  if isNameB s = false then ⟨6, img, l, []⟩ else if 4096 < b.length then ⟨4, img, l, []⟩ else if (plc l s).2 = false ∧ l.length = 16 then ⟨7, img, l, []⟩
  else laidS 1 img (ins l s b) l (recB 1 s b)
def dropS (img : List Int) (l : List S99) (s : ByteArray) : Out :=
  if isNameB s = false then ⟨6, img, l, []⟩ else if (plc l s).2 = false then ⟨211, img, l, []⟩ else laidS 2 img (rem l s) l (recB 2 s [])

/-- The writes' value. -/
def WrAt (w : World) (base : Nat) (v : Value) (ms : List S52) : Prop :=
  (ms = [] ∧ v = .slice none 0 0) ∨ ∃ at_ xs ys, ms = [⟨at_, xs⟩, ⟨at_, ys⟩] ∧ Wr2 w base v at_ xs ys

/-- What a store is behind a call. -/
structure StOut (X : Nat → Prop) (w w' : World) (g M : Nat) (vi vi' wl : Value) (o : Out) : Prop where
  st : StAt X w' g M vi' o.img o.l
  wr : WrAt w' w.heap.size wl o.ms
  at_ : vi'.ownBlock = vi.ownBlock ∨ ∃ k, vi'.ownBlock = some k ∧ w.heap.size ≤ k
  chg : Chg (fun k => ¬ Rest g M vi k) w w'

theorem stOut_same {w w' : World} {g M : Nat} {vi : Value} {img : List Int} {l : List S99} (h : StAt X w g M vi img l) (hb : Below w.heap.size w w') (er : Int) : StOut X w w' g M vi vi (.slice none 0 0) ⟨er, img, l, []⟩ :=
  ⟨h.step hb, .inl ⟨rfl, rfl⟩, .inl rfl, Chg.of_below hb⟩

theorem isNameB_size {s : ByteArray} (h : isNameB s = true) : s.size ≤ 24 := by
  unfold isNameB at h
  simp only [Bool.and_eq_true, decide_eq_true_eq] at h
  exact h.1.2

theorem st_put (g M : Nat) (vi : Value) (img : List Int) (l : List S99) (s : ByteArray) (A : Option Addr) (n c : Nat) (b : List Int) (w : World) (h : StAt X w g M vi img l) (hb : Kd.F (Kd.int .u8) w (Rest g M vi) A b.length b) (hn : Hid (n = b.length)) (hm : s.size ≤ maxLen) :
    Calls Try.prog 10 #[.pointer (some ⟨g, 0, none⟩), .string s, .slice A n c] w fun e w' => ∃ wl vi', e = .returned (.tuple #[wl, .int .i64 (putS img l s b).er]) ∧ StOut X w w' g M vi vi' wl (putS img l s b) := by
  have hnn := hn.out
  unfold putS
  by_cases hs : isNameB s = false
  · rw [if_pos hs]
    refine (st_name g M vi img l s A n c w h hs hm).mono ?_
    rintro e w' ⟨rfl, hB⟩
    exact ⟨_, _, rfl, stOut_same h hB 6⟩
  · have hs' : isNameB s = true := by simpa using hs
    rw [if_neg hs]
    by_cases h4 : 4096 < b.length
    · rw [if_pos h4]
      refine (st_long g M vi img l s A n c w h hs' hm (by omega)).mono ?_
      rintro e w' ⟨rfl, hB⟩
      exact ⟨_, _, rfl, stOut_same h hB 4⟩
    · rw [if_neg h4]
      by_cases h16 : (plc l s).2 = false ∧ l.length = 16
      · rw [if_pos h16]
        refine (st_full g M vi img l s A n c w h hs' hm (by omega) h16.1 h16.2).mono ?_
        rintro e w' ⟨rfl, hB⟩
        exact ⟨_, _, rfl, stOut_same h hB 7⟩
      · rw [if_neg h16]
        have ht : (plc l s).2 = true ∨ ((plc l s).2 = false ∧ l.length < 16) := by
          cases e : (plc l s).2
          · have := h.few
            exact .inr ⟨rfl, by have h5 : ¬ l.length = 16 := fun e2 => h16 ⟨e, e2⟩; omega⟩
          · exact .inl rfl
        unfold laidS
        by_cases h20 : img.length + (recB 1 s b).length + 1 > 1048576
        · rw [if_pos h20]
          refine (st_put_over g M vi img l s A n c b w h (Kd.F_now hb) hn hs' (isNameB_size hs') hm (by omega) ht _ (Lib.hid rfl) _ (Lib.hid rfl) (Lib.hid h20)).mono ?_
          rintro e w' ⟨rfl, hB⟩
          exact ⟨_, _, rfl, stOut_same h hB 7⟩
        · rw [if_neg h20]
          refine (st_put_ok g M vi img l s A n c b w h hb hn hs' (isNameB_size hs') hm (by omega) ht _ (Lib.hid rfl) _ (Lib.hid rfl) (Lib.hid (by omega))).mono ?_
          rintro e w' ⟨⟨wl, vi', rfl, h1, h2, h3⟩, h5⟩
          exact ⟨_, _, rfl, ⟨h1, .inr ⟨_, _, _, rfl, h2⟩, h3, h5⟩⟩

theorem st_drop (g M : Nat) (vi : Value) (img : List Int) (l : List S99) (s : ByteArray) (w : World) (h : StAt X w g M vi img l) (hm : s.size ≤ maxLen) :
    Calls Try.prog 44 #[.pointer (some ⟨g, 0, none⟩), .string s] w fun e w' => ∃ wl vi', e = .returned (.tuple #[wl, .int .i64 (dropS img l s).er]) ∧ StOut X w w' g M vi vi' wl (dropS img l s) := by
  unfold dropS
  by_cases hs : isNameB s = false
  · rw [if_pos hs]
    refine (st_drop_name g M vi img l s w h hs hm).mono ?_
    rintro e w' ⟨rfl, ⟨nq, rfl⟩⟩
    exact ⟨_, _, rfl, stOut_same h (pw_below_drewN (Below.refl _ _) nq) 6⟩
  · have hs' : isNameB s = true := by simpa using hs
    rw [if_neg hs]
    by_cases ht : (plc l s).2 = false
    · rw [if_pos ht]
      refine (st_drop_key g M vi img l s w h hs' hm ht).mono ?_
      rintro e w' ⟨rfl, ⟨nq, rfl⟩⟩
      exact ⟨_, _, rfl, stOut_same h (pw_below_drewN (Below.refl _ _) nq) 211⟩
    · rw [if_neg ht]
      have ht' : (plc l s).2 = true := by simpa using ht
      unfold laidS
      by_cases h20 : img.length + (recB 2 s []).length + 1 > 1048576
      · rw [if_pos h20]
        refine (st_drop_over g M vi img l s w h hs' (isNameB_size hs') hm ht' _ (Lib.hid rfl) _ (Lib.hid rfl) (Lib.hid h20)).mono ?_
        rintro e w' ⟨rfl, hB⟩
        exact ⟨_, _, rfl, stOut_same h hB 7⟩
      · rw [if_neg h20]
        refine (st_drop_ok g M vi img l s w h hs' (isNameB_size hs') hm ht' _ (Lib.hid rfl) _ (Lib.hid rfl) (Lib.hid (by omega))).mono ?_
        rintro e w' ⟨⟨wl, vi', rfl, h1, h2, h3⟩, h5⟩
        exact ⟨_, _, rfl, ⟨h1, .inr ⟨_, _, _, rfl, h2⟩, h3, h5⟩⟩

end Go.Proofs.Ytcjniogdjbplbaa

/-! St10 -/
namespace Go.Proofs.Ytcjniogdjbplbaa
open Mem Go.RowKit Go.Proofs.YtcjniogdjbplbaaW.PrintWords Go.Proofs.YtcjniogdjbplbaaW.PrintLast Go.Proofs.YtcjniogdjbplbaaW.PrintMore PStorePlays

/-- What the document's call comes to. -/
def RefOut (w : World) (ok : Nat → Prop) (o : Out) (e : Ending) (w' : World) : Prop :=
  ∃ B0 d0 B1 d1 wl, e = .returned (.tuple #[.agg #[.slice B0 o.img.length d0, .slice B1 o.l.length d1], wl, .int .i64 o.er]) ∧ RefSt w' ok B0 d0 B1 d1 o.img o.l ∧ WrAt w' w.heap.size wl o.ms ∧ Below w.heap.size w w'

theorem refOut_same {w w' : World} {ok : Nat → Prop} {A0 : Option Addr} {c0 : Nat} {A1 : Option Addr} {c1 : Nat} {img : List Int} {l : List S99} (h : RefSt w ok A0 c0 A1 c1 img l) (hb : Below w.heap.size w w') (er : Int) :
    RefOut w ok ⟨er, img, l, []⟩ (.returned (.tuple #[.agg #[.slice A0 img.length c0, .slice A1 l.length c1], .slice none 0 0, .int .i64 er])) w' :=
  ⟨A0, c0, A1, c1, _, rfl, h.below hb, .inl ⟨rfl, rfl⟩, hb⟩

theorem ref_put (A0 : Option Addr) (c0 : Nat) (A1 : Option Addr) (c1 : Nat) (img : List Int) (l : List S99) (A2 : Option Addr) (n2 c2 : Nat) (b : List Int) (s : ByteArray) (ok : Nat → Prop) (w : World) (hok : ∀ k, w.heap.size ≤ k → ok k)
    (hS : RefSt w ok A0 c0 A1 c1 img l) (hroom : img.length ≤ 1048576) (hfew : l.length ≤ 16) (hb : U8C w A2 b) (hn2 : Hid (n2 = b.length)) :
    Calls Try.prog 12 #[.agg #[.slice A0 img.length c0, .slice A1 l.length c1], .string s, .slice A2 n2 c2] w fun e w' => RefOut w ok (putS img l s b) e w' := by
  have hnn := hn2.out
  unfold putS
  by_cases hs : isNameB s = false
  · rw [if_pos hs]
    refine (ref_put_name A0 _ c0 A1 _ c1 A2 n2 c2 s w hs).mono ?_
    rintro e w' ⟨rfl, hB⟩
    exact refOut_same hS hB 6
  · have hs' : isNameB s = true := by simpa using hs
    rw [if_neg hs]
    by_cases h4 : 4096 < b.length
    · rw [if_pos h4]
      refine (ref_put_long A0 _ c0 A1 _ c1 A2 n2 c2 s w hs' (by omega)).mono ?_
      rintro e w' ⟨rfl, hB⟩
      exact refOut_same hS hB 4
    · rw [if_neg h4]
      by_cases h16 : (plc l s).2 = false ∧ l.length = 16
      · rw [if_pos h16]
        refine (ref_put_full A0 _ c0 A1 _ c1 l A2 n2 c2 s w hs' (by omega) (Kd.F_now hS.fl) hS.cl (Lib.hid rfl) h16.1 h16.2).mono ?_
        rintro e w' ⟨rfl, hB⟩
        exact refOut_same hS hB 7
      · rw [if_neg h16]
        have ht : (plc l s).2 = true ∨ ((plc l s).2 = false ∧ ¬ (l.length : Int) = 16) := by
          cases e : (plc l s).2
          · exact .inr ⟨rfl, fun e2 => h16 ⟨e, by omega⟩⟩
          · exact .inl rfl
        unfold laidS
        by_cases h20 : img.length + (recB 1 s b).length + 1 > 1048576
        · rw [if_pos h20]
          refine (ref_put_over A0 _ c0 A1 _ c1 img l A2 n2 c2 b s ok w hok hS (Lib.hid rfl) (Lib.hid rfl) (by omega) hb hn2 hs' (isNameB_size hs') (by omega) _ (Lib.hid rfl) ht _ (Lib.hid rfl) (Lib.hid h20) hroom _ (Lib.hid rfl)).mono ?_
          rintro e w' ⟨rfl, hB⟩
          exact refOut_same hS hB 7
        · rw [if_neg h20]
          refine (ref_put_laid A0 _ c0 A1 _ c1 img l A2 n2 c2 b s ok w hok hS (Lib.hid rfl) (Lib.hid rfl) (by omega) hb hn2 hs' (isNameB_size hs') (by omega) _ (Lib.hid rfl) ht _ (Lib.hid rfl) (Lib.hid (by omega)) _ (Lib.hid rfl) _ (Lib.hid rfl)).mono ?_
          rintro e w' ⟨⟨B0, d0, B1, d1, wl, rfl, h1, h2⟩, h5⟩
          exact ⟨B0, d0, B1, d1, wl, rfl, h1, .inr ⟨_, _, _, rfl, h2⟩, h5⟩

theorem ref_drop (A0 : Option Addr) (c0 : Nat) (A1 : Option Addr) (c1 : Nat) (img : List Int) (l : List S99) (s : ByteArray) (ok : Nat → Prop) (w : World) (hok : ∀ k, w.heap.size ≤ k → ok k)
    (hS : RefSt w ok A0 c0 A1 c1 img l) (hroom : img.length ≤ 1048576) (hfew : l.length ≤ 16) :
    Calls Try.prog 45 #[.agg #[.slice A0 img.length c0, .slice A1 l.length c1], .string s] w fun e w' => RefOut w ok (dropS img l s) e w' := by
  unfold dropS
  by_cases hs : isNameB s = false
  · rw [if_pos hs]
    refine (ref_drop_name A0 _ c0 A1 _ c1 s w hs).mono ?_
    rintro e w' ⟨rfl, hB⟩
    exact refOut_same hS hB 6
  · have hs' : isNameB s = true := by simpa using hs
    rw [if_neg hs]
    by_cases ht : (plc l s).2 = false
    · rw [if_pos ht]
      refine (ref_drop_key A0 _ c0 A1 _ c1 l s w hs' (Kd.F_now hS.fl) hS.cl (Lib.hid rfl) (by omega) ht).mono ?_
      rintro e w' ⟨rfl, hB⟩
      exact refOut_same hS hB 211
    · rw [if_neg ht]
      have ht' : (plc l s).2 = true := by simpa using ht
      unfold laidS
      by_cases h20 : img.length + (recB 2 s []).length + 1 > 1048576
      · rw [if_pos h20]
        refine (ref_drop_over A0 _ c0 A1 _ c1 img l s ok w hok hS (Lib.hid rfl) (Lib.hid rfl) (by omega) hs' (isNameB_size hs') ht' _ (Lib.hid rfl) (Lib.hid h20) hroom _ (Lib.hid rfl)).mono ?_
        rintro e w' ⟨rfl, hB⟩
        exact refOut_same hS hB 7
      · rw [if_neg h20]
        refine (ref_drop_laid A0 _ c0 A1 _ c1 img l s ok w hok hS (Lib.hid rfl) (Lib.hid rfl) (by omega) hs' (isNameB_size hs') ht' _ (Lib.hid rfl) (Lib.hid (by omega)) _ (Lib.hid rfl) _ (Lib.hid rfl)).mono ?_
        rintro e w' ⟨⟨B0, d0, B1, d1, wl, rfl, h1, h2⟩, h5⟩
        exact ⟨B0, d0, B1, d1, wl, rfl, h1, .inr ⟨_, _, _, rfl, h2⟩, h5⟩

end Go.Proofs.Ytcjniogdjbplbaa

/-! Cl -/
namespace Go.Proofs.Ytcjniogdjbplbaa
open Mem Go.RowKit Go.Proofs.YtcjniogdjbplbaaW.PrintWords Go.Proofs.YtcjniogdjbplbaaW.PrintLast Go.Proofs.YtcjniogdjbplbaaW.PrintMore PStorePlays

theorem own_some {w : World} {base n : Nat} {e : TypeId} {size : Nat} {v : Value} {xs : List Value} (h : w.ownsRow base e size v n xs) (hne : ¬ v = .slice none 0 0) : ∃ g cap, v = .slice (some ⟨g, 0, none⟩) n cap := by
  rcases h.2 with ⟨rfl, _⟩ | ⟨g, cap, cur, rfl, _⟩
  · exact absurd rfl hne
  · exact ⟨g, cap, rfl⟩

theorem own_cap {w : World} {base n cap g : Nat} {e : TypeId} {size : Nat} {xs : List Value} (h : w.ownsRow base e size (.slice (some ⟨g, 0, none⟩) n cap) n xs) : n ≤ cap := by
  rcases h.2 with ⟨e, _⟩ | ⟨g', cap', cur, e, _, _, hnc, _⟩
  · cases e
  · injection e with e1 e2 e3
    subst e3
    exact hnc

theorem clone_nil (w : World) :
    Calls Try.prog 11 #[.slice none 0 0] w fun e w' => e = .returned (.slice none 0 0) ∧ w = w' := by
  have hq := fun (W : World) => Lib.run_eql_slice_nil (P := Try.prog) W 23 5 none 0 0 0 0 Try.underlying23
  go_enter Try.func11, Try.ntmps11
  go_wp2
  go_ret
  exact ⟨rfl, rfl⟩

theorem clone_some (ad : Addr) (c n : Nat) (xs : List Int) (w : World) (hx : U8C w (some ad) xs) (hn : Hid (n = xs.length)) (hl : n ≤ 140737488355328) :
    Calls Try.prog 11 #[.slice (some ad) n c] w fun e w' => ∃ g cap, e = .returned (.slice (some ⟨g, 0, none⟩) n cap) ∧ w'.ownsRow w.heap.size 5 1 (.slice (some ⟨g, 0, none⟩) n cap) n (nums .u8 xs) ∧ Below w.heap.size w w' := by
  have hq := fun (W : World) => Lib.run_eql_slice_nil (P := Try.prog) W 23 5 (some ad) n c 0 0 Try.underlying23
  obtain ⟨i0, hi, hz0, hz1, hz2⟩ := info_parts info5
  have HX := Lib.hid hx
  clear hx
  go_enter Try.func11, Try.ntmps11
  go_wp2_with (first | (at_builtin; refine wpList_append_own _ rfl _ _ 23 rfl w.heap.size 5 i0 (.int .u8 0) 1 1 Try.underlying23 hi hz0 hz1 hz2 rfl (by decide) _ _ _ rfl (World.ownsRow_made w #[] 0 (Nat.le_refl _) (Nat.zero_le _) rfl) ad n c (nums .u8 xs) rfl ?c1 ?c2 ?c3 ?c4 ?c5 ?c6 ?_))
  case c1 => simp [nums, hn.out]
  case c2 =>
    intro j u hj
    have hp : 0 < xs.length := by
      have := (List.getElem?_eq_some_iff.1 hj).1
      simp [nums] at this
      omega
    obtain ⟨ad', e, hc⟩ := C_int_cells HX.out hp
    cases e
    have h := hc j u hj
    rw [World.cell?_alloc_lt _ _ _ (World.block_lt_of_cell? w _ h)]
    exact h
  case c3 => exact one_ints _ _
  case c4 => unfold maxLen; omega
  case c5 => omega
  case c6 => simp
  intro v' w1 hown hg hne
  obtain ⟨g, cap, rfl⟩ := own_some hown hne
  have HO := Lib.hid hown
  have HG := Lib.hid hg
  clear hown hg hne hq
  go_wp2
  go_ret
  exact ⟨g, cap, rfl, HO.out, ((Below.refl w.heap.size w).alloc (Nat.le_refl _) _).grown HG.out (by simp) (fun k hk => by simp [Value.ownBlock] at hk; omega)⟩

def marked (xs : List Int) : List Int := xs ++ [165, 90, 195, 60]

def CloneGives (n : Nat) (xs : List Int) (w : World) (e : Ending) (w' : World) : Prop :=
  ∃ v, e = .returned v ∧ w'.ownsRow w.heap.size 5 1 v n (nums .u8 xs) ∧ Below w.heap.size w w'

theorem roomy_of (n : Nat) (xs : List Int) (w : World) (hn : n ≤ 140737488355000) (A : Option Addr) (c : Nat)
    (hcl : Calls Try.prog 11 #[.slice A n c] w (CloneGives n xs w)) :
    Calls Try.prog 22 #[.slice A n c] w fun e w' => ∃ g cap, e = .returned (.tuple #[.slice (some ⟨g, 0, none⟩) n cap, .slice (some ⟨g, 0, none⟩) (n + 4) cap]) ∧ w'.ownsRow w.heap.size 5 1 (.slice (some ⟨g, 0, none⟩) (n + 4) cap) (n + 4) (nums .u8 (marked xs)) ∧ Below w.heap.size w w' := by
  have HC := Lib.hid hcl
  clear hcl
  obtain ⟨i0, hi, hz0, hz1, hz2⟩ := info_parts info5
  go_enter Try.func22, Try.ntmps22
  go_wp2_with fail
  refine HC.out.mono ?_
  rintro e w1 ⟨v, rfl, ho, hb⟩
  have HO := Lib.hid ho
  have HB := Lib.hid hb
  clear ho hb
  go_wp2_with (first | (at_builtin; refine wpList_append_own _ rfl _ _ 23 rfl w.heap.size 5 i0 (.int .u8 0) 1 1 Try.underlying23 hi hz0 hz1 hz2 rfl (by decide) v n (nums .u8 xs) rfl (HO.out.alloc _) ⟨w1.heap.size, 0, none⟩ 4 4 (nums .u8 [165, 90, 195, 60]) rfl rfl ?c2 ?c3 ?c4 ?c5 ?c6 ?_))
  case c2 =>
    intro j u hj
    rw [add_plain, World.cell?_alloc_new]
    match j, hj with
    | 0, hj => exact hj
    | 1, hj => exact hj
    | 2, hj => exact hj
    | 3, hj => exact hj
    | j + 4, hj => simp [nums] at hj
  case c3 => exact one_ints _ _
  case c4 => unfold maxLen; omega
  case c5 => omega
  case c6 => have := HB.out.size; simp; omega
  intro v' w2 hown hg hne
  have hne' : ¬ v' = .slice none 0 0 := by simpa using hne
  obtain ⟨g, cap, rfl⟩ := own_some hown hne'
  have hcap := own_cap hown
  have HO2 := Lib.hid hown
  have HG := Lib.hid hg
  clear hown hg hne hne'
  have hsl := cut_to (P := Try.prog) 23 5 .i64 Try.underlying23 hi (some ⟨g, 0, none⟩) (n + 4) cap (n : Int) (by omega) (by omega) hcap
  rw [Int.toNat_natCast] at hsl
  go_wp2
  go_ret2
  refine ⟨g, cap, rfl, ?_, ?_⟩
  · have := HO2.out
    rwa [← nums_append] at this
  · refine (HB.out.alloc HB.out.size _).grown HG.out (by have := HB.out.size; simp; omega) (fun k hk => ?_)
    exact (HO.out.lt k hk).1

/-- Roomy, of any bytes. -/
theorem roomy_any (A : Option Addr) (c n : Nat) (xs : List Int) (w : World) (hx : U8C w A xs) (hn : n = xs.length) (hc : A = none → c = 0) (hl : n ≤ 140737488355000) :
    Calls Try.prog 22 #[.slice A n c] w fun e w' => ∃ g cap, e = .returned (.tuple #[.slice (some ⟨g, 0, none⟩) n cap, .slice (some ⟨g, 0, none⟩) (n + 4) cap]) ∧ w'.ownsRow w.heap.size 5 1 (.slice (some ⟨g, 0, none⟩) (n + 4) cap) (n + 4) (nums .u8 (marked xs)) ∧ Below w.heap.size w w' := by
  cases A with
  | none =>
    obtain rfl := hc rfl
    have h0 : xs = [] := by
      rcases Nat.eq_zero_or_pos xs.length with h | h
      · exact List.eq_nil_of_length_eq_zero h
      · obtain ⟨ad, e, _⟩ := C_int_cells hx h
        cases e
    subst h0
    subst hn
    exact roomy_of 0 [] w (by omega) none 0 ((clone_nil w).mono fun e w' ⟨h1, h2⟩ => by subst h2; exact ⟨_, h1, World.ownsRow_nil _ _ _ _, Below.refl _ _⟩)
  | some ad =>
    exact roomy_of n xs w hl (some ad) c ((clone_some ad c n xs w hx hn (by omega)).mono fun e w' ⟨g, cap, h1, h2, h3⟩ => ⟨_, h1, h2, h3⟩)
theorem bytesEq (a b : List Int) (hm : a.length ≤ 140737488355328) : ∃ k, slices_Equal_byte_byte.f k a b = some (decide (a = b)) := by
  unfold slices_Equal_byte_byte.f
  by_cases hl : (a.length : Int) = b.length
  · simp only [if_pos hl]
    have key : ∀ d j : Nat, j + d = a.length → ∃ k, slices_Equal_byte_byte.l0 k a b (a.length : Int) j = some (decide (a.drop j = b.drop j)) := by
      intro d
      induction d with
      | zero =>
        intro j hj
        refine ⟨1, ?_⟩
        simp only [slices_Equal_byte_byte.l0]
        rw [if_neg (by omega), List.drop_of_length_le (by omega), List.drop_of_length_le (by omega)]
        simp
      | succ d ih =>
        intro j hj
        obtain ⟨k, hk⟩ := ih (j + 1) (by omega)
        refine ⟨k + 1, ?_⟩
        have ha : j < a.length := by omega
        have hb : j < b.length := by omega
        have e1 : rd a j = a[j] := by simp [rd, ha]
        have e2 : rd b j = b[j] := by simp [rd, hb]
        have e3 : wrap64 ((j : Int) + 1) = ((j + 1 : Nat) : Int) := by unfold wrap64; omega
        simp only [slices_Equal_byte_byte.l0]
        rw [if_pos (by omega), if_pos (by omega), if_pos (by omega), if_pos (by omega), e1, e2, e3, hk]
        rw [List.drop_eq_getElem_cons ha, List.drop_eq_getElem_cons hb]
        by_cases h : a[j] = b[j]
        · rw [if_pos h]
          congr 1
          rw [decide_eq_decide, List.cons.injEq]
          exact ⟨fun e => ⟨h, e⟩, fun e => e.2⟩
        · rw [if_neg h]
          congr 1
          symm
          rw [decide_eq_false_iff_not, List.cons.injEq]
          exact fun e => h e.1
    exact key a.length 0 (by omega)
  · simp only [if_neg hl]
    refine ⟨0, ?_⟩
    have : a ≠ b := fun e => hl (by rw [e])
    simp [this]

theorem untouchedOk (xs : List Int) (hm : xs.length ≤ 140737488355000) : ∃ k, provisoplain_Untouched.f k (marked xs) xs = some true := by
  obtain ⟨k, hk⟩ := bytesEq xs xs (by omega)
  refine ⟨k, ?_⟩
  unfold provisoplain_Untouched.f
  have hl : (marked xs).length = xs.length + 4 := by simp [marked]
  have w1 : wrap64 ((xs.length : Int) + 1) = (xs.length : Int) + 1 := by unfold wrap64; omega
  have w2 : wrap64 ((xs.length : Int) + 2) = (xs.length : Int) + 2 := by unfold wrap64; omega
  have w3 : wrap64 ((xs.length : Int) + 3) = (xs.length : Int) + 3 := by unfold wrap64; omega
  have t : (marked xs).take ((xs.length : Int)).toNat = xs := by simp [marked]
  have r0 : rd (marked xs) xs.length = 165 := by simp [rd, marked]
  have r1 : rd (marked xs) ((xs.length : Int) + 1) = 90 := by
    have : ((xs.length : Int) + 1).toNat = xs.length + 1 := by omega
    simp [rd, marked, this]
  have r2 : rd (marked xs) ((xs.length : Int) + 2) = 195 := by
    have : ((xs.length : Int) + 2).toNat = xs.length + 2 := by omega
    simp [rd, marked, this]
  have r3 : rd (marked xs) ((xs.length : Int) + 3) = 60 := by
    have : ((xs.length : Int) + 3).toNat = xs.length + 3 := by omega
    simp [rd, marked, this]
  rw [w1, w2, w3, t, hk, r0, r1, r2, r3]
  simp only [decide_true, Option.bind_some, if_true]
  rw [if_pos (by omega), if_pos (by omega), if_pos (by omega), if_pos (by omega), if_pos (by omega), if_pos (by omega), if_pos (by omega), if_pos (by omega), if_pos (by omega)]
  rfl
theorem untouched_c (A1 : Option Addr) (c1 : Nat) (A2 : Option Addr) (c2 : Nat) (xs : List Int) (n : Nat) (w : World) (h1 : U8C w A1 (marked xs)) (hc1 : n + 4 ≤ c1) (h2 : U8C w A2 xs) (hc2 : xs.length ≤ c2) (hm : xs.length ≤ 140737488355000) (hn : Hid (n = xs.length)) :
    Calls Try.prog 24 #[.slice A1 (n + 4) c1, .slice A2 n c2] w fun e w' => e = .returned (.bool true) ∧ Drawn0 w w' := by
  obtain ⟨k, hk⟩ := untouchedOk xs hm
  have hl : (marked xs).length = xs.length + 4 := by simp [marked]
  have := provisoplain_Untouched.calls k A1 c1 (marked xs) A2 c2 xs true w h1 (by rw [hl, ← hn.out]; exact hc1) h2 hc2 hk
  rw [hl, ← hn.out] at this
  exact this

end Go.Proofs.Ytcjniogdjbplbaa

/-! St11 -/
namespace Go.Proofs.Ytcjniogdjbplbaa
open Mem Go.RowKit Go.Proofs.YtcjniogdjbplbaaW.PrintWords Go.Proofs.YtcjniogdjbplbaaW.PrintLast Go.Proofs.YtcjniogdjbplbaaW.PrintMore PStorePlays

theorem C52_two {w : World} {L : Nat} {a : Int} {A1 A2 : Option Addr} {c1 c2 : Nat} {xs ys : List Int} {fr : Nat × Nat}
    (hL : w.heap[L]? = some (.cells #[.int .i64 a, .slice A1 xs.length c1, .int .i64 a, .slice A2 ys.length c2] 52 fr)) (h1 : U8C w A1 xs) (hc1 : xs.length ≤ c1) (h2 : U8C w A2 ys) (hc2 : ys.length ≤ c2) :
    Kd.C k52 w (some ⟨L, 0, none⟩) 2 [⟨a, xs⟩, ⟨a, ys⟩] := by
  refine ⟨rfl, by omega, fun _ => ⟨_, rfl, fun j p hj => ?_⟩⟩
  have hcell : ∀ i, w.cell? ((⟨L, 0, none⟩ : Addr).add i) = (#[Value.int .i64 a, .slice A1 xs.length c1, .int .i64 a, .slice A2 ys.length c2] : Array Value)[i]? := fun i => by
    rw [add_plain, cell_of_row w L i _ _ _ hL]
  match j, hj with
  | 0, hj =>
    simp at hj
    subst hj
    refine ⟨[.int .i64 a, .slice A1 xs.length c1], rfl, k52_mk w ⟨a, xs⟩ hc1 h1, fun i u hu => ?_⟩
    rw [show k52.sz = 2 from rfl, hcell]
    match i, hu with
    | 0, hu => simpa using hu
    | 1, hu => simpa using hu
  | 1, hj =>
    simp at hj
    subst hj
    refine ⟨[.int .i64 a, .slice A2 ys.length c2], rfl, k52_mk w ⟨a, ys⟩ hc2 h2, fun i u hu => ?_⟩
    rw [show k52.sz = 2 from rfl, hcell]
    match i, hu with
    | 0, hu => simpa using hu
    | 1, hu => simpa using hu

/-- What is read of a call's writes. -/
theorem WrAt.reads {w : World} {base : Nat} {v : Value} {ms : List S52} (h : WrAt w base v ms) : ∃ A c, v = .slice A ms.length c ∧ ms.length ≤ c ∧ Kd.C k52 w A ms.length ms := by
  rcases h with ⟨rfl, rfl⟩ | ⟨at_, xs, ys, rfl, L, s1, s2, rfl, _, hL, h1, h2, _⟩
  · exact ⟨none, 0, rfl, Nat.le_refl _, Kd.C_nil _ _⟩
  · obtain ⟨A1, c1, rfl, _, hc1, _, hC1⟩ := own_C8 h1
    obtain ⟨A2, c2, rfl, _, hc2, _, hC2⟩ := own_C8 h2
    exact ⟨_, 2, rfl, by simp, C52_two hL hC1 hc1 hC2 hc2⟩
theorem WrAt.step {w w' : World} {base : Nat} {v : Value} {ms : List S52} (h : WrAt w base v ms) (hk : ∀ k, base ≤ k → k < w.heap.size → w'.heap[k]? = w.heap[k]?) : WrAt w' base v ms := by
  rcases h with h | ⟨at_, xs, ys, h1, h2⟩
  · exact .inl h
  · exact .inr ⟨at_, xs, ys, h1, h2.step hk⟩
theorem WrAt.below {w w' : World} {base : Nat} {v : Value} {ms : List S52} (h : WrAt w base v ms) (hb : Below w.heap.size w w') : WrAt w' base v ms := h.step (fun k _ hlt => hb.block k hlt)

theorem same_from (ms : List S52) (hl : ms.length ≤ 1000) (hm : ∀ x ∈ ms, x.f1.length ≤ 140737488355328) (d : Nat) : ∀ i : Nat, i + d = ms.length → ∃ K, ∀ k, K ≤ k → provisoplain_SameWrites.l0 k ms ms (ms.length : Int) i = some true := by
  induction d with
  | zero =>
    intro i hi
    refine ⟨1, fun k hk => ?_⟩
    obtain ⟨m, rfl⟩ : ∃ m, k = m + 1 := ⟨k - 1, by omega⟩
    simp only [provisoplain_SameWrites.l0]
    rw [if_neg (by omega)]
  | succ d ih =>
    intro i hi
    have hlt : i < ms.length := by omega
    obtain ⟨K, hK⟩ := ih (i + 1) (by omega)
    have er : rd_T52 ms (i : Int) = ms[i] := by simp [rd_T52, hlt]
    obtain ⟨K2, hK2⟩ := bytesEq ms[i].f1 ms[i].f1 (hm _ (List.getElem_mem hlt))
    have hK3 : ∀ k, K2 ≤ k → slices_Equal_byte_byte.f k ms[i].f1 ms[i].f1 = some true := by
      intro k hk
      induction hk with
      | refl => simpa using hK2
      | step _ ih2 => exact slices_Equal_byte_byte.mono _ _ _ _ ih2
    refine ⟨max K K2 + 1, fun k hk => ?_⟩
    obtain ⟨m, rfl⟩ : ∃ m, k = m + 1 := ⟨k - 1, by omega⟩
    simp only [provisoplain_SameWrites.l0]
    have hw : wrap64 ((i : Int) + 1) = ((i + 1 : Nat) : Int) := by unfold wrap64; omega
    rw [if_pos (by omega), if_pos (by omega), if_pos (by omega), if_pos (by omega), if_pos trivial, er, hK3 m (by omega), Option.bind_some, if_pos rfl, hw]
    exact hK m (by omega)
theorem same_writes (ms : List S52) (hl : ms.length ≤ 1000) (hm : ∀ x ∈ ms, x.f1.length ≤ 140737488355328) : ∃ k, provisoplain_SameWrites.f k ms ms = some true := by
  obtain ⟨K, hK⟩ := same_from ms hl hm ms.length 0 (by omega)
  exact ⟨K, by unfold provisoplain_SameWrites.f; rw [if_pos rfl]; exact hK K (Nat.le_refl _)⟩

theorem same_any (v1 v2 : Value) (ms : List S52) (b1 b2 : Nat) (w : World) (h1 : WrAt w b1 v1 ms) (h2 : WrAt w b2 v2 ms) (hl : ms.length ≤ 1000) (hm : ∀ x ∈ ms, x.f1.length ≤ 140737488355328) :
    Calls Try.prog 16 #[v1, v2] w fun e w' => e = .returned (.bool true) ∧ Drawn0 w w' := by
  obtain ⟨A1, c1, rfl, hc1, hC1⟩ := h1.reads
  obtain ⟨A2, c2, rfl, hc2, hC2⟩ := h2.reads
  obtain ⟨k, hk⟩ := same_writes ms hl hm
  exact provisoplain_SameWrites.calls k A1 c1 ms A2 c2 ms true w hC1 hc1 hC2 hc2 hk

end Go.Proofs.Ytcjniogdjbplbaa
