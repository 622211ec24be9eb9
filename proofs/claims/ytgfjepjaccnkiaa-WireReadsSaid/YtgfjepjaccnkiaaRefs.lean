/- The plain laws of provisoref01's Number and Take, of slices.Equal over bytes, and of Untouched. -/
import Derived.Test.YtgfjepjaccnkiaaOneC
import Derived.Test.YtgfjepjaccnkiaaNames
namespace Go.Proofs.Ytgfjepjaccnkiaa
open Mem Go.RowKit Go.Proofs.YtgfjepjaccnkiaaW.PrintWords Go.Proofs.YtgfjepjaccnkiaaW.PrintLast Go.Proofs.YtgfjepjaccnkiaaW.PrintMore PWireReads

def numI (l : List Int) : Int := l.foldl (fun a c => a * 256 + c) 0
theorem numI_snoc (l : List Int) (k : Nat) (h : k < l.length) : numI (l.take (k + 1)) = numI (l.take k) * 256 + rd l k := by
  have e : rd l k = l[k] := by simp [rd, h]
  rw [List.take_succ_eq_append_getElem h, numI, List.foldl_append, e]; rfl
theorem num32_mod (l : List Int) : num32 l = numI l % 4294967296 := by
  have : ∀ (l : List Int) (a : Int), l.foldl (fun a c => (a * 256 + c) % 4294967296) (a % 4294967296) = (l.foldl (fun a c => a * 256 + c) a) % 4294967296 := by
    intro l
    induction l with
    | nil => intro a; simp
    | cons c l ih =>
      intro a
      simp only [List.foldl_cons]
      rw [← ih]
      congr 1
      omega
  exact this l 0
theorem numI_bd (l : List Int) (h : ∀ x ∈ l, 0 ≤ x ∧ x ≤ 255) : 0 ≤ numI l ∧ numI l < 256 ^ l.length := by
  have : ∀ (l : List Int) (a : Int) (b : Nat), (∀ x ∈ l, 0 ≤ x ∧ x ≤ 255) → 0 ≤ a → a < 256 ^ b → 0 ≤ l.foldl (fun a c => a * 256 + c) a ∧ l.foldl (fun a c => a * 256 + c) a < 256 ^ (b + l.length) := by
    intro l
    induction l with
    | nil => intro a b _ h0 h1; exact ⟨h0, by simpa using h1⟩
    | cons c l ih =>
      intro a b hl h0 h1
      have hc := hl c (by simp)
      have := ih (a * 256 + c) (b + 1) (fun x hx => hl x (by simp [hx])) (by omega) (by rw [Int.pow_succ]; omega)
      simp only [List.foldl_cons, List.length_cons]
      rw [show b + (l.length + 1) = b + 1 + l.length from by omega]
      exact this
  have := this l 0 0 h (by omega) (by simp)
  simpa [numI] using this
theorem num32_small (l : List Int) (h : ∀ x ∈ l, 0 ≤ x ∧ x ≤ 255) (hl : l.length ≤ 4) : num32 l = numI l := by
  have hb := numI_bd l h
  have : (256 : Int) ^ l.length ≤ 4294967296 := by
    have : l.length = 0 ∨ l.length = 1 ∨ l.length = 2 ∨ l.length = 3 ∨ l.length = 4 := by omega
    rcases this with e | e | e | e | e <;> rw [e] <;> decide
  rw [num32_mod]
  omega

/-- The bytes from a place on. -/
def midL (xs : List Int) (at_ n : Nat) : List Int := (xs.take (at_ + n)).drop at_
theorem midL_len {xs : List Int} {at_ n : Nat} (h : at_ + n ≤ xs.length) : (midL xs at_ n).length = n := by simp [midL]; omega
theorem midL_rd {xs : List Int} {at_ n j : Nat} (h : j < n) : rd (midL xs at_ n) j = rd xs ((at_ : Int) + j) := by
  unfold rd midL
  rw [List.getD_eq_getElem?_getD, List.getD_eq_getElem?_getD, List.getElem?_drop, List.getElem?_take]
  rw [if_pos (by omega), Int.toNat_natCast, show ((at_ : Int) + j).toNat = at_ + j from by omega]
theorem midL_bytes {xs : List Int} (h : ∀ x ∈ xs, 0 ≤ x ∧ x ≤ 255) (at_ n : Nat) : ∀ x ∈ midL xs at_ n, 0 ≤ x ∧ x ≤ 255 :=
  fun x hx => h x (List.mem_of_mem_take (List.mem_of_mem_drop hx))

def numOf (xs : List Int) (at_ n : Nat) : Int := if n = 4 then wrap32 (num32 (midL xs at_ n)) else num32 (midL xs at_ n)

theorem refNumber_short (xs : List Int) (at_ n : Nat) (hm : xs.length ≤ 140737488355328) (ha : at_ ≤ xs.length) (h : xs.length < at_ + n) : provisoref01_Number.f 0 xs at_ n = some (0, (at_ : Int), 2) := by
  unfold provisoref01_Number.f
  rw [if_pos (by unfold wrap64; omega)]

theorem refNumber_ok (xs : List Int) (at_ n : Nat) (hm : xs.length ≤ 140737488355328) (hb : ∀ x ∈ xs, 0 ≤ x ∧ x ≤ 255) (h : at_ + n ≤ xs.length) (hn : n ≤ 4) : ∃ k, provisoref01_Number.f k xs at_ n = some (numOf xs at_ n, ((at_ + n : Nat) : Int), 0) := by
  have hlen := midL_len h
  have key : ∀ d j : Nat, j + d = n → ∃ k, provisoref01_Number.l0 k xs at_ n (numI ((midL xs at_ n).take j)) j = some (numOf xs at_ n, ((at_ + n : Nat) : Int), 0) := by
    intro d
    induction d with
    | zero =>
      intro j hj
      obtain rfl : j = n := by omega
      refine ⟨1, ?_⟩
      simp only [provisoref01_Number.l0]
      rw [if_neg (by omega), List.take_of_length_le (by omega)]
      have e := num32_small _ (midL_bytes hb at_ j) (by omega)
      have hbd := num32_bd (midL xs at_ j)
      rw [e] at hbd
      have hw : wrap64 ((at_ : Int) + j) = ((at_ + j : Nat) : Int) := by unfold wrap64; omega
      unfold numOf
      rw [e, hw]
      by_cases h4 : j = 4
      · rw [if_pos (by omega), if_pos h4]
        by_cases hbig : numI (midL xs at_ j) ≥ 2147483648
        · rw [if_pos hbig]; congr 2; unfold wrap64 wrap32; omega
        · rw [if_neg hbig]; congr 2; unfold wrap32; omega
      · rw [if_neg (by omega), if_neg h4]
    | succ d ih =>
      intro j hj
      obtain ⟨k, hk⟩ := ih (j + 1) (by omega)
      refine ⟨k + 1, ?_⟩
      simp only [provisoref01_Number.l0]
      have hw : wrap64 ((at_ : Int) + j) = (at_ : Int) + j := by unfold wrap64; omega
      have hbd := numI_bd ((midL xs at_ n).take j) (fun x hx => midL_bytes hb at_ n x (List.mem_of_mem_take hx))
      have hp : (256 : Int) ^ ((midL xs at_ n).take j).length ≤ 16777216 := by
        rw [List.length_take, hlen]
        have : min j n = 0 ∨ min j n = 1 ∨ min j n = 2 ∨ min j n = 3 := by omega
        rcases this with e | e | e | e <;> rw [e] <;> decide
      have hc : 0 ≤ rd xs ((at_ : Int) + j) ∧ rd xs ((at_ : Int) + j) ≤ 255 := by
        have := mid_bytes hb xs.length 0 (at_ + j)
        simp at this
        exact this
      rw [if_pos (by omega), hw, if_pos (by omega), if_pos (by omega)]
      have e1 : wrap64 (wrap64 (numI ((midL xs at_ n).take j) * 256) + wrap64 (rd xs ((at_ : Int) + j))) = numI ((midL xs at_ n).take (j + 1)) := by
        rw [numI_snoc _ _ (by omega), midL_rd (by omega)]
        unfold wrap64; omega
      have e2 : wrap64 ((j : Int) + 1) = ((j + 1 : Nat) : Int) := by unfold wrap64; omega
      rw [e1, e2]
      exact hk
  obtain ⟨k, hk⟩ := key n 0 (by omega)
  refine ⟨k, ?_⟩
  unfold provisoref01_Number.f
  rw [if_neg (by unfold wrap64; omega)]
  simpa [numI] using hk

theorem refTake_neg (xs : List Int) (at_ : Nat) (n : Int) (h : n < 0) : provisoref01_Take.f 0 xs at_ n = some ([], (at_ : Int), 1) := by
  unfold provisoref01_Take.f
  rw [if_pos h]
theorem refTake_short (xs : List Int) (at_ : Nat) (n : Int) (hm : xs.length ≤ 140737488355328) (h0 : 0 ≤ n) (ha : at_ ≤ xs.length) (h : (xs.length : Int) - at_ < n) : provisoref01_Take.f 0 xs at_ n = some ([], (at_ : Int), 2) := by
  unfold provisoref01_Take.f
  rw [if_neg (by omega), if_pos (by unfold wrap64; omega)]
theorem refTake_ok (xs : List Int) (at_ n : Nat) (hm : xs.length ≤ 140737488355000) (h : at_ + n ≤ xs.length) : ∃ k, provisoref01_Take.f k xs at_ n = some (midL xs at_ n, ((at_ + n : Nat) : Int), 0) := by
  have hlen := midL_len h
  have key : ∀ d j : Nat, j + d = n → ∃ k, provisoref01_Take.l0 k xs at_ n ((midL xs at_ n).take j) j = some (midL xs at_ n, ((at_ + n : Nat) : Int), 0) := by
    intro d
    induction d with
    | zero =>
      intro j hj
      obtain rfl : j = n := by omega
      refine ⟨1, ?_⟩
      simp only [provisoref01_Take.l0]
      have hw : wrap64 ((at_ : Int) + j) = ((at_ + j : Nat) : Int) := by unfold wrap64; omega
      rw [if_neg (by omega), List.take_of_length_le (by omega), hw]
    | succ d ih =>
      intro j hj
      obtain ⟨k, hk⟩ := ih (j + 1) (by omega)
      refine ⟨k + 1, ?_⟩
      simp only [provisoref01_Take.l0]
      have hw : wrap64 ((at_ : Int) + j) = (at_ : Int) + j := by unfold wrap64; omega
      have e2 : wrap64 ((j : Int) + 1) = ((j + 1 : Nat) : Int) := by unfold wrap64; omega
      rw [if_pos (by omega), hw, if_pos (by omega), if_pos (by omega), if_pos (by rw [List.length_take]; omega), e2]
      have e1 : (midL xs at_ n).take j ++ [rd xs ((at_ : Int) + j)] = (midL xs at_ n).take (j + 1) := by
        rw [List.take_succ_eq_append_getElem (by omega), ← midL_rd (n := n) (by omega)]
        congr 2
        have : j < (midL xs at_ n).length := by omega
        simp [rd, this]
      rw [e1]
      exact hk
  obtain ⟨k, hk⟩ := key n 0 (by omega)
  refine ⟨k, ?_⟩
  unfold provisoref01_Take.f
  rw [if_neg (by omega), if_neg (by unfold wrap64; omega)]
  simpa using hk

theorem bytesEq (a b : List Int) (hm : a.length ≤ 140737488355328) : ∃ k, slices_Equal_byte_byte.f k a b = some (decide (a = b)) := by
  unfold slices_Equal_byte_byte.f
  by_cases hl : (a.length : Int) = b.length
  · simp only [if_pos hl]
    have key : ∀ d j : Nat, j + d = a.length → ∃ k, slices_Equal_byte_byte.l0 k a b (a.length : Int) j = some (decide (a.drop j = b.drop j)) := by
      intro d
      induction d with
      | zero =>
        intro j hj
        refine ⟨1, ?_⟩
        simp only [slices_Equal_byte_byte.l0]
        rw [if_neg (by omega), List.drop_of_length_le (by omega), List.drop_of_length_le (by omega)]
        simp
      | succ d ih =>
        intro j hj
        obtain ⟨k, hk⟩ := ih (j + 1) (by omega)
        refine ⟨k + 1, ?_⟩
        have ha : j < a.length := by omega
        have hb : j < b.length := by omega
        have e1 : rd a j = a[j] := by simp [rd, ha]
        have e2 : rd b j = b[j] := by simp [rd, hb]
        have e3 : wrap64 ((j : Int) + 1) = ((j + 1 : Nat) : Int) := by unfold wrap64; omega
        simp only [slices_Equal_byte_byte.l0]
        rw [if_pos (by omega), if_pos (by omega), if_pos (by omega), if_pos (by omega), e1, e2, e3, hk]
        rw [List.drop_eq_getElem_cons ha, List.drop_eq_getElem_cons hb]
        by_cases h : a[j] = b[j]
        · rw [if_pos h]
          congr 1
          rw [decide_eq_decide, List.cons.injEq]
          exact ⟨fun e => ⟨h, e⟩, fun e => e.2⟩
        · rw [if_neg h]
          congr 1
          symm
          rw [decide_eq_false_iff_not, List.cons.injEq]
          exact fun e => h e.1
    exact key a.length 0 (by omega)
  · simp only [if_neg hl]
    refine ⟨0, ?_⟩
    have : a ≠ b := fun e => hl (by rw [e])
    simp [this]

theorem untouchedOk (xs : List Int) (hm : xs.length ≤ 140737488355000) : ∃ k, provisoplain_Untouched.f k (marked xs) xs = some true := by
  obtain ⟨k, hk⟩ := bytesEq xs xs (by omega)
  refine ⟨k, ?_⟩
  unfold provisoplain_Untouched.f
  have hl : (marked xs).length = xs.length + 4 := by simp [marked]
  have w1 : wrap64 ((xs.length : Int) + 1) = (xs.length : Int) + 1 := by unfold wrap64; omega
  have w2 : wrap64 ((xs.length : Int) + 2) = (xs.length : Int) + 2 := by unfold wrap64; omega
  have w3 : wrap64 ((xs.length : Int) + 3) = (xs.length : Int) + 3 := by unfold wrap64; omega
  have t : (marked xs).take ((xs.length : Int)).toNat = xs := by simp [marked]
  have r0 : rd (marked xs) xs.length = 165 := by simp [rd, marked]
  have r1 : rd (marked xs) ((xs.length : Int) + 1) = 90 := by
    have : ((xs.length : Int) + 1).toNat = xs.length + 1 := by omega
    simp [rd, marked, this]
  have r2 : rd (marked xs) ((xs.length : Int) + 2) = 195 := by
    have : ((xs.length : Int) + 2).toNat = xs.length + 2 := by omega
    simp [rd, marked, this]
  have r3 : rd (marked xs) ((xs.length : Int) + 3) = 60 := by
    have : ((xs.length : Int) + 3).toNat = xs.length + 3 := by omega
    simp [rd, marked, this]
  rw [w1, w2, w3, t, hk, r0, r1, r2, r3]
  simp only [decide_true, Option.bind_some, if_true]
  rw [if_pos (by omega), if_pos (by omega), if_pos (by omega), if_pos (by omega), if_pos (by omega), if_pos (by omega), if_pos (by omega), if_pos (by omega), if_pos (by omega)]
  rfl
end Go.Proofs.Ytgfjepjaccnkiaa
