/- look, of any call; what all readers and places are, at each point of the law's loop. -/
import Derived.Test.YtgfjepjaccnkiaaOneG
import Derived.Test.YtgfjepjaccnkiaaOneH
namespace Go.Proofs.Ytgfjepjaccnkiaa
open Mem Go.RowKit Go.Proofs.YtgfjepjaccnkiaaW.PrintWords Go.Proofs.YtgfjepjaccnkiaaW.PrintLast Go.Proofs.YtgfjepjaccnkiaaW.PrintMore PWireReads

theorem tmod_range (a n : Int) (ha : 0 ≤ a) (hn : 0 < n) : 0 ≤ a.tmod n ∧ a.tmod n < n :=
  ⟨Int.tmod_nonneg n ha, Int.tmod_lt_of_pos a hn⟩
theorem u64_range (a : Int) : 0 ≤ IntKind.u64.wrap a ∧ IntKind.u64.wrap a < 18446744073709551616 := by
  simp only [IntKind.wrap]
  simp [IntKind.bits, IntKind.signed]
  omega
theorem u64_same (a : Int) (h0 : 0 ≤ a) (h1 : a < 9223372036854775808) : IntKind.u64.wrap a = a := by
  simp only [IntKind.wrap]
  simp [IntKind.bits, IntKind.signed]
  omega
theorem pick_lt (a n : Int) (h0 : 0 < n) (h1 : n < 4611686018427387904) : ∃ i : Nat, (i : Int) < n ∧ provisolaw01_pick.f a n = some (i : Int) := by
  have hr := u64_range a
  have hn := u64_same n (by omega) (by omega)
  have ht := tmod_range (IntKind.u64.wrap a) n hr.1 h0
  refine ⟨((IntKind.u64.wrap a).tmod n).toNat, by omega, ?_⟩
  unfold provisolaw01_pick.f
  rw [hn, if_neg (by omega)]
  congr 1
  unfold wrap64
  omega

/-- What the two pointers are, and the world. -/
def LookRes (w : World) (g q : Nat) (A B : Option Addr) (c d : Nat) (xs : List Int) (rv pv : Value) (w' : World) : Prop :=
  (rv = .pointer none ∧ pv = .pointer none ∧ (∃ at1, Two w' g q A B c d xs at1) ∧ Chg2 w w' g q) ∨
  ∃ ys b p A2 B2 c2 d2, rv = .pointer (some ⟨b, 0, none⟩) ∧ pv = .pointer (some ⟨p, 0, none⟩) ∧ w.heap.size ≤ b ∧ w.heap.size ≤ p ∧ (∃ at1, Two w' g q A B c d xs at1) ∧ Two w' b p A2 B2 c2 d2 ys 0 ∧ Chg2 w w' g q ∧
    (∀ ad, A2 = some ad → w.heap.size ≤ ad.block) ∧ (∀ ad, B2 = some ad → w.heap.size ≤ ad.block)
def LookPost (w : World) (g q : Nat) (A B : Option Addr) (c d : Nat) (xs : List Int) (e : Ending) (w' : World) : Prop :=
  ∃ rv pv, e = .returned (.tuple #[.bool true, rv, pv]) ∧ LookRes w g q A B c d xs rv pv w'

theorem look_any (g q : Nat) (A B : Option Addr) (c d : Nat) (xs : List Int) (at_ : Nat) (who op n : Int) (w : World) (h : Two w g q A B c d xs at_) :
    Calls Try.prog 10 #[.pointer (some ⟨g, 0, none⟩), .pointer (some ⟨q, 0, none⟩), .agg #[.int .i64 who, .int .i64 op, .int .i64 n]] w (LookPost w g q A B c d xs) := by
  obtain ⟨k, hk, hp⟩ := pick_lt op 9 (by omega) (by omega)
  have L : ∀ e w', Looked w g q A B c d xs e w' → LookPost w g q A B c d xs e w' := fun _ _ ⟨h1, h2, h3⟩ => ⟨_, _, h1, .inl ⟨rfl, rfl, h2, h3⟩⟩
  have : k = 0 ∨ k = 1 ∨ k = 2 ∨ k = 3 ∨ k = 4 ∨ k = 5 ∨ k = 6 ∨ k = 7 ∨ k = 8 := by omega
  rcases this with rfl | rfl | rfl | rfl | rfl | rfl | rfl | rfl | rfl
  · exact (look0 g q A B c d xs at_ who op n w h hp).mono L
  · exact (look1 g q A B c d xs at_ who op n w h hp).mono L
  · exact (look2 _ g q A B c d xs at_ who op n w rfl h hp).mono L
  · exact (look3 _ g q A B c d xs at_ who op n w rfl h hp).mono L
  · exact (look4 _ g q A B c d xs at_ who op n w rfl h hp).mono L
  · exact (look5T _ g q A B c d xs at_ who op n w rfl h hp).mono L
  · exact (look6 _ g q A B c d xs at_ who op n w rfl h hp).mono L
  · by_cases he : (takeOf xs at_ n).2.2 = 0
    · exact (look7y _ g q A B c d xs at_ who op n w rfl he h hp).mono fun _ _ ⟨b, p, A2, B2, c2, d2, h1, h⟩ => ⟨_, _, h1, .inr ⟨_, b, p, A2, B2, c2, d2, rfl, rfl, h⟩⟩
    · exact (look7n _ g q A B c d xs at_ who op n w rfl he h hp).mono L
  · by_cases hlt : at_ < xs.length
    · exact (look8y g q A B c d xs at_ who op n w hlt h hp).mono L
    · exact (look8n g q A B c d xs at_ who op n w hlt h hp).mono L

/-- No reader's or place's block is where the bytes lie. -/
def Apart (L : List (Nat × Nat)) (A : Option Addr) (xs : List Int) : Prop := ∀ ad, A = some ad → 0 < xs.length → ∀ x ∈ L, ad.block ≠ x.1 ∧ ad.block ≠ x.2
structure PairIs (w : World) (L : List (Nat × Nat)) (x : Nat × Nat) : Prop where
  is : ∃ A B c d xs at_, Two w x.1 x.2 A B c d xs at_ ∧ Apart L A xs ∧ Apart L B xs
/-- All readers and places: apart from one another, new; the bytes lie in none of them, nor in the two rows K of pointers. -/
structure St (b0 : Nat) (w : World) (K : Nat × Nat) (L : List (Nat × Nat)) : Prop where
  each : ∀ x ∈ L, PairIs w (K :: L) x
  new : ∀ x ∈ L, b0 ≤ x.1 ∧ b0 ≤ x.2
  apart : ∀ i j (hi : i < L.length) (hj : j < L.length), i ≠ j → L[i].1 ≠ L[j].1 ∧ L[i].2 ≠ L[j].2 ∧ L[i].1 ≠ L[j].2

theorem Two.keep {w w' : World} {g q : Nat} {A B : Option Addr} {c d : Nat} {xs : List Int} {at_ : Nat} (h : Two w g q A B c d xs at_)
    (hk : ∀ k, k < w.heap.size → (k = g ∨ k = q ∨ (∃ ad, A = some ad ∧ 0 < xs.length ∧ ad.block = k) ∨ (∃ ad, B = some ad ∧ 0 < xs.length ∧ ad.block = k)) → w'.heap[k]? = w.heap[k]?) (hs : w.heap.size ≤ w'.heap.size) : Two w' g q A B c d xs at_ := by
  have hC : ∀ X : Option Addr, U8C w X xs → (∀ ad, X = some ad → 0 < xs.length → w'.heap[ad.block]? = w.heap[ad.block]?) → U8C w' X xs := by
    intro X hX hb
    refine ⟨hX.1, hX.2.1, fun hp => ?_⟩
    obtain ⟨ad, e, hx⟩ := hX.2.2 hp
    refine ⟨ad, e, fun j p hj => ?_⟩
    obtain ⟨cs, h1, h2, h3⟩ := hx j p hj
    refine ⟨cs, h1, h2, fun i u hu => ?_⟩
    have h4 := h3 i u hu
    rw [World.cell?_of_block (w := w)]
    · exact h4
    · have : (ad.add (j * (Kd.int IntKind.u8).sz + i)).block = ad.block := by unfold Addr.add; split <;> rfl
      rw [this]
      exact hb ad e hp
  have hlt : ∀ X : Option Addr, U8C w X xs → ∀ ad, X = some ad → 0 < xs.length → ad.block < w.heap.size := by
    intro X hX ad e hp
    subst e
    exact Kd.C_lt hX hp (by decide)
  refine ⟨⟨?_, h.r.cap, h.r.atl, hC A h.r.rd fun ad e hp => hk _ (hlt A h.r.rd ad e hp) (.inr (.inr (.inl ⟨ad, e, hp, rfl⟩))), h.r.bytes, h.r.ne⟩,
    ⟨?_, h.p.cap, h.p.atl, hC B h.p.rd fun ad e hp => hk _ (hlt B h.p.rd ad e hp) (.inr (.inr (.inr ⟨ad, e, hp, rfl⟩))), h.p.ne⟩, h.ne, h.rq, h.pg, h.small⟩
  · rw [hk _ (blk_lt h.r.blk) (.inl rfl)]; exact h.r.blk
  · rw [hk _ (blk_lt h.p.blk) (.inr (.inl rfl))]; exact h.p.blk

theorem St.keep {b0 : Nat} {w w' : World} {K : Nat × Nat} {L : List (Nat × Nat)} (h : St b0 w K L) (b : Below w.heap.size w w') : St b0 w' K L :=
  ⟨fun x hx => by
    obtain ⟨A, B, c, d, xs, at_, ht, h1, h2⟩ := (h.each x hx).is
    exact ⟨⟨A, B, c, d, xs, at_, ht.below b, h1, h2⟩⟩, h.new, h.apart⟩

theorem St.others {b0 : Nat} {w w' : World} {K : Nat × Nat} {L : List (Nat × Nat)} (h : St b0 w K L) (i j : Nat) (hi : i < L.length) (hj : j < L.length) (hij : i ≠ j) (hc : Chg2 w w' L[i].1 L[i].2) :
    ∃ A B c d xs at_, Two w' L[j].1 L[j].2 A B c d xs at_ ∧ Apart (K :: L) A xs ∧ Apart (K :: L) B xs := by
  obtain ⟨A', B', c', d', xs', at', ht', h1, h2⟩ := (h.each _ (List.getElem_mem hj)).is
  have ha := h.apart i j hi hj hij
  have hb := h.apart j i hj hi (Ne.symm hij)
  refine ⟨A', B', c', d', xs', at', ht'.keep (fun k hk hor => ?_) hc.size, h1, h2⟩
  refine hc.block k hk ?_ ?_
  · rcases hor with rfl | rfl | ⟨ad, e, hp, rfl⟩ | ⟨ad, e, hp, rfl⟩
    · exact ha.1.symm
    · exact ha.2.2.symm
    · exact (h1 ad e hp _ (List.mem_cons_of_mem _ (List.getElem_mem hi))).1
    · exact (h2 ad e hp _ (List.mem_cons_of_mem _ (List.getElem_mem hi))).1
  · rcases hor with rfl | rfl | ⟨ad, e, hp, rfl⟩ | ⟨ad, e, hp, rfl⟩
    · exact hb.2.2
    · exact ha.2.1.symm
    · exact (h1 ad e hp _ (List.mem_cons_of_mem _ (List.getElem_mem hi))).2
    · exact (h2 ad e hp _ (List.mem_cons_of_mem _ (List.getElem_mem hi))).2

theorem St.looked {b0 : Nat} {w w' : World} {K : Nat × Nat} {L : List (Nat × Nat)} (h : St b0 w K L) (i : Nat) (hi : i < L.length) {A B : Option Addr} {c d : Nat} {xs : List Int} {at1 : Nat}
    (hA : Apart (K :: L) A xs) (hB : Apart (K :: L) B xs) (ht : Two w' L[i].1 L[i].2 A B c d xs at1) (hc : Chg2 w w' L[i].1 L[i].2) : St b0 w' K L := by
  refine ⟨fun x hx => ?_, h.new, h.apart⟩
  obtain ⟨j, hj, rfl⟩ := List.getElem_of_mem hx
  by_cases hij : i = j
  · subst hij
    exact ⟨⟨A, B, c, d, xs, at1, ht, hA, hB⟩⟩
  · exact ⟨h.others i j hi hj hij hc⟩

theorem Two.lts {w : World} {g q : Nat} {A B : Option Addr} {c d : Nat} {xs : List Int} {at_ : Nat} (h : Two w g q A B c d xs at_) :
    (∀ ad, A = some ad → 0 < xs.length → ad.block < w.heap.size) ∧ (∀ ad, B = some ad → 0 < xs.length → ad.block < w.heap.size) :=
  ⟨fun ad e hp => by subst e; exact Kd.C_lt h.r.rd hp (by decide), fun ad e hp => by subst e; exact Kd.C_lt h.p.rd hp (by decide)⟩
theorem St.lt {b0 : Nat} {w : World} {K : Nat × Nat} {L : List (Nat × Nat)} (h : St b0 w K L) : ∀ x ∈ L, x.1 < w.heap.size ∧ x.2 < w.heap.size := fun x hx => by
  obtain ⟨A, B, c, d, xs, at_, ht, _, _⟩ := (h.each x hx).is
  exact ⟨blk_lt ht.r.blk, blk_lt ht.p.blk⟩

theorem Apart.more {K : Nat × Nat} {L : List (Nat × Nat)} {A : Option Addr} {xs : List Int} {b p : Nat} (h : Apart (K :: L) A xs) (h1 : ∀ ad, A = some ad → 0 < xs.length → ad.block ≠ b ∧ ad.block ≠ p) : Apart (K :: (L ++ [(b, p)])) A xs := fun ad e hp y hy => by
  rcases List.mem_cons.1 hy with hy | hy
  · exact h ad e hp y (by rw [hy]; exact List.mem_cons_self)
  · rcases List.mem_append.1 hy with hy | hy
    · exact h ad e hp y (List.mem_cons_of_mem _ hy)
    · simp at hy
      subst hy
      exact h1 ad e hp

/-- Behind look that made a reader within. -/
theorem St.lookedIn {b0 : Nat} {w w' : World} {K : Nat × Nat} {L : List (Nat × Nat)} (h : St b0 w K L) (hb0 : b0 ≤ w.heap.size) (hK : K.1 < w.heap.size ∧ K.2 < w.heap.size) (i : Nat) (hi : i < L.length) {A B A2 B2 : Option Addr} {c d c2 d2 : Nat} {xs ys : List Int} {at0 at1 b p : Nat}
    (ht0 : Two w L[i].1 L[i].2 A B c d xs at0) (hA : Apart (K :: L) A xs) (hB : Apart (K :: L) B xs) (ht : Two w' L[i].1 L[i].2 A B c d xs at1) (hc : Chg2 w w' L[i].1 L[i].2)
    (hb : w.heap.size ≤ b) (hp : w.heap.size ≤ p) (ht2 : Two w' b p A2 B2 c2 d2 ys 0) (h1 : ∀ ad, A2 = some ad → w.heap.size ≤ ad.block) (h2 : ∀ ad, B2 = some ad → w.heap.size ≤ ad.block) : St b0 w' K (L ++ [(b, p)]) := by
  have hlt := h.lt
  refine ⟨fun x hx => ?_, fun x hx => ?_, fun i j hi hj hij => ?_⟩
  · rcases List.mem_append.1 hx with hx | hx
    · obtain ⟨j, hj, rfl⟩ := List.getElem_of_mem hx
      by_cases hij : i = j
      · subst hij
        exact ⟨⟨A, B, c, d, xs, at1, ht, hA.more (fun ad e hp => by have := ht0.lts.1 ad e hp; omega), hB.more (fun ad e hp => by have := ht0.lts.2 ad e hp; omega)⟩⟩
      · obtain ⟨A0, B0, c0, d0, xs0, at2, k0, k1, k2⟩ := (h.each _ (List.getElem_mem hj)).is
        have ha := h.apart i j hi hj hij
        have hb' := h.apart j i hj hi (Ne.symm hij)
        refine ⟨⟨A0, B0, c0, d0, xs0, at2, k0.keep (fun k hk hor => ?_) hc.size, k1.more (fun ad e hp => by have := k0.lts.1 ad e hp; omega), k2.more (fun ad e hp => by have := k0.lts.2 ad e hp; omega)⟩⟩
        refine hc.block k hk ?_ ?_
        · rcases hor with rfl | rfl | ⟨ad, e, hp, rfl⟩ | ⟨ad, e, hp, rfl⟩
          · exact ha.1.symm
          · exact ha.2.2.symm
          · exact (k1 ad e hp _ (List.mem_cons_of_mem _ (List.getElem_mem hi))).1
          · exact (k2 ad e hp _ (List.mem_cons_of_mem _ (List.getElem_mem hi))).1
        · rcases hor with rfl | rfl | ⟨ad, e, hp, rfl⟩ | ⟨ad, e, hp, rfl⟩
          · exact hb'.2.2
          · exact ha.2.1.symm
          · exact (k1 ad e hp _ (List.mem_cons_of_mem _ (List.getElem_mem hi))).2
          · exact (k2 ad e hp _ (List.mem_cons_of_mem _ (List.getElem_mem hi))).2
    · simp at hx
      subst hx
      have far : ∀ (X : Option Addr), (∀ ad, X = some ad → w.heap.size ≤ ad.block) → (∀ ad, X = some ad → 0 < ys.length → ad.block ≠ b ∧ ad.block ≠ p) → Apart (K :: (L ++ [(b, p)])) X ys := fun X hX hbp ad e hpos y hy => by
        have h5 := hX ad e
        rcases List.mem_cons.1 hy with hy | hy
        · subst hy; exact ⟨by omega, by omega⟩
        · rcases List.mem_append.1 hy with hy | hy
          · have := hlt y hy
            exact ⟨by omega, by omega⟩
          · simp at hy
            subst hy
            exact hbp ad e hpos
      exact ⟨⟨A2, B2, c2, d2, ys, 0, ht2, far A2 h1 (fun ad e hp => ⟨ht2.r.ne ad e hp, ht2.rq ad e hp⟩), far B2 h2 (fun ad e hp => ⟨ht2.pg ad e hp, ht2.p.ne ad e hp⟩)⟩⟩
  · rcases List.mem_append.1 hx with hx | hx
    · exact h.new x hx
    · simp at hx
      subst hx
      exact ⟨by simp; omega, by simp; omega⟩
  · simp only [List.length_append, List.length_cons, List.length_nil] at hi hj
    by_cases h1 : i < L.length
    · rw [List.getElem_append_left h1]
      have hi' := hlt _ (List.getElem_mem h1)
      by_cases h2 : j < L.length
      · rw [List.getElem_append_left h2]
        exact h.apart i j h1 h2 hij
      · rw [List.getElem_append_right (by omega)]
        have : j - L.length = 0 := by omega
        simp only [this, List.getElem_cons_zero]
        exact ⟨by omega, by omega, by omega⟩
    · rw [List.getElem_append_right (by omega)]
      have : i - L.length = 0 := by omega
      simp only [this, List.getElem_cons_zero]
      by_cases h2 : j < L.length
      · rw [List.getElem_append_left h2]
        have hj' := hlt _ (List.getElem_mem h2)
        exact ⟨by omega, by omega, by omega⟩
      · omega

/-- A row of pointers is written, or laid anew. -/
theorem St.row {b0 : Nat} {w w' : World} {K K' : Nat × Nat} {L : List (Nat × Nat)} (h : St b0 w K L) {r : Nat} (hg : w.grownBy w' (some r)) (hr : r = K.1 ∨ r = K.2) (hrt : ∀ x ∈ L, x.1 ≠ r ∧ x.2 ≠ r)
    (h1 : K'.1 = K.1 ∨ K'.1 = K.2 ∨ w.heap.size ≤ K'.1) (h2 : K'.2 = K.1 ∨ K'.2 = K.2 ∨ w.heap.size ≤ K'.2) : St b0 w' K' L := by
  refine ⟨fun x hx => ?_, h.new, h.apart⟩
  obtain ⟨A, B, c, d, xs, at_, ht, hA, hB⟩ := (h.each x hx).is
  have hl := ht.lts
  have ap : ∀ X : Option Addr, Apart (K :: L) X xs → (∀ ad, X = some ad → 0 < xs.length → ad.block < w.heap.size) → Apart (K' :: L) X xs := fun X hX hlt ad e hp y hy => by
    rcases List.mem_cons.1 hy with hy | hy
    · have k1 := hX ad e hp K List.mem_cons_self
      have k2 := hlt ad e hp
      subst hy
      exact ⟨by rcases h1 with h1 | h1 | h1 <;> omega, by rcases h2 with h2 | h2 | h2 <;> omega⟩
    · exact hX ad e hp y (List.mem_cons_of_mem _ hy)
  refine ⟨⟨A, B, c, d, xs, at_, ht.keep (fun k hk hor => hg.block k hk ?_) hg.size, ap A hA hl.1, ap B hB hl.2⟩⟩
  have := hrt x hx
  rcases hor with rfl | rfl | ⟨ad, e, hp, rfl⟩ | ⟨ad, e, hp, rfl⟩
  · simp; omega
  · simp; omega
  · have := hA ad e hp K List.mem_cons_self
    simp
    omega
  · have := hB ad e hp K List.mem_cons_self
    simp
    omega

/-! ### the law's loop -/
def ptrs1 (L : List (Nat × Nat)) : List Value := L.map fun x => .pointer (some ⟨x.1, 0, none⟩)
def ptrs2 (L : List (Nat × Nat)) : List Value := L.map fun x => .pointer (some ⟨x.2, 0, none⟩)
structure Inv2 (w : World) (K : Nat × Nat) (c9 c10 : Nat) (L : List (Nat × Nat)) (wr : World) : Prop where
  bel : Below w.heap.size w wr
  st : St w.heap.size wr K L
  rs : wr.ownsRow w.heap.size 26 1 (.slice (some ⟨K.1, 0, none⟩) L.length c9) L.length (ptrs1 L)
  ps : wr.ownsRow w.heap.size 30 1 (.slice (some ⟨K.2, 0, none⟩) L.length c10) L.length (ptrs2 L)
theorem Inv2.below {w wr w' : World} {K : Nat × Nat} {c9 c10 : Nat} {L : List (Nat × Nat)} (h : Inv2 w K c9 c10 L wr) (b : Below wr.heap.size wr w') : Inv2 w K c9 c10 L w' :=
  ⟨h.bel.trans (b.mono h.bel.size), h.st.keep b, pw_own_below h.rs b, pw_own_below h.ps b⟩

theorem St.types {b0 : Nat} {w : World} {K : Nat × Nat} {L : List (Nat × Nat)} (h : St b0 w K L) {k : Nat} {cells : Array Value} {t : TypeId} (hk : w.heap[k]? = some (.cells cells t (0, 0))) (h1 : t ≠ 71) (h2 : t ≠ 32) : ∀ x ∈ L, x.1 ≠ k ∧ x.2 ≠ k := fun x hx => by
  obtain ⟨A, B, c, d, xs, at_, ht, _, _⟩ := (h.each x hx).is
  exact ⟨blk_ne ht.r.blk hk (Ne.symm h1), blk_ne ht.p.blk hk (Ne.symm h2)⟩
/-- What holds while the given bytes are turned. -/
structure Inv1 (w : World) (A : Option Addr) (xs : List Int) (r a1 g : Nat) (wr : World) : Prop where
  bel : Below w.heap.size w wr
  rd : IsRd wr r (some ⟨a1, 0, none⟩) xs.length xs 0
  arg : U8C wr A xs
  row : ∃ cur : Array Value, wr.heap[g]? = some (.cells cur 5 (0, 0)) ∧ ∀ j, j < xs.length → ∃ y : Int, cur[j]? = some (.int .u8 y)
  ge : w.heap.size ≤ g
  rg : r ≠ g
  ag : a1 ≠ g
  new : w.heap.size ≤ r ∧ w.heap.size ≤ a1
  old : ∀ ad, A = some ad → 0 < xs.length → ad.block < w.heap.size
theorem Inv1.put {w wr : World} {A : Option Addr} {xs : List Int} {r a1 g : Nat} (h : Inv1 w A xs r a1 g wr) (k : Nat) (z : Int) : Inv1 w A xs r a1 g (wr.setCell ⟨g, k, none⟩ (.int .u8 z)) := by
  have hg := grown_set wr g k (.int .u8 z)
  obtain ⟨cur, hc, hy⟩ := h.row
  refine ⟨h.bel.setCell h.ge _, h.rd.grown hg h.rg (fun ad e _ => by cases e; exact h.ag), Kd.C_keep 0 h.arg (keep_of_grown hg) (fun ad e hp => by have := h.old ad e hp; have := h.ge; omega), ⟨_, blk_set hc k _, fun j hj => ?_⟩, h.ge, h.rg, h.ag, h.new, h.old⟩
  obtain ⟨y, hj'⟩ := hy j hj
  by_cases hkj : k = j
  · subst hkj
    exact ⟨z, by simp [(Array.getElem?_eq_some_iff.1 hj').1]⟩
  · exact ⟨y, by rw [Array.getElem?_setIfInBounds_ne (by omega)]; exact hj'⟩

theorem Inv1.drewN {w wr : World} {A : Option Addr} {xs : List Int} {r a1 g : Nat} (h : Inv1 w A xs r a1 g wr) (m : Nat) : Inv1 w A xs r a1 g (wr.drewN m) :=
  ⟨⟨h.bel.os, h.bel.tape, h.bel.output, h.bel.size, h.bel.block⟩, h.rd.drawn ⟨⟨m, rfl⟩⟩, Kd.C_drewN h.arg m, h.row, h.ge, h.rg, h.ag, h.new, h.old⟩

end Go.Proofs.Ytgfjepjaccnkiaa
