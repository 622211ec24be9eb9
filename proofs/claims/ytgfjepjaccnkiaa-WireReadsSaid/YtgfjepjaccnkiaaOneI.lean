/- What the law's loop keeps, step by step. -/
import Derived.Test.YtgfjepjaccnkiaaOneJ
import Derived.Maps.AppendAt
namespace Go.Proofs.Ytgfjepjaccnkiaa
open Mem Go.RowKit Go.Proofs.YtgfjepjaccnkiaaW.PrintWords Go.Proofs.YtgfjepjaccnkiaaW.PrintLast Go.Proofs.YtgfjepjaccnkiaaW.PrintMore PWireReads

structure InvR (w : World) (K : Nat × Nat) (c9 c10 : Nat) (L R1 R2 : List (Nat × Nat)) (wr : World) : Prop where
  bel : Below w.heap.size w wr
  st : St w.heap.size wr K L
  rs : wr.ownsRow w.heap.size 26 1 (.slice (some ⟨K.1, 0, none⟩) R1.length c9) R1.length (ptrs1 R1)
  ps : wr.ownsRow w.heap.size 30 1 (.slice (some ⟨K.2, 0, none⟩) R2.length c10) R2.length (ptrs2 R2)
section
variable {w wr w' : World} {K : Nat × Nat} {c9 c10 : Nat} {L R1 R2 : List (Nat × Nat)}
theorem InvR.below (h : InvR w K c9 c10 L R1 R2 wr) (b : Below wr.heap.size wr w') : InvR w K c9 c10 L R1 R2 w' :=
  ⟨h.bel.trans (b.mono h.bel.size), h.st.keep b, pw_own_below h.rs b, pw_own_below h.ps b⟩
theorem own_here {w : World} {base n cap g : Nat} {e : TypeId} {xs : List Value} (h : w.ownsRow base e 1 (.slice (some ⟨g, 0, none⟩) n cap) n xs) : base ≤ g ∧ ∃ cells, w.heap[g]? = some (.cells cells e (0, 0)) := by
  rcases h.2 with ⟨e, _⟩ | ⟨g', cap', cur, e, hb, hg, _⟩
  · cases e
  · injection e with e1 e2 e3
    injection e1 with e1
    injection e1 with e1 _ _
    subst e1
    exact ⟨hb, cur, hg⟩
theorem InvR.k1 (h : InvR w K c9 c10 L R1 R2 wr) : w.heap.size ≤ K.1 ∧ K.1 < wr.heap.size ∧ ∃ cells, wr.heap[K.1]? = some (.cells cells 26 (0, 0)) := by
  obtain ⟨h1, cells, h2⟩ := own_here h.rs
  exact ⟨h1, blk_lt h2, cells, h2⟩
theorem InvR.k2 (h : InvR w K c9 c10 L R1 R2 wr) : w.heap.size ≤ K.2 ∧ K.2 < wr.heap.size ∧ ∃ cells, wr.heap[K.2]? = some (.cells cells 30 (0, 0)) := by
  obtain ⟨h1, cells, h2⟩ := own_here h.ps
  exact ⟨h1, blk_lt h2, cells, h2⟩
theorem InvR.kne (h : InvR w K c9 c10 L R1 R2 wr) : K.1 ≠ K.2 := by
  obtain ⟨_, _, c1, h1⟩ := h.k1
  obtain ⟨_, _, c2, h2⟩ := h.k2
  exact blk_ne h1 h2 (by decide)

theorem Chg2.bel {g q : Nat} (hc : Chg2 wr w' g q) (b : Below w.heap.size w wr) (hg : w.heap.size ≤ g) (hq : w.heap.size ≤ q) : Below w.heap.size w w' :=
  b.trans ⟨hc.os, hc.tape, hc.output, hc.size, fun k hk => hc.block k (Nat.lt_of_lt_of_le hk b.size) (by omega) (by omega)⟩

/-- Behind look. -/
theorem InvR.look (h : InvR w K c9 c10 L L L wr) (i : Nat) (hi : i < L.length) {A B : Option Addr} {c d : Nat} {xs : List Int} {at_ : Nat} (ht0 : Two wr L[i].1 L[i].2 A B c d xs at_) (hA : Apart (K :: L) A xs) (hB : Apart (K :: L) B xs) {rv pv : Value}
    (hl : LookRes wr L[i].1 L[i].2 A B c d xs rv pv w') :
    (rv = .pointer none ∧ InvR w K c9 c10 L L L w') ∨ ∃ b p, rv = .pointer (some ⟨b, 0, none⟩) ∧ pv = .pointer (some ⟨p, 0, none⟩) ∧ InvR w K c9 c10 (L ++ [(b, p)]) L L w' := by
  have hn := h.st.new _ (List.getElem_mem hi)
  obtain ⟨k1, k1l, cl1, hk1⟩ := h.k1
  obtain ⟨k2, k2l, cl2, hk2⟩ := h.k2
  have t1 := h.st.types hk1 (by decide) (by decide) _ (List.getElem_mem hi)
  have t2 := h.st.types hk2 (by decide) (by decide) _ (List.getElem_mem hi)
  have rows : ∀ hc : Chg2 wr w' L[i].1 L[i].2, (w'.ownsRow w.heap.size 26 1 (.slice (some ⟨K.1, 0, none⟩) L.length c9) L.length (ptrs1 L)) ∧ (w'.ownsRow w.heap.size 30 1 (.slice (some ⟨K.2, 0, none⟩) L.length c10) L.length (ptrs2 L)) := fun hc =>
    ⟨own_move h.rs (fun k hk => by simp [Value.ownBlock] at hk; subst hk; exact hc.block _ k1l (Ne.symm t1.1) (Ne.symm t1.2)),
     own_move h.ps (fun k hk => by simp [Value.ownBlock] at hk; subst hk; exact hc.block _ k2l (Ne.symm t2.1) (Ne.symm t2.2))⟩
  rcases hl with ⟨e1, e2, ⟨at1, ht⟩, hc⟩ | ⟨ys, b, p, A2, B2, c2, d2, e1, e2, hb, hp, ⟨at1, ht⟩, ht2, hc, h1, h2⟩
  · exact .inl ⟨e1, hc.bel h.bel hn.1 hn.2, h.st.looked i hi hA hB ht hc, (rows hc).1, (rows hc).2⟩
  · exact .inr ⟨b, p, e1, e2, hc.bel h.bel hn.1 hn.2, h.st.lookedIn h.bel.size ⟨k1l, k2l⟩ i hi ht0 hA hB ht hc hb hp ht2 h1 h2, (rows hc).1, (rows hc).2⟩

theorem InvR.app1 (h : InvR w K c9 c10 L R1 R2 wr) {g' cap' : Nat} (x : Nat × Nat) (ho : w'.ownsRow w.heap.size 26 1 (.slice (some ⟨g', 0, none⟩) (R1.length + 1) cap') (R1.length + 1) (ptrs1 R1 ++ [.pointer (some ⟨x.1, 0, none⟩)]))
    (hg : wr.grownBy w' (some K.1)) (hat : g' = K.1 ∨ g' = wr.heap.size) : InvR w (g', K.2) cap' c10 L (R1 ++ [x]) R2 w' := by
  obtain ⟨k1, k1l, cl1, hk1⟩ := h.k1
  obtain ⟨k2, k2l, cl2, hk2⟩ := h.k2
  refine ⟨h.bel.grown hg h.bel.size (fun k hk => by simp at hk; omega), h.st.row hg (.inl rfl) (h.st.types hk1 (by decide) (by decide)) (by simp; omega) (by simp), ?_, ?_⟩
  · have : ptrs1 (R1 ++ [x]) = ptrs1 R1 ++ [.pointer (some ⟨x.1, 0, none⟩)] := by simp [ptrs1]
    rw [this, List.length_append]
    exact ho
  · exact own_move h.ps (fun k hk => by simp [Value.ownBlock] at hk; subst hk; exact hg.block _ k2l (by simp; exact Ne.symm h.kne))
theorem InvR.app2 (h : InvR w K c9 c10 L R1 R2 wr) {g' cap' : Nat} (x : Nat × Nat) (ho : w'.ownsRow w.heap.size 30 1 (.slice (some ⟨g', 0, none⟩) (R2.length + 1) cap') (R2.length + 1) (ptrs2 R2 ++ [.pointer (some ⟨x.2, 0, none⟩)]))
    (hg : wr.grownBy w' (some K.2)) (hat : g' = K.2 ∨ g' = wr.heap.size) : InvR w (K.1, g') c9 cap' L R1 (R2 ++ [x]) w' := by
  obtain ⟨k1, k1l, cl1, hk1⟩ := h.k1
  obtain ⟨k2, k2l, cl2, hk2⟩ := h.k2
  refine ⟨h.bel.grown hg h.bel.size (fun k hk => by simp at hk; omega), h.st.row hg (.inr rfl) (h.st.types hk2 (by decide) (by decide)) (by simp) (by simp; omega), ?_, ?_⟩
  · exact own_move h.rs (fun k hk => by simp [Value.ownBlock] at hk; subst hk; exact hg.block _ k1l (by simp; exact h.kne))
  · have : ptrs2 (R2 ++ [x]) = ptrs2 R2 ++ [.pointer (some ⟨x.2, 0, none⟩)] := by simp [ptrs2]
    rw [this, List.length_append]
    exact ho

/-- The beginning: one reader, one place. -/
theorem InvR.start {A : Option Addr} {xs : List Int} {c r a1 g : Nat} (h : Inv1 w A xs r a1 g wr) (hc : xs.length ≤ c) (hm : xs.length ≤ 140737488355000) :
    InvR w (wr.heap.size, wr.heap.size + 1 + 1) 1 1 [(r, wr.heap.size + 1)] [(r, wr.heap.size + 1)] [(r, wr.heap.size + 1)]
      (((wr.alloc (.cells #[.pointer (some ⟨r, 0, none⟩)] 26)).alloc (.cells #[.slice A xs.length c, .int .i64 0] 32)).alloc (.cells #[.pointer (some ⟨wr.heap.size + 1, 0, none⟩)] 30)) := by
  have hsz := h.bel.size
  have hr := blk_lt h.rd.blk
  have ha := h.new
  have b1 : Below wr.heap.size wr (wr.alloc (.cells #[.pointer (some ⟨r, 0, none⟩)] 26)) := (Below.refl _ _).alloc (Nat.le_refl _) _
  have b2 : Below wr.heap.size wr ((wr.alloc (.cells #[.pointer (some ⟨r, 0, none⟩)] 26)).alloc (.cells #[.slice A xs.length c, .int .i64 0] 32)) := b1.alloc (by simp) _
  have b3 : Below wr.heap.size wr (((wr.alloc (.cells #[.pointer (some ⟨r, 0, none⟩)] 26)).alloc (.cells #[.slice A xs.length c, .int .i64 0] 32)).alloc (.cells #[.pointer (some ⟨wr.heap.size + 1, 0, none⟩)] 30)) := b2.alloc (by simp; omega) _
  have hp : (((wr.alloc (.cells #[.pointer (some ⟨r, 0, none⟩)] 26)).alloc (.cells #[.slice A xs.length c, .int .i64 0] 32)).alloc (.cells #[.pointer (some ⟨wr.heap.size + 1, 0, none⟩)] 30)).heap[wr.heap.size + 1]? = some (.cells #[.slice A xs.length c, .int .i64 0] 32 (0, 0)) := by
    rw [Below.heap_alloc _ _ _ (by simp)]
    have := heap_alloc_new (wr.alloc (.cells #[.pointer (some ⟨r, 0, none⟩)] 26)) (.cells #[.slice A xs.length c, .int .i64 0] 32)
    simpa using this
  have hA : ∀ ad, A = some ad → 0 < xs.length → ad.block < w.heap.size := h.old
  have a1lt : 0 < xs.length → a1 < wr.heap.size := fun hp => Kd.C_lt (ad := ⟨a1, 0, none⟩) h.rd.rd hp (by decide)
  refine ⟨h.bel.trans (b3.mono hsz), ⟨?_, ?_, ?_⟩, ?_, ?_⟩
  · intro x hx
    simp at hx
    subst hx
    refine ⟨⟨some ⟨a1, 0, none⟩, A, xs.length, c, xs, 0, ⟨h.rd.below b3, ⟨hp, hc, Nat.zero_le _, Kd.C_below h.arg b3, fun ad e hpos => ?_⟩, ?_, fun ad e hpos => ?_, fun ad e hpos => ?_, hm⟩, ?_, ?_⟩⟩
    · have := hA ad e hpos; simp; omega
    · simp; omega
    · cases e; have := a1lt hpos; simp; omega
    · have := hA ad e hpos; simp; omega
    · intro ad e hpos y hy
      cases e
      have h1 := a1lt hpos
      have h2 := h.rd.ne _ rfl hpos
      simp at hy h2
      rcases hy with hy | hy <;> subst hy <;> simp <;> omega
    · intro ad e hpos y hy
      have h1 := hA ad e hpos
      simp at hy
      rcases hy with hy | hy <;> subst hy <;> simp <;> omega
  · intro x hx
    simp at hx
    subst hx
    simp
    omega
  · intro i j hi hj hij
    simp at hi hj
    omega
  · have := World.ownsRow_lit (base := w.heap.size) (e := 26) (size := 1) wr #[.pointer (some ⟨r, 0, none⟩)] 1 hsz (by decide) rfl
    exact (this.alloc _).alloc _
  · have := World.ownsRow_lit (base := w.heap.size) (e := 30) (size := 1) ((wr.alloc (.cells #[.pointer (some ⟨r, 0, none⟩)] 26)).alloc (.cells #[.slice A xs.length c, .int .i64 0] 32)) #[.pointer (some ⟨wr.heap.size + 1, 0, none⟩)] 1 (by simp; omega) (by decide) rfl
    simpa [ptrs2] using this
theorem drew_below (w : World) : Below w.heap.size w w.drew := ⟨rfl, rfl, rfl, Nat.le_refl _, fun _ _ => rfl⟩
theorem LookRes.chg {w : World} {g q : Nat} {A B : Option Addr} {c d : Nat} {xs : List Int} {rv pv : Value} {w' : World} (h : LookRes w g q A B c d xs rv pv w') : Chg2 w w' g q := by
  rcases h with ⟨_, _, _, hc⟩ | ⟨_, _, _, _, _, _, _, _, _, _, _, _, _, hc, _⟩
  · exact hc
  · exact hc
theorem LookRes.undrew {w : World} {g q : Nat} {A B : Option Addr} {c d : Nat} {xs : List Int} {rv pv : Value} {w' : World} (h : LookRes w.drew g q A B c d xs rv pv w') : LookRes w g q A B c d xs rv pv w' := by
  rcases h with ⟨h1, h2, h3, hc⟩ | ⟨ys, b, p, A2, B2, c2, d2, h1, h2, h3, h4, h5, h6, hc, h7, h8⟩
  · exact .inl ⟨h1, h2, h3, hc.os, hc.tape, hc.output, hc.size, hc.block⟩
  · exact .inr ⟨ys, b, p, A2, B2, c2, d2, h1, h2, h3, h4, h5, h6, ⟨hc.os, hc.tape, hc.output, hc.size, hc.block⟩, h7, h8⟩
/-- The cells that the law's region reads, ahead of look and behind it. -/
def RegC (K : Nat × Nat) (l0 i : Nat) (x : Nat × Nat) (la lb lc : Int) (W : World) : Prop :=
  W.cell? ⟨K.1, i, none⟩ = some (.pointer (some ⟨x.1, 0, none⟩)) ∧ W.cell? ⟨K.2, i, none⟩ = some (.pointer (some ⟨x.2, 0, none⟩)) ∧ W.cell? ⟨l0, 0, none⟩ = some (.int .i64 la) ∧ W.cell? ⟨l0, 1, none⟩ = some (.int .i64 lb) ∧ W.cell? ⟨l0, 2, none⟩ = some (.int .i64 lc)
theorem InvR.reg (h : InvR w K c9 c10 L L L wr) {l0 : Nat} {la lb lc : Int} (hl : wr.heap[l0]? = some (.cells #[.int .i64 la, .int .i64 lb, .int .i64 lc] 35 (0, 0))) (i : Nat) (hi : i < L.length) : RegC K l0 i L[i] la lb lc wr := by
  refine ⟨?_, ?_, (blk_cell hl 0).trans rfl, (blk_cell hl 1).trans rfl, (blk_cell hl 2).trans rfl⟩
  · rw [h.rs.cellAt i (by omega)]; simp [ptrs1, hi]
  · rw [h.ps.cellAt i (by omega)]; simp [ptrs2, hi]
theorem InvR.reg2 (h : InvR w K c9 c10 L L L wr) {l0 : Nat} {la lb lc : Int} (hl : wr.heap[l0]? = some (.cells #[.int .i64 la, .int .i64 lb, .int .i64 lc] 35 (0, 0))) (i : Nat) (hi : i < L.length) (hc : Chg2 wr w' L[i].1 L[i].2) : RegC K l0 i L[i] la lb lc w' := by
  obtain ⟨h1, h2, h3, h4, h5⟩ := h.reg hl i hi
  obtain ⟨k1, k1l, cl1, hk1⟩ := h.k1
  obtain ⟨k2, k2l, cl2, hk2⟩ := h.k2
  have t1 := h.st.types hk1 (by decide) (by decide) _ (List.getElem_mem hi)
  have t2 := h.st.types hk2 (by decide) (by decide) _ (List.getElem_mem hi)
  have t3 := h.st.types hl (by decide) (by decide) _ (List.getElem_mem hi)
  have m : ∀ (k j : Nat) (v : Value), k < wr.heap.size → k ≠ L[i].1 → k ≠ L[i].2 → wr.cell? ⟨k, j, none⟩ = some v → w'.cell? ⟨k, j, none⟩ = some v := fun k j v hk n1 n2 hv => (World.cell?_of_block (hc.block k hk n1 n2)).trans hv
  exact ⟨m _ _ _ k1l (Ne.symm t1.1) (Ne.symm t1.2) h1, m _ _ _ k2l (Ne.symm t2.1) (Ne.symm t2.2) h2, m _ _ _ (blk_lt hl) (Ne.symm t3.1) (Ne.symm t3.2) h3, m _ _ _ (blk_lt hl) (Ne.symm t3.1) (Ne.symm t3.2) h4, m _ _ _ (blk_lt hl) (Ne.symm t3.1) (Ne.symm t3.2) h5⟩
theorem local_new (w : World) (la lb lc : Int) (m : Nat) : ((w.alloc (.cells #[.int .i64 la, .int .i64 lb, .int .i64 lc] 35)).drewN m).heap[w.heap.size]? = some (.cells #[.int .i64 la, .int .i64 lb, .int .i64 lc] 35 (0, 0)) := heap_alloc_new w _
theorem InvR.push1 (h : InvR w K c9 c10 L R1 R2 wr) {v' : Value} (x : Nat × Nat) {o : Obj} (ho : w'.ownsRow w.heap.size 26 1 v' (R1.length + 1) (ptrs1 R1 ++ [.pointer (some ⟨x.1, 0, none⟩)]))
    (hg : (wr.alloc o).grownBy w' (some K.1)) (hat : v'.ownBlock = some K.1 ∨ v'.ownBlock = some (wr.alloc o).heap.size) : ∃ g' cap', v' = .slice (some ⟨g', 0, none⟩) (R1 ++ [x]).length cap' ∧ InvR w (g', K.2) cap' c10 L (R1 ++ [x]) R2 w' := by
  obtain ⟨g', cap', rfl⟩ := own_some ho (by rintro rfl; simp [Value.ownBlock] at hat)
  have hb : Below wr.heap.size wr (wr.alloc o) := (Below.refl _ _).alloc (Nat.le_refl _) _
  exact ⟨g', cap', by simp, (h.below hb).app1 x ho hg (by simpa [Value.ownBlock] using hat)⟩
theorem InvR.push2 (h : InvR w K c9 c10 L R1 R2 wr) {v' : Value} (x : Nat × Nat) {o : Obj} (ho : w'.ownsRow w.heap.size 30 1 v' (R2.length + 1) (ptrs2 R2 ++ [.pointer (some ⟨x.2, 0, none⟩)]))
    (hg : (wr.alloc o).grownBy w' (some K.2)) (hat : v'.ownBlock = some K.2 ∨ v'.ownBlock = some (wr.alloc o).heap.size) : ∃ g' cap', v' = .slice (some ⟨g', 0, none⟩) (R2 ++ [x]).length cap' ∧ InvR w (K.1, g') c9 cap' L R1 (R2 ++ [x]) w' := by
  obtain ⟨g', cap', rfl⟩ := own_some ho (by rintro rfl; simp [Value.ownBlock] at hat)
  have hb : Below wr.heap.size wr (wr.alloc o) := (Below.refl _ _).alloc (Nat.le_refl _) _
  exact ⟨g', cap', by simp, (h.below hb).app2 x ho hg (by simpa [Value.ownBlock] using hat)⟩
theorem one_ptr (g : Nat) : ∀ u ∈ ([.pointer (some ⟨g, 0, none⟩)] : List Value), u.oneCell' = true := by
  intro u hu
  simp at hu
  subst hu
  rfl
theorem info26 : (Try.prog.info? 26).map (fun i => (i.zero, i.size, i.bytes)) = some (some (.pointer none), 1, 8) := by kernel_rfl
theorem info30 : (Try.prog.info? 30).map (fun i => (i.zero, i.size, i.bytes)) = some (some (.pointer none), 1, 8) := by kernel_rfl
theorem rows_len (h : InvR w K c9 c10 L R1 R2 wr) (o : Obj) : w.heap.size ≤ (wr.alloc o).heap.size := by have := h.bel.size; simp; omega
end
end Go.Proofs.Ytgfjepjaccnkiaa
