/- A call that turns a store, beside the document's: what stands behind it. -/
import Derived.Test.YtcjniogdjbplbaaMA0
import Derived.Deep.RegionHeld3
import Derived.Outline
import Derived.Shelf.SlIter.Nil
import Derived.Shelf.SortM.Plain
import Derived.Shelf.SortM.SortNone
import Derived.Ground.GgzProg
import Derived.Ground.SlgmProg
import Derived.Shelf.SlGeneric
import Derived.Test.YtcjniogdjbplbaaProg
import Derived.CallsIn
import Derived.BigFrameIn
import Derived.ProofKit
import Derived.OpenShut
import Derived.ShutString
import Derived.ChangeOld
import Derived.SizedLaws
import Derived.Deep.Slices
import Derived.Test.YtcjniogdjbplbaaWWords
/-! St12 -/
namespace Go.Proofs.Ytcjniogdjbplbaa
open Mem Go.RowKit Go.Proofs.YtcjniogdjbplbaaW.PrintWords Go.Proofs.YtcjniogdjbplbaaW.PrintLast Go.Proofs.YtcjniogdjbplbaaW.PrintMore PStorePlays

/-- The boxes of a call's parameters and of its result. -/
structure DBx (W : World) (B : Nat) (v0 v1 : Value) (op : Int) (s : ByteArray) (v2 : Value) : Prop where
  b0 : W.heap[B]? = some (.cells #[v0, v1] 29 (0, 0))
  b1 : W.heap[B + 1]? = some (.cells #[.int .i64 op, .string s, v2] 37 (0, 0))
  b2 : W.heap[B + 1 + 1]? = some (.cells #[.slice none 0 0, .slice none 0 0] 29 (0, 0))
theorem DBx.lt {W : World} {B : Nat} {v0 v1 : Value} {op : Int} {s : ByteArray} {v2 : Value} (h : DBx W B v0 v1 op s v2) : B + 2 < W.heap.size := blk_lt h.b2
theorem DBx.step {W W' : World} {B : Nat} {v0 v1 : Value} {op : Int} {s : ByteArray} {v2 : Value} (h : DBx W B v0 v1 op s v2) (hb : ∀ k, B ≤ k → k < B + 3 → W'.heap[k]? = W.heap[k]?) : DBx W' B v0 v1 op s v2 :=
  ⟨(hb _ (by omega) (by omega)).trans h.b0, (hb _ (by omega) (by omega)).trans h.b1, (hb _ (by omega) (by omega)).trans h.b2⟩
theorem DBx.below {W W' : World} {B : Nat} {v0 v1 : Value} {op : Int} {s : ByteArray} {v2 : Value} (h : DBx W B v0 v1 op s v2) (hb : Below W.heap.size W W') : DBx W' B v0 v1 op s v2 :=
  h.step (fun k _ hk => hb.block k (by have := h.lt; omega))
theorem DBx.new (w : World) (v0 v1 : Value) (op : Int) (s : ByteArray) (v2 : Value) :
    DBx (((w.alloc (.cells #[v0, v1] 29)).alloc (.cells #[.int .i64 op, .string s, v2] 37)).alloc (.cells #[.slice none 0 0, .slice none 0 0] 29)) w.heap.size v0 v1 op s v2 := by
  refine ⟨?_, ?_, ?_⟩
  · rw [Below.heap_alloc _ _ _ (by simp; omega), Below.heap_alloc _ _ _ (by simp)]; exact heap_alloc_new _ _
  · rw [Below.heap_alloc _ _ _ (by simp)]
    have := heap_alloc_new (w.alloc (.cells #[v0, v1] 29)) (.cells #[.int .i64 op, .string s, v2] 37)
    simpa using this
  · have := heap_alloc_new ((w.alloc (.cells #[v0, v1] 29)).alloc (.cells #[.int .i64 op, .string s, v2] 37)) (.cells #[.slice none 0 0, .slice none 0 0] 29)
    simpa using this
theorem DBx.cells {W : World} {B : Nat} {v0 v1 : Value} {op : Int} {s : ByteArray} {v2 : Value} (h : DBx W B v0 v1 op s v2) :
    W.cell? ⟨B, 0, none⟩ = some v0 ∧ W.cell? ⟨B, 1, none⟩ = some v1 ∧ W.cell? ⟨B + 1, 0, none⟩ = some (.int .i64 op) ∧ W.cell? ⟨B + 1, 1, none⟩ = some (.string s) ∧ W.cell? ⟨B + 1, 2, none⟩ = some v2 :=
  ⟨(blk_cell h.b0 0).trans rfl, (blk_cell h.b0 1).trans rfl, (blk_cell h.b1 0).trans rfl, (blk_cell h.b1 1).trans rfl, (blk_cell h.b1 2).trans rfl⟩
theorem DBx.chg {W W' : World} {g M B : Nat} {v0 v1 vi : Value} {op : Int} {s : ByteArray} {v2 : Value} (h : DBx W B v0 v1 op s v2) (hg : g < B) (hM : M < B) (hv : ∀ k, vi.ownBlock = some k → k < B) (hc : Chg (fun k => ¬ Rest g M vi k) W W') : DBx W' B v0 v1 op s v2 := by
  have hr : ∀ k, B ≤ k → Rest g M vi k := fun k hk => ⟨by omega, by omega, fun e => by have := hv k e; omega⟩
  exact h.step (fun k hk hl => hc.block k (by have := h.lt; omega) (fun x => x (hr k hk)))

theorem StAt.shun {X : Nat → Prop} {w w1 : World} {g M B S : Nat} {vi : Value} {img : List Int} {l : List S99} (h : StAt X w g M vi img l) (hb : Below B w w1) (hB : w.heap.size = B) (hS : w1.heap.size = S) : StAt (fun k => X k ∨ (B ≤ k ∧ k < S)) w1 g M vi img l := by
  subst hB
  subst hS
  have h3 := h.step hb
  refine ⟨h3.blk, h3.own, ?_, h3.rise, h3.room, h3.few, h3.small, fun k hk => hk.elim (fun x => Nat.lt_of_lt_of_le (h.low k x) hb.size) (fun x => x.2)⟩
  have hm : MapIs w M (RX (fun k => X k ∨ (w.heap.size ≤ k ∧ k < w1.heap.size)) g M vi) l := h.map.mono (fun k hk hlt => ⟨hk.1, fun x => x.elim hk.2 (fun y => by omega)⟩)
  exact hm.step (hb.block M h.map.lt) (fun k _ hlt => hb.block k hlt)
theorem StAt.less {W : World} {X Y : Nat → Prop} {g M : Nat} {vi : Value} {img : List Int} {l : List S99} (h : StAt X W g M vi img l) (hY : ∀ k, Y k → X k) : StAt Y W g M vi img l :=
  ⟨h.blk, h.own, h.map.mono (fun k hk _ => ⟨hk.1, fun x => hk.2 (hY k x)⟩), h.rise, h.room, h.few, h.small, fun k hk => h.low k (hY k hk)⟩

theorem WrAt.low {w : World} {base base' : Nat} {v : Value} {ms : List S52} (h : WrAt w base v ms) (hb : base' ≤ base) : WrAt w base' v ms := by
  rcases h with h | ⟨at_, xs, ys, h1, h2⟩
  · exact .inl h
  · exact .inr ⟨at_, xs, ys, h1, h2.low hb⟩

/-- What stands behind both calls. -/
structure Core (X : Nat → Prop) (w W : World) (B S1 S g M q : Nat) (vi vi' wl wl2 : Value) (o : Out) (B0 B1 : Option Addr) (d0 d1 : Nat) : Prop where
  st : StAt (fun k => X k ∨ (B ≤ k ∧ k < S1)) W g M vi' o.img o.l
  rf : RefSt W (fun k => (k < B ∧ RX X g M vi k) ∨ S ≤ k) B0 d0 B1 d1 o.img o.l
  wr : WrAt W S1 wl o.ms
  wr2 : WrAt W S wl2 o.ms
  box : W.heap[B + 2]? = some (.cells #[.slice none 0 0, .slice none 0 0] 29 (0, 0))
  res : W.heap[q]? = some (.cells #[.slice B0 o.img.length d0, .slice B1 o.l.length d1] 29 (0, 0))
  chg : Chg (fun k => ¬ Rest g M vi k) w W
  at_ : vi'.ownBlock = vi.ownBlock ∨ ∃ k, vi'.ownBlock = some k ∧ S1 ≤ k
  sz : w.heap.size = B
  hg : g < B
  hM : M < B
  hv : ∀ k, vi.ownBlock = some k → k < B
  hv2 : ∀ k, vi'.ownBlock = some k → k < S
  h1 : B + 3 ≤ S1
  h2 : S1 ≤ S
  hq : S ≤ q
  low : ∀ k, X k → k < B

/-- .. where only blocks of X turn. -/
theorem Core.step {X Y : Nat → Prop} {w W W' : World} {B S1 S g M q : Nat} {vi vi' wl wl2 : Value} {o : Out} {B0 B1 : Option Addr} {d0 d1 : Nat} (h : Core X w W B S1 S g M q vi vi' wl wl2 o B0 B1 d0 d1)
    (hX : ∀ k, Y k → B + 3 ≤ k ∧ k < S1) (hc : Chg Y W W') : Core X w W' B S1 S g M q vi vi' wl wl2 o B0 B1 d0 d1 := by
  have h1 := h.h1
  have h2 := h.h2
  have hq := h.hq
  have hg := h.hg
  have hM := h.hM
  have hv' : ∀ k, vi'.ownBlock = some k → k < B ∨ S1 ≤ k := fun k e => by
    rcases h.at_ with e2 | ⟨j, e2, hj⟩
    · exact .inl (h.hv k (e2 ▸ e))
    · rw [e2] at e; injection e with e; subst e; exact .inr hj
  have hk : ∀ k, k < W.heap.size → (k < B + 3 ∨ S1 ≤ k) → W'.heap[k]? = W.heap[k]? := fun k hlt ho => hc.block k hlt (fun x => by have := hX k x; omega)
  refine ⟨⟨(hk g (blk_lt h.st.blk) (by omega)).trans h.st.blk, own_step h.st.own (fun k e => hk k (own_low h.st.own k e).2 (by have := hv' k e; omega)), h.st.map.step (hk M h.st.map.lt (by omega)) (fun k ho hlt => hc.block k hlt (fun x => ho.2 (.inr (by have := hX k x; omega)))), h.st.rise, h.st.room, h.st.few, h.st.small, fun k hk => Nat.lt_of_lt_of_le (h.st.low k hk) hc.size⟩,
    h.rf.step (fun k ho hlt => hk k hlt (by omega)), h.wr.step (fun k hb hlt => hk k hlt (by omega)), h.wr2.step (fun k hb hlt => hk k hlt (by omega)),
    (hk _ (blk_lt h.box) (by omega)).trans h.box, (hk _ (blk_lt h.res) (by omega)).trans h.res, ⟨hc.os.trans h.chg.os, hc.tape.trans h.chg.tape, hc.output.trans h.chg.output, Nat.le_trans h.chg.size hc.size, fun k hlt hr => (hc.block k (Nat.lt_of_lt_of_le hlt h.chg.size) (fun x => by have := hX k x; have := h.sz; omega)).trans (h.chg.block k hlt hr)⟩, h.at_, h.sz, h.hg, h.hM, h.hv, h.hv2, h.h1, h.h2, h.hq, h.low⟩

theorem RefSt.okD {X : Nat → Prop} {w w2 : World} {g M B : Nat} {vi : Value} {A0 : Option Addr} {c0 : Nat} {A1 : Option Addr} {c1 : Nat} {img : List Int} {l : List S99} (h : RefSt w (RX X g M vi) A0 c0 A1 c1 img l) (hB : w.heap.size = B) (hc : Chg (fun k => ¬ Rest g M vi k) w w2) (S : Nat) :
    RefSt w2 (fun k => (k < B ∧ RX X g M vi k) ∨ S ≤ k) A0 c0 A1 c1 img l := by
  have hk : ∀ k, (RX X g M vi k ∧ k < w.heap.size) → k < w.heap.size → w2.heap[k]? = w.heap[k]? := fun k hr hlt => hc.block k hlt (fun x => x hr.1.1)
  exact ⟨Kd.F_mono (Kd.F_step (Kd.F_bound h.fi) hk) (fun k hr => .inl ⟨by omega, hr.1⟩), h.ci, Kd.F_mono (Kd.F_step (Kd.F_bound h.fl) hk) (fun k hr => .inl ⟨by omega, hr.1⟩), h.cl⟩
theorem U8C.okD {w w2 : World} {g M : Nat} {vi : Value} {A : Option Addr} {bs : List Int} (h : Kd.F (Kd.int .u8) w (Rest g M vi) A bs.length bs) (hc : Chg (fun k => ¬ Rest g M vi k) w w2) : U8C w2 A bs :=
  h w2 (fun k hr hlt => hc.block k hlt (fun x => x hr))

theorem Core.drewN {X : Nat → Prop} {w W : World} {B S1 S g M q : Nat} {vi vi' wl wl2 : Value} {o : Out} {B0 B1 : Option Addr} {d0 d1 : Nat} (h : Core X w W B S1 S g M q vi vi' wl wl2 o B0 B1 d0 d1) (m : Nat) : Core X w (W.drewN m) B S1 S g M q vi vi' wl wl2 o B0 B1 d0 d1 :=
  h.step (Y := fun _ => False) (fun _ hk => hk.elim) ⟨rfl, rfl, rfl, Nat.le_refl _, fun _ _ _ => rfl⟩

theorem Core.drew {X : Nat → Prop} {w W : World} {B S1 S g M q : Nat} {vi vi' wl wl2 : Value} {o : Out} {B0 B1 : Option Addr} {d0 d1 : Nat} (h : Core X w W B S1 S g M q vi vi' wl wl2 o B0 B1 d0 d1) : Core X w W.drew B S1 S g M q vi vi' wl wl2 o B0 B1 d0 d1 :=
  h.step (Y := fun _ => False) (fun _ hk => hk.elim) ⟨rfl, rfl, rfl, Nat.le_refl _, fun _ _ _ => rfl⟩

theorem set2_keepq {w : World} {b q : Nat} {p r u v : Value} (hne : q ≠ b) (h0 : w.cell? ⟨q, 0, none⟩ = some u) (h1 : w.cell? ⟨q, 1, none⟩ = some v) :
    ((w.setCell ⟨b, 0, none⟩ p).setCell ⟨b, 1, none⟩ r).cell? ⟨q, 0, none⟩ = some u ∧ ((w.setCell ⟨b, 0, none⟩ p).setCell ⟨b, 1, none⟩ r).cell? ⟨q, 1, none⟩ = some v := by
  refine ⟨?_, ?_⟩
  · rw [World.cell?_setCell_other _ _ _ _ (by simp), World.cell?_setCell_other _ _ _ _ (by simp)]; exact h0
  · rw [World.cell?_setCell_other _ _ _ _ (by simp), World.cell?_setCell_other _ _ _ _ (by simp)]; exact h1
theorem set2_chg {w : World} {b : Nat} {p q : Value} : Chg (fun k => k = b) w ((w.setCell ⟨b, 0, none⟩ p).setCell ⟨b, 1, none⟩ q) :=
  (Chg.set w ⟨b, 0, none⟩ p (S := fun k => k = b) rfl).trans (Chg.set _ ⟨b, 1, none⟩ q (S := fun k => k = b) rfl)
theorem laidS_ms (kind : Int) (img : List Int) (l' l : List S99) (rec : List Int) (hr : rec.length ≤ 5000) : (laidS kind img l' l rec).ms.length ≤ 2 ∧ ∀ x ∈ (laidS kind img l' l rec).ms, x.f1.length ≤ 10000 := by
  unfold laidS
  split
  · simp
  · refine ⟨by simp, fun x hx => ?_⟩
    simp only [List.mem_cons, List.not_mem_nil, or_false] at hx
    rcases hx with rfl | rfl
    · simp; omega
    · simp
theorem putS_ms (img : List Int) (l : List S99) (s : ByteArray) (b : List Int) : (putS img l s b).ms.length ≤ 2 ∧ ∀ x ∈ (putS img l s b).ms, x.f1.length ≤ 10000 := by
  unfold putS
  by_cases hs : isNameB s = false
  · simp [hs]
  · rw [if_neg hs]
    by_cases h4 : 4096 < b.length
    · simp [h4]
    · rw [if_neg h4]
      by_cases h16 : (plc l s).2 = false ∧ l.length = 16
      · simp [h16]
      · rw [if_neg h16]
        refine laidS_ms _ _ _ _ _ ?_
        have := isNameB_size (s := s) (by simpa using hs)
        rw [recB_len]; simp; omega
theorem dropS_ms (img : List Int) (l : List S99) (s : ByteArray) : (dropS img l s).ms.length ≤ 2 ∧ ∀ x ∈ (dropS img l s).ms, x.f1.length ≤ 10000 := by
  unfold dropS
  by_cases hs : isNameB s = false
  · simp [hs]
  · rw [if_neg hs]
    by_cases h4 : (plc l s).2 = false
    · simp [h4]
    · rw [if_neg h4]
      refine laidS_ms _ _ _ _ _ ?_
      have := isNameB_size (s := s) (by simpa using hs)
      rw [recB_len]; simp; omega

/-- What a call that turns a store comes to, beside the document's. -/
def DoOut (X : Nat → Prop) (w : World) (g M : Nat) (vi : Value) (o : Out) (e : Ending) (w' : World) : Prop :=
  ∃ vi' B0 d0 B1 d1 wl, e = .returned (.tuple #[.agg #[.slice B0 o.img.length d0, .slice B1 o.l.length d1], wl, .bool true]) ∧ StAt X w' g M vi' o.img o.l ∧ RefSt w' (RX X g M vi') B0 d0 B1 d1 o.img o.l ∧
    WrAt w' w.heap.size wl o.ms ∧ (vi'.ownBlock = vi.ownBlock ∨ ∃ k, vi'.ownBlock = some k ∧ w.heap.size ≤ k) ∧ Chg (fun k => ¬ Rest g M vi k) w w'

theorem Core.fin {X : Nat → Prop} {w W W' : World} {B S1 S g M q : Nat} {vi vi' wl wl2 : Value} {o : Out} {B0 B1 : Option Addr} {d0 d1 : Nat} (h : Core X w W B S1 S g M q vi vi' wl wl2 o B0 B1 d0 d1)
    (hc : Chg (fun k => k = B + 2) W W') : DoOut X w g M vi o (.returned (.tuple #[.agg #[.slice B0 o.img.length d0, .slice B1 o.l.length d1], wl2, .bool true])) W' := by
  have h1 := h.h1
  have h2 := h.h2
  have hg := h.hg
  have hM := h.hM
  have hsz := h.sz
  have hv' : ∀ k, vi'.ownBlock = some k → k < B ∨ S1 ≤ k := fun k e => by
    rcases h.at_ with e2 | ⟨j, e2, hj⟩
    · exact .inl (h.hv k (e2 ▸ e))
    · rw [e2] at e; injection e with e; subst e; exact .inr hj
  have hk : ∀ k, k < W.heap.size → k ≠ B + 2 → W'.heap[k]? = W.heap[k]? := fun k hlt ho => hc.block k hlt ho
  have hst := h.st.less (Y := X) (fun k x => .inl x)
  refine ⟨vi', B0, d0, B1, d1, wl2, rfl, ?_, ?_, ?_, ?_, ?_⟩
  · refine ⟨(hk g (blk_lt hst.blk) (by omega)).trans hst.blk, own_step hst.own (fun k e => hk k (own_low hst.own k e).2 (by have := hv' k e; omega)), ?_, hst.rise, hst.room, hst.few, hst.small, fun k hk => Nat.lt_of_lt_of_le (hst.low k hk) hc.size⟩
    exact (h.st.map.step (hk M h.st.map.lt (by omega)) (fun k ho hlt => hk k hlt (fun e => ho.2 (.inr (by omega))))).mono (fun k ho _ => ⟨ho.1, fun x => ho.2 (.inl x)⟩)
  · refine (h.rf.step (fun k ho hlt => hk k hlt (by omega))).mono (fun k ho => ?_)
    rcases ho with ⟨ho, hr⟩ | ho
    · exact ⟨⟨hr.1.1, hr.1.2.1, fun e => by
        rcases h.at_ with e2 | ⟨j, e2, hj⟩
        · exact hr.1.2.2 (e2 ▸ e)
        · rw [e2] at e; injection e with e; omega⟩, hr.2⟩
    · exact ⟨⟨by omega, by omega, fun e => by have := h.hv2 k e; omega⟩, fun x => by have := h.low k x; omega⟩
  · exact (h.wr2.step (fun k hb hlt => hk k hlt (by omega))).low (by omega)
  · exact h.at_.elim (fun e => .inl e) (fun ⟨k, e, hk⟩ => .inr ⟨k, e, by omega⟩)
  · exact ⟨hc.os.trans h.chg.os, hc.tape.trans h.chg.tape, hc.output.trans h.chg.output, Nat.le_trans h.chg.size hc.size, fun k hlt hr => (hc.block k (Nat.lt_of_lt_of_le hlt h.chg.size) (fun x => by omega)).trans (h.chg.block k hlt hr)⟩

end Go.Proofs.Ytcjniogdjbplbaa

/-! St13 -/
namespace Go.Proofs.Ytcjniogdjbplbaa
open Mem Go.RowKit Go.Proofs.YtcjniogdjbplbaaW.PrintWords Go.Proofs.YtcjniogdjbplbaaW.PrintLast Go.Proofs.YtcjniogdjbplbaaW.PrintMore PStorePlays

theorem own_blk {w : World} {base n cap g : Nat} {e : TypeId} {xs : List Value} (h : w.ownsRow base e 1 (.slice (some ⟨g, 0, none⟩) n cap) n xs) :
    ∃ cur : Array Value, w.heap[g]? = some (.cells cur e (0, 0)) ∧ base ≤ g ∧ n ≤ cap ∧ cur.size = cap ∧ ∀ (j : Nat) (v : Value), xs[j]? = some v → cur[j]? = some v := by
  rcases h.2 with ⟨e, _⟩ | ⟨g', cap', cur, e, hb, hg, hnc, _, hcs, ht⟩
  · cases e
  · injection e with e1 e2 e3
    injection e1 with e1
    injection e1 with e1 _ _
    subst e1
    subst e3
    refine ⟨cur, hg, hb, hnc, by omega, fun j v hj => ?_⟩
    rw [← ht, List.getElem?_take] at hj
    split at hj
    · simpa using hj
    · cases hj

/-- The given bytes: a row of its own, its marks behind. -/
structure Giv (W : World) (B S1 g1 n : Nat) : Prop where
  row : ∃ cur, W.heap[g1]? = some (.cells cur 5 (0, 0)) ∧ ∀ j, j < n → ∃ x, cur[j]? = some (.int .u8 x)
  lo : B + 3 ≤ g1
  hi : g1 < S1

theorem giv_F {w1 : World} {ok : Nat → Prop} {g1 : Nat} {cur : Array Value} {xs : List Int} (h : w1.heap[g1]? = some (.cells cur 5 (0, 0))) (hx : ∀ (j : Nat) (x : Int), xs[j]? = some x → cur[j]? = some (.int .u8 x)) (hl : xs.length ≤ 9223372036854775807) (hok : ok g1) : Kd.F (Kd.int .u8) w1 ok (some ⟨g1, 0, none⟩) xs.length xs :=
  fun _ hW => C8_blk (C_int_of_blk h hx hl) (fun ad e _ => by injection e with e; subst e; exact hW g1 hok (blk_lt h))

theorem Giv.step {W W' : World} {B S1 g1 n : Nat} (h : Giv W B S1 g1 n) (hk : W'.heap[g1]? = W.heap[g1]?) : Giv W' B S1 g1 n := by
  obtain ⟨⟨cur, h1, h2⟩, h3, h4⟩ := h
  exact ⟨⟨cur, hk.trans h1, h2⟩, h3, h4⟩
theorem Giv.put {W : World} {B S1 g1 n k : Nat} (h : Giv W B S1 g1 n) (z : Int) : Giv (W.setCell ⟨g1, k, none⟩ (.int .u8 z)) B S1 g1 n := by
  obtain ⟨⟨cur, h1, h2⟩, h3, h4⟩ := h
  refine ⟨⟨_, blk_set h1 k _, fun j hj => ?_⟩, h3, h4⟩
  obtain ⟨x, hx⟩ := h2 j hj
  by_cases e : j = k
  · subst e
    exact ⟨z, by rw [Array.getElem?_setIfInBounds_self_of_lt (Array.getElem?_eq_some_iff.1 hx).1]⟩
  · exact ⟨x, by rw [Array.getElem?_setIfInBounds_ne (by omega)]; exact hx⟩

set_option maxHeartbeats 4000000 in
set_option maxRecDepth 100000 in
theorem do_put (X : Nat → Prop) (g M : Nat) (vi : Value) (img : List Int) (l : List S99) (s : ByteArray) (A : Option Addr) (n c : Nat) (bs : List Int) (A0 : Option Addr) (c0 : Nat) (A1 : Option Addr) (c1 : Nat) (w : World) (h : StAt X w g M vi img l) (hS : RefSt w (RX X g M vi) A0 c0 A1 c1 img l) (hb : Kd.F (Kd.int .u8) w (Rest g M vi) A bs.length bs)
    (hn : Hid (n = bs.length)) (hc : n ≤ c) (hc0 : A = none → c = 0) (hl : n ≤ 140737488355000) (hm : s.size ≤ maxLen) (n0 n1 : Nat) (hn0 : Hid (n0 = img.length)) (hn1 : Hid (n1 = l.length)) :
    Calls Try.prog 13 #[.pointer (some ⟨g, 0, none⟩), .agg #[.slice A0 n0 c0, .slice A1 n1 c1], .agg #[.int .i64 0, .string s, .slice A n c]] w fun e w' => DoOut X w g M vi (putS img l s bs) e w' := by
  have H10 := Lib.hid (fun (X : Nat → Prop) (w1 : World) (g1 c' : Nat) (h1 : StAt X w1 g M vi img l) (hb1 : Kd.F (Kd.int .u8) w1 (Rest g M vi) (some ⟨g1, 0, none⟩) bs.length bs) => st_put g M vi img l s (some ⟨g1, 0, none⟩) n c' bs w1 h1 hb1 hn hm)
  have H12 := Lib.hid (fun (ok : Nat → Prop) (w2 : World) (hok : ∀ k, w2.heap.size ≤ k → ok k) (h2 : RefSt w2 ok A0 c0 A1 c1 img l) (h3 : U8C w2 A bs) => ref_put A0 c0 A1 c1 img l A n c bs s ok w2 hok h2 h.room h.few h3 hn)
  rw [← hn0.out, ← hn1.out] at H12
  obtain ⟨o, ho⟩ : ∃ o, o = putS img l s bs := ⟨_, rfl⟩
  rw [← ho] at H10 H12
  have HMS := Lib.hid (putS_ms img l s bs)
  rw [← ho] at HMS
  rw [← ho]
  clear ho
  have HH := Lib.hid h
  have HRS := Lib.hid hS
  have HFB := Lib.hid hb
  have HC0 := Lib.hid hc0
  obtain ⟨hgB, hMB, hvB⟩ := h.lts
  have HVB := Lib.hid hvB
  have HLOW := Lib.hid h.low
  have hbx := DBx.new w (.slice A0 n0 c0) (.slice A1 n1 c1) 0 s (.slice A n c)
  have HBX := Lib.hid hbx
  clear h hS hb hvB hbx hc0
  go_enter Try.func13, Try.ntmps13
  go_wp2_with fail
  refine at_world (fun W => DBx W w.heap.size (.slice A0 n0 c0) (.slice A1 n1 c1) 0 s (.slice A n c) ∧ Below w.heap.size w W) ⟨HBX.out, start3⟩ ?_
  clear HBX
  generalize hB : w.heap.size = B at *
  have HB := Lib.hid hB
  clear hB
  rintro W ⟨hbx, hbw⟩
  refine (roomy_any A c n bs W (Kd.F_now (Kd.F_below HFB.out (HB.out ▸ hbw))) hn.out HC0.out hl).mono ?_
  rintro e w1 ⟨g1, cap, rfl, ho, hb1⟩
  have hcap := own_cap ho
  obtain ⟨cur, hcu, hge, _, hcs0, hcells⟩ := own_blk ho
  have hbx1 := hbx.below hb1
  obtain ⟨x0, x1, x2, x3, x4⟩ := hbx1.cells
  have hmk : ∀ (j : Nat) (x : Int), (marked bs)[j]? = some x → cur[j]? = some (.int .u8 x) := fun j x hj => hcells j _ (by simp [nums, hj])
  have hxs : ∀ (j : Nat) (x : Int), bs[j]? = some x → (marked bs)[j]? = some x := fun j x hj => by
    rw [marked, List.getElem?_append_left (List.getElem?_eq_some_iff.1 hj).1]; exact hj
  have hlt := hbx.lt
  have HMK := Lib.hid hmk
  have HCU := Lib.hid hcu
  have HBX1 := Lib.hid hbx1
  have HGE := Lib.hid (show B + 3 ≤ g1 by omega)
  have hF1 : Kd.F (Kd.int .u8) w1 (Rest g M vi) (some ⟨g1, 0, none⟩) bs.length bs := giv_F hcu (fun j x hj => hmk j x (hxs j x hj)) (by have := hn.out; omega) ⟨by omega, by omega, fun e => by have := HVB.out _ e; omega⟩
  have HF1 := Lib.hid hF1
  obtain ⟨S1, hS1⟩ : ∃ S1, w1.heap.size = S1 := ⟨_, rfl⟩
  have HS1 := Lib.hid hS1
  have hst1 := HH.out.shun (hbw.trans (hb1.mono (by omega))) HB.out hS1
  have HST1 := Lib.hid hst1
  have HGS := Lib.hid (show g1 < S1 by rw [← hS1]; exact blk_lt hcu)
  have HBS := Lib.hid (show B + 3 ≤ S1 by have := HGE.out; have := HGS.out; omega)
  have HC1 := Lib.hid (show Chg (fun k => ¬ Rest g M vi k) w w1 from Chg.of_below (HB.out.symm ▸ hbw.trans (hb1.mono (by omega))))
  clear ho hcells hcu hbx hbw hb1 hbx1 hF1 hst1 hS1 hge hcs0 hmk hxs hlt
  go_wp2_with (first
    | (go_at_call 10; refine (H10.out _ w1 g1 cap HST1.out HF1.out).mono ?_; rintro e w2 ⟨wl, vi', rfl, hso⟩; have HSO := Lib.hid hso; have HBX2 := Lib.hid (HBX1.out.chg hgB hMB HVB.out hso.chg); obtain ⟨y0, y1, y2, y3, y4⟩ := HBX2.out.cells; obtain ⟨S, hS⟩ : ∃ S, w2.heap.size = S := ⟨_, rfl⟩; have HS := Lib.hid hS; have HC2 := Lib.hid (HC1.out.trans hso.chg); clear hS hso x0 x1 x2 x3 x4)
    | (go_at_call 12; refine (H12.out _ w2 (fun k hk => .inr (by have := HS.out; omega)) (HRS.out.okD HB.out HC2.out S) (U8C.okD HFB.out HC2.out)).mono ?_; rintro e w3 ⟨B0, d0, B1, d1, wl2, rfl, hrf, hwr2, hb3⟩; have HRF := Lib.hid hrf; have HWR2 := Lib.hid hwr2; have HB3 := Lib.hid hb3; have hbx4 := (HBX2.out.below hb3).below (start_below (w := w3) (o := .cells #[.slice B0 o.img.length d0, .slice B1 o.l.length d1] 29)); have HBX4 := Lib.hid hbx4; obtain ⟨-, -, -, -, z4⟩ := hbx4.cells; clear hrf hwr2 hb3 hbx4 y0 y1 y2 y3 y4))
  refine at_world (fun W => Core X w W B S1 S g M w3.heap.size vi vi' wl wl2 o B0 B1 d0 d1 ∧ Giv W B S1 g1 n ∧ U8C W (some ⟨g1, 0, none⟩) (marked bs) ∧ U8C W A bs) ⟨?_, ?_, ?_, ?_⟩ ?_
  · have e1 := HS1.out
    have e2 := HS.out
    have hB4 : Below w3.heap.size w3 (w3.alloc (.cells #[.slice B0 o.img.length d0, .slice B1 o.l.length d1] 29)) := start_below
    have hB24 := HB3.out.trans (hB4.mono HB3.out.size)
    refine ⟨HSO.out.st.step hB24, HRF.out.below hB4, ?_, ?_, HBX4.out.b2, heap_alloc_new _ _, HC2.out.trans (Chg.of_below hB24), ?_, HB.out, hgB, hMB, HVB.out, fun k hk => ?_, HBS.out, ?_, ?_, ?_⟩
    · rw [← e1]; exact HSO.out.wr.below hB24
    · rw [← e2]; exact HWR2.out.below hB4
    · rw [← e1]; exact HSO.out.at_
    · rw [← e2]; exact (own_low HSO.out.st.own k hk).2
    · rw [← e1, ← e2]; exact HSO.out.chg.size
    · rw [← e2]; exact HB3.out.size
    · exact HB.out ▸ HLOW.out
  · have hB24 := HB3.out.trans ((start_below (w := w3) (o := .cells #[.slice B0 o.img.length d0, .slice B1 o.l.length d1] 29)).mono HB3.out.size)
    refine ⟨⟨cur, ?_, fun j hj => ?_⟩, HGE.out, HGS.out⟩
    · rw [hB24.block g1 (by have := HSO.out.chg.size; have := HGS.out; have := HS1.out; omega), HSO.out.chg.block g1 (by have := HGS.out; have := HS1.out; omega) (fun x => x ⟨by have := HGE.out; omega, by have := HGE.out; omega, fun e => by have := HVB.out _ e; have := HGE.out; omega⟩)]
      exact HCU.out
    · have : j < (marked bs).length := by have := hn.out; simp [marked]; omega
      exact ⟨_, HMK.out j _ (List.getElem?_eq_getElem this)⟩
  · have hB24 := HB3.out.trans ((start_below (w := w3) (o := .cells #[.slice B0 o.img.length d0, .slice B1 o.l.length d1] 29)).mono HB3.out.size)
    refine C_int_of_blk (t := 5) (fr := (0, 0)) ?_ HMK.out (by have := hn.out; simp [marked]; omega)
    · rw [hB24.block g1 (by have := HSO.out.chg.size; have := HGS.out; have := HS1.out; omega), HSO.out.chg.block g1 (by have := HGS.out; have := HS1.out; omega) (fun x => x ⟨by have := HGE.out; omega, by have := HGE.out; omega, fun e => by have := HVB.out _ e; have := HGE.out; omega⟩)]
      exact HCU.out
  · have hB24 := HB3.out.trans ((start_below (w := w3) (o := .cells #[.slice B0 o.img.length d0, .slice B1 o.l.length d1] 29)).mono HB3.out.size)
    exact U8C.okD HFB.out (HC2.out.trans (Chg.of_below hB24))
  rintro W ⟨hco, hgi, hC1, hC2⟩
  refine (untouched_c _ cap A c bs n _ hC1 (by omega) hC2 (by have := hn.out; omega) (by have := hn.out; omega) hn).mono ?_
  rintro e W2 ⟨rfl, ⟨m2, rfl⟩⟩
  have HCO := Lib.hid (hco.drewN m2)
  have HGI := Lib.hid (hgi.step (W' := W.drewN m2) rfl)
  clear hco hgi hC1 hC2 z4 HB3 HBX4 HBX2 HBX1 HRF HWR2 HSO HMK HCU HF1 HST1
  generalize w3.heap.size = q at *
  go_wp2_with fail
  go_loopw [58] (fun i wr => ∃ k : Nat, k ≤ n ∧ i = .int .i64 k ∧ Core X w wr B S1 S g M q vi vi' wl wl2 o B0 B1 d0 d1 ∧ Giv wr B S1 g1 n) (fun i _ => n - (intOf i).toNat)
  case atStart => exact ⟨0, Nat.zero_le _, rfl, HCO.out, HGI.out⟩
  case round =>
    clear HCO HGI
    obtain ⟨k, hk, rfl, hco, hgi⟩ := hrel
    have HC := Lib.hid hco
    have HG := Lib.hid hgi
    obtain ⟨cur2, hc2, hy2⟩ := hgi.row
    have HC2 := Lib.hid hc2
    have HY2 := Lib.hid hy2
    clear hco hgi hc2 hy2
    by_cases hlt : k < n
    · obtain ⟨y, hy⟩ := HY2.out k hlt
      have ck : wr.cell? ⟨g1, k, none⟩ = some (.int .u8 y) := (blk_cell HC2.out k).trans hy
      have fk : wr.frozen? ⟨g1, k, none⟩ = false := blk_frozen HC2.out k
      clear hy
      go_wp2_with fail
      go_roundw
      case rel => exact ⟨k + 1, by omega, by go_num, HC.out.step (Y := fun j => j = g1) (fun j hj => by have := HG.out.lo; have := HG.out.hi; omega) (Chg.set _ _ _ rfl), HG.out.put _⟩
      case measure => simp [intOf]; omega
    · clear HC2 HY2
      go_wp2_with fail
      have q0 : wr.cell? ⟨q, 0, none⟩ = some (.slice B0 o.img.length d0) := (blk_cell HC.out.res 0).trans rfl
      have q1 : wr.cell? ⟨q, 1, none⟩ = some (.slice B1 o.l.length d1) := (blk_cell HC.out.res 1).trans rfl
      have u0 : wr.cell? ⟨B + 1 + 1, 0, none⟩ = some (.slice none 0 0) := (blk_cell HC.out.box 0).trans rfl
      have u1 : wr.cell? ⟨B + 1 + 1, 1, none⟩ = some (.slice none 0 0) := (blk_cell HC.out.box 1).trans rfl
      have f0 : wr.frozen? ⟨B + 1 + 1, 0, none⟩ = false := blk_frozen HC.out.box 0
      have f1 : wr.frozen? ⟨B + 1 + 1, 1, none⟩ = false := blk_frozen HC.out.box 1
      have hnq : q ≠ B + 1 + 1 := by have := HC.out.h1; have := HC.out.h2; have := HC.out.hq; omega
      go_region_held3 (fun W' => W'.cell? ⟨q, 0, none⟩ = some (.slice B0 o.img.length d0) ∧ W'.cell? ⟨q, 1, none⟩ = some (.slice B1 o.l.length d1))
        (first | exact ⟨q0, q1⟩ | exact HK.out | exact set2_keepq hnq HK.out.1 HK.out.2)
        (first | (go_at_call 16; refine (same_any wl wl2 o.ms S1 S wr.drew HC.out.drew.wr HC.out.drew.wr2 (by have := HMS.out.1; omega) (fun x hx => by have := HMS.out.2 x hx; omega)).mono ?_; rintro e w5 ⟨rfl, ⟨m5, rfl⟩⟩; have HK := Lib.hid (show (wr.drew.drewN m5).cell? ⟨q, 0, none⟩ = some (.slice B0 o.img.length d0) ∧ (wr.drew.drewN m5).cell? ⟨q, 1, none⟩ = some (.slice B1 o.l.length d1) from ⟨q0, q1⟩)))
      have hbk := (blk_set ((blk_set (show (wr.drewN (1 + m5)).heap[B + 1 + 1]? = _ from HC.out.box) 0 (.slice B0 o.img.length d0)).trans rfl) 1 (.slice B1 o.l.length d1)).trans rfl
      refine exit_world (fun W5 => W5.cell? ⟨B + 1 + 1, 0, none⟩ = some (.slice B0 o.img.length d0) ∧ W5.cell? ⟨B + 1 + 1, 1, none⟩ = some (.slice B1 o.l.length d1) ∧ DoOut X w g M vi o (.returned (.tuple #[.agg #[.slice B0 o.img.length d0, .slice B1 o.l.length d1], wl2, .bool true])) W5)
        ⟨(blk_cell hbk 0).trans rfl, (blk_cell hbk 1).trans rfl, (HC.out.drewN (1 + m5)).fin set2_chg⟩ ?_
      rintro W5 ⟨t0, t1, hfin⟩
      have HFIN := Lib.hid hfin
      clear hfin hbk
      go_wp2_with fail
      refine bodyPost_ret (by simp [results, Try.results13, go_sem, t0, t1]; try rfl) rfl ?_
      exact HFIN.out

end Go.Proofs.Ytcjniogdjbplbaa

/-! St14 -/
namespace Go.Proofs.Ytcjniogdjbplbaa
open Mem Go.RowKit Go.Proofs.YtcjniogdjbplbaaW.PrintWords Go.Proofs.YtcjniogdjbplbaaW.PrintLast Go.Proofs.YtcjniogdjbplbaaW.PrintMore PStorePlays

set_option maxHeartbeats 4000000 in
set_option maxRecDepth 100000 in
theorem do_drop (X : Nat → Prop) (g M : Nat) (vi : Value) (img : List Int) (l : List S99) (s : ByteArray) (A : Option Addr) (n c : Nat) (A0 : Option Addr) (c0 : Nat) (A1 : Option Addr) (c1 : Nat) (w : World) (h : StAt X w g M vi img l) (hS : RefSt w (RX X g M vi) A0 c0 A1 c1 img l)
    (hm : s.size ≤ maxLen) (n0 n1 : Nat) (hn0 : Hid (n0 = img.length)) (hn1 : Hid (n1 = l.length)) :
    Calls Try.prog 13 #[.pointer (some ⟨g, 0, none⟩), .agg #[.slice A0 n0 c0, .slice A1 n1 c1], .agg #[.int .i64 1, .string s, .slice A n c]] w fun e w' => DoOut X w g M vi (dropS img l s) e w' := by
  have H10 := Lib.hid (fun (X : Nat → Prop) (w1 : World) (h1 : StAt X w1 g M vi img l) => st_drop g M vi img l s w1 h1 hm)
  have H12 := Lib.hid (fun (ok : Nat → Prop) (w2 : World) (hok : ∀ k, w2.heap.size ≤ k → ok k) (h2 : RefSt w2 ok A0 c0 A1 c1 img l) => ref_drop A0 c0 A1 c1 img l s ok w2 hok h2 h.room h.few)
  rw [← hn0.out, ← hn1.out] at H12
  obtain ⟨o, ho⟩ : ∃ o, o = dropS img l s := ⟨_, rfl⟩
  rw [← ho] at H10 H12
  have HMS := Lib.hid (dropS_ms img l s)
  rw [← ho] at HMS
  rw [← ho]
  clear ho
  have HH := Lib.hid h
  have HRS := Lib.hid hS
  obtain ⟨hgB, hMB, hvB⟩ := h.lts
  have HVB := Lib.hid hvB
  have HLOW := Lib.hid h.low
  have hbx := DBx.new w (.slice A0 n0 c0) (.slice A1 n1 c1) 1 s (.slice A n c)
  have HBX := Lib.hid hbx
  clear h hS hvB hbx
  go_enter Try.func13, Try.ntmps13
  go_wp2_with fail
  have hsz3 : (((w.alloc (.cells #[.slice A0 n0 c0, .slice A1 n1 c1] 29)).alloc (.cells #[.int .i64 1, .string s, .slice A n c] 37)).alloc (.cells #[.slice none 0 0, .slice none 0 0] 29)).heap.size = w.heap.size + 3 := by simp
  refine at_world (fun W => DBx W w.heap.size (.slice A0 n0 c0) (.slice A1 n1 c1) 1 s (.slice A n c) ∧ Below w.heap.size w W ∧ W.heap.size = w.heap.size + 3) ⟨HBX.out, start3, hsz3⟩ ?_
  clear HBX hsz3
  generalize hB : w.heap.size = B at *
  have HB := Lib.hid hB
  clear hB
  rintro w1 ⟨hbx, hbw, hS1⟩
  obtain ⟨x0, x1, x2, x3, x4⟩ := hbx.cells
  have HBX1 := Lib.hid hbx
  have HS1 := Lib.hid hS1
  have HST1 := Lib.hid (HH.out.shun hbw HB.out hS1)
  have HC1 := Lib.hid (show Chg (fun k => ¬ Rest g M vi k) w w1 from Chg.of_below (HB.out.symm ▸ hbw))
  clear hbx hbw hS1
  refine (H10.out _ w1 HST1.out).mono ?_
  rintro e w2 ⟨wl, vi', rfl, hso⟩
  have HSO := Lib.hid hso
  have HBX2 := Lib.hid (HBX1.out.chg hgB hMB HVB.out hso.chg)
  obtain ⟨y0, y1, y2, y3, y4⟩ := HBX2.out.cells
  obtain ⟨S, hS⟩ : ∃ S, w2.heap.size = S := ⟨_, rfl⟩
  have HS := Lib.hid hS
  have HC2 := Lib.hid (HC1.out.trans hso.chg)
  clear hS hso x0 x1 x2 x3 x4
  go_wp2_with fail
  refine (H12.out _ w2 (fun k hk => .inr (by have := HS.out; omega)) (HRS.out.okD HB.out HC2.out S)).mono ?_
  rintro e w3 ⟨B0, d0, B1, d1, wl2, rfl, hrf, hwr2, hb3⟩
  have HRF := Lib.hid hrf
  have HWR2 := Lib.hid hwr2
  have HB3 := Lib.hid hb3
  have HBX4 := Lib.hid ((HBX2.out.below hb3).below (start_below (w := w3) (o := .cells #[.slice B0 o.img.length d0, .slice B1 o.l.length d1] 29)))
  clear hrf hwr2 hb3 y0 y1 y2 y3 y4
  go_wp2_with fail
  refine wp_world (fun W => Core X w W B (B + 3) S g M w3.heap.size vi vi' wl wl2 o B0 B1 d0 d1) ?_ ?_
  · have e1 := HS1.out
    have e2 := HS.out
    have hB4 : Below w3.heap.size w3 (w3.alloc (.cells #[.slice B0 o.img.length d0, .slice B1 o.l.length d1] 29)) := start_below
    have hB24 := HB3.out.trans (hB4.mono HB3.out.size)
    refine ⟨HSO.out.st.step hB24, HRF.out.below hB4, ?_, ?_, HBX4.out.b2, heap_alloc_new _ _, HC2.out.trans (Chg.of_below hB24), ?_, HB.out, hgB, hMB, HVB.out, fun k hk => ?_, Nat.le_refl _, ?_, ?_, ?_⟩
    · rw [← e1]; exact HSO.out.wr.below hB24
    · rw [← e2]; exact HWR2.out.below hB4
    · rw [← e1]; exact HSO.out.at_
    · rw [← e2]; exact (own_low HSO.out.st.own k hk).2
    · rw [← e1, ← e2]; exact HSO.out.chg.size
    · rw [← e2]; exact HB3.out.size
    · exact HB.out ▸ HLOW.out
  rintro wr hco
  have HC := Lib.hid hco
  clear hco HB3 HBX4 HBX2 HBX1 HRF HWR2 HSO HST1
  generalize w3.heap.size = q at *
  have q0 : wr.cell? ⟨q, 0, none⟩ = some (.slice B0 o.img.length d0) := (blk_cell HC.out.res 0).trans rfl
  have q1 : wr.cell? ⟨q, 1, none⟩ = some (.slice B1 o.l.length d1) := (blk_cell HC.out.res 1).trans rfl
  have u0 : wr.cell? ⟨B + 1 + 1, 0, none⟩ = some (.slice none 0 0) := (blk_cell HC.out.box 0).trans rfl
  have u1 : wr.cell? ⟨B + 1 + 1, 1, none⟩ = some (.slice none 0 0) := (blk_cell HC.out.box 1).trans rfl
  have f0 : wr.frozen? ⟨B + 1 + 1, 0, none⟩ = false := blk_frozen HC.out.box 0
  have f1 : wr.frozen? ⟨B + 1 + 1, 1, none⟩ = false := blk_frozen HC.out.box 1
  have hnq : q ≠ B + 1 + 1 := by have := HC.out.h1; have := HC.out.h2; have := HC.out.hq; omega
  go_region_held3 (fun W' => W'.cell? ⟨q, 0, none⟩ = some (.slice B0 o.img.length d0) ∧ W'.cell? ⟨q, 1, none⟩ = some (.slice B1 o.l.length d1))
    (first | exact ⟨q0, q1⟩ | exact HK.out | exact set2_keepq hnq HK.out.1 HK.out.2)
    (first | (go_at_call 16; refine (same_any wl wl2 o.ms (B + 3) S wr.drew HC.out.drew.wr HC.out.drew.wr2 (by have := HMS.out.1; omega) (fun x hx => by have := HMS.out.2 x hx; omega)).mono ?_; rintro e w5 ⟨rfl, ⟨m5, rfl⟩⟩; have HK := Lib.hid (show (wr.drew.drewN m5).cell? ⟨q, 0, none⟩ = some (.slice B0 o.img.length d0) ∧ (wr.drew.drewN m5).cell? ⟨q, 1, none⟩ = some (.slice B1 o.l.length d1) from ⟨q0, q1⟩)))
  have hbk := (blk_set ((blk_set (show (wr.drewN (1 + m5)).heap[B + 1 + 1]? = _ from HC.out.box) 0 (.slice B0 o.img.length d0)).trans rfl) 1 (.slice B1 o.l.length d1)).trans rfl
  refine exit_world (fun W5 => W5.cell? ⟨B + 1 + 1, 0, none⟩ = some (.slice B0 o.img.length d0) ∧ W5.cell? ⟨B + 1 + 1, 1, none⟩ = some (.slice B1 o.l.length d1) ∧ DoOut X w g M vi o (.returned (.tuple #[.agg #[.slice B0 o.img.length d0, .slice B1 o.l.length d1], wl2, .bool true])) W5)
    ⟨(blk_cell hbk 0).trans rfl, (blk_cell hbk 1).trans rfl, (HC.out.drewN (1 + m5)).fin set2_chg⟩ ?_
  rintro W5 ⟨t0, t1, hfin⟩
  have HFIN := Lib.hid hfin
  clear hfin hbk
  go_wp2_with fail
  refine bodyPost_ret (by simp [results, Try.results13, go_sem, t0, t1]; try rfl) rfl ?_
  exact HFIN.out

end Go.Proofs.Ytcjniogdjbplbaa

/-! St15 -/
namespace Go.Proofs.Ytcjniogdjbplbaa
open Mem Go.RowKit Go.Proofs.YtcjniogdjbplbaaW.PrintWords Go.Proofs.YtcjniogdjbplbaaW.PrintLast Go.Proofs.YtcjniogdjbplbaaW.PrintMore PStorePlays

/-- A store and the document's state of it, both made behind w; their blocks lie outside of X. -/
structure Pair (X : Nat → Prop) (w W : World) (g M : Nat) (vi : Value) (A0 : Option Addr) (c0 : Nat) (A1 : Option Addr) (c1 : Nat) (img : List Int) (l : List S99) : Prop where
  st : StAt X W g M vi img l
  rf : RefSt W (RX X g M vi) A0 c0 A1 c1 img l
  bel : Below w.heap.size w W
  lg : w.heap.size ≤ g
  lM : w.heap.size ≤ M
  lv : ∀ k, vi.ownBlock = some k → w.heap.size ≤ k

theorem Pair.step {X : Nat → Prop} {w W W' : World} {g M : Nat} {vi : Value} {A0 : Option Addr} {c0 : Nat} {A1 : Option Addr} {c1 : Nat} {img : List Int} {l : List S99} (h : Pair X w W g M vi A0 c0 A1 c1 img l) (hb : Chg X W W') (hX : ∀ k, X k → w.heap.size ≤ k ∧ Rest g M vi k) : Pair X w W' g M vi A0 c0 A1 c1 img l := by
  have hk : ∀ k, k < W.heap.size → ¬ X k → W'.heap[k]? = W.heap[k]? := fun k h1 h2 => hb.block k h1 h2
  refine ⟨⟨?_, ?_, ?_, h.st.rise, h.st.room, h.st.few, h.st.small, fun k hk => Nat.lt_of_lt_of_le (h.st.low k hk) hb.size⟩, h.rf.step (fun k ho hlt => hk k hlt ho.2), ⟨hb.os.trans h.bel.os, hb.tape.trans h.bel.tape, hb.output.trans h.bel.output, Nat.le_trans h.bel.size hb.size, fun k hlt => (hk k (Nat.lt_of_lt_of_le hlt h.bel.size) (fun x => by have := (hX k x).1; omega)).trans (h.bel.block k hlt)⟩, h.lg, h.lM, h.lv⟩
  · exact (hk g (blk_lt h.st.blk) (fun x => (hX g x).2.1 rfl)).trans h.st.blk
  · exact own_step h.st.own (fun k e => hk k (own_low h.st.own k e).2 (fun x => (hX k x).2.2.2 e))
  · exact h.st.map.step (hk M h.st.map.lt (fun x => (hX M x).2.2.1 rfl)) (fun k ho hlt => hk k hlt ho.2)
theorem Pair.below {X : Nat → Prop} {w W W' : World} {g M : Nat} {vi : Value} {A0 : Option Addr} {c0 : Nat} {A1 : Option Addr} {c1 : Nat} {img : List Int} {l : List S99} (h : Pair X w W g M vi A0 c0 A1 c1 img l) (hb : Below W.heap.size W W') : Pair X w W' g M vi A0 c0 A1 c1 img l :=
  ⟨h.st.step hb, h.rf.below hb, h.bel.trans (hb.mono h.bel.size), h.lg, h.lM, h.lv⟩
theorem Pair.next {X : Nat → Prop} {w W W' : World} {g M : Nat} {vi : Value} {A0 : Option Addr} {c0 : Nat} {A1 : Option Addr} {c1 : Nat} {img : List Int} {l : List S99} {o : Out} {e : Ending} (h : Pair X w W g M vi A0 c0 A1 c1 img l) (hd : DoOut X W g M vi o e W') :
    ∃ vi' B0 d0 B1 d1 wl, e = .returned (.tuple #[.agg #[.slice B0 o.img.length d0, .slice B1 o.l.length d1], wl, .bool true]) ∧ Pair X w W' g M vi' B0 d0 B1 d1 o.img o.l ∧ WrAt W' W.heap.size wl o.ms ∧ Chg (fun k => ¬ Rest g M vi k) W W' := by
  obtain ⟨vi', B0, d0, B1, d1, wl, he, h1, h2, h3, h4, h5⟩ := hd
  refine ⟨vi', B0, d0, B1, d1, wl, he, ⟨h1, h2, ?_, h.lg, h.lM, fun k hk => ?_⟩, h3, h5⟩
  · have a := h.lg
    have b := h.lM
    exact h.bel.trans (h5.below h.bel.size (fun k hk x => x ⟨by omega, by omega, fun e => by have := h.lv k e; omega⟩))
  · rcases h4 with e | ⟨j, e, hj⟩
    · exact h.lv k (e ▸ hk)
    · rw [e] at hk; injection hk with hk; have := h.bel.size; omega

theorem refSt_nil (w : World) (ok : Nat → Prop) : RefSt w ok none 0 none 0 [] [] :=
  ⟨fun _ _ => Kd.C_nil _ _, Nat.le_refl _, fun _ _ => Kd.C_nil _ _, Nat.le_refl _⟩

/-- An element of a script. -/
structure Item (w : World) (ad : Addr) (op : Int) (s : ByteArray) (A : Option Addr) (n c : Nat) (bs : List Int) : Prop where
  c0 : w.cell? ad = some (.int .i64 op)
  c1 : w.cell? ⟨ad.block, ad.off + 1, none⟩ = some (.string s)
  c2 : w.cell? ⟨ad.block, ad.off + 2, none⟩ = some (.slice A n c)
  rd : U8C w A bs
  hn : n = bs.length
  hc : n ≤ c
  hc0 : A = none → c = 0
  hs : s.size ≤ maxLen
  hl : n ≤ 140737488355000
  hbb : ∀ x ∈ bs, 0 ≤ x ∧ x ≤ 255
/-- A script. -/
def ScrAt (w : World) (S : Option Addr) (m : Nat) : Prop := ∀ k, k < m → ∃ ad, S = some ad ∧ ∃ op s A n c bs, Item w (ad.add (k * 3)) op s A n c bs

theorem old_cell {w w1 : World} (h : Below w.heap.size w w1) {a : Addr} {v : Value} (hc : w.cell? a = some v) : w1.cell? a = some v := pw_cell_below h hc
theorem Item.below {w W : World} {ad : Addr} {op : Int} {s : ByteArray} {A : Option Addr} {n c : Nat} {bs : List Int} (h : Item w ad op s A n c bs) (hb : Below w.heap.size w W) : Item W ad op s A n c bs :=
  ⟨old_cell hb h.c0, old_cell hb h.c1, old_cell hb h.c2, Kd.C_below h.rd hb, h.hn, h.hc, h.hc0, h.hs, h.hl, h.hbb⟩
/-- What came in is read where none of the store's blocks lies. -/
theorem old_F {w W : World} {g M : Nat} {vi : Value} {A : Option Addr} {bs : List Int} (h : U8C w A bs) (hb : Below w.heap.size w W) (lg : w.heap.size ≤ g) (lM : w.heap.size ≤ M) (lv : ∀ k, vi.ownBlock = some k → w.heap.size ≤ k) : Kd.F (Kd.int .u8) W (Rest g M vi) A bs.length bs :=
  fun W' hW => C8_blk (Kd.C_below h hb) (fun ad e hp => by
    subst e
    have hl := C_lt' h hp
    exact hW ad.block ⟨by omega, by omega, fun e => by have := lv _ e; omega⟩ (by have := hb.size; omega))

/-- Clone, of any bytes. -/
theorem clone_any (A : Option Addr) (c n : Nat) (xs : List Int) (w : World) (hx : U8C w A xs) (hn : n = xs.length) (hc : A = none → c = 0) (hl : n ≤ 140737488355000) : Calls Try.prog 11 #[.slice A n c] w (CloneGives n xs w) := by
  cases A with
  | none =>
    obtain rfl := hc rfl
    have h0 : xs = [] := by
      rcases Nat.eq_zero_or_pos xs.length with h | h
      · exact List.eq_nil_of_length_eq_zero h
      · obtain ⟨ad, e, _⟩ := C_int_cells hx h
        cases e
    subst h0
    subst hn
    exact (clone_nil w).mono fun e w' ⟨h1, h2⟩ => by subst h2; exact ⟨_, h1, World.ownsRow_nil _ _ _ _, Below.refl _ _⟩
  | some ad =>
    exact (clone_some ad c n xs w hx hn (by omega)).mono fun e w' ⟨g, cap, h1, h2, h3⟩ => ⟨_, h1, h2, h3⟩

/-- slices.Equal, of bytes. -/
theorem equal_any (A1 : Option Addr) (n1 c1 : Nat) (xs : List Int) (A2 : Option Addr) (n2 c2 : Nat) (ys : List Int) (w : World) (h1 : U8C w A1 xs) (e1 : n1 = xs.length) (hc1 : n1 ≤ c1) (h2 : U8C w A2 ys) (e2 : n2 = ys.length) (hc2 : n2 ≤ c2) (hm : n1 ≤ 140737488355328) :
    Calls Try.prog 15 #[.slice A1 n1 c1, .slice A2 n2 c2] w fun e w' => e = .returned (.bool (decide (xs = ys))) ∧ Drawn0 w w' := by
  subst e1
  subst e2
  obtain ⟨K, hK⟩ := bytesEq xs ys hm
  exact slices_Equal_byte_byte.calls K A1 c1 xs A2 c2 ys _ w h1 hc1 h2 hc2 hK
theorem equal_same (A1 : Option Addr) (n1 c1 : Nat) (xs : List Int) (A2 : Option Addr) (n2 c2 : Nat) (w : World) (h1 : U8C w A1 xs) (e1 : n1 = xs.length) (hc1 : n1 ≤ c1) (h2 : U8C w A2 xs) (e2 : n2 = xs.length) (hc2 : n2 ≤ c2) (hm : n1 ≤ 140737488355328) :
    Calls Try.prog 15 #[.slice A1 n1 c1, .slice A2 n2 c2] w fun e w' => e = .returned (.bool true) ∧ Drawn0 w w' := by
  have h := equal_any A1 n1 c1 xs A2 n2 c2 xs w h1 e1 hc1 h2 e2 hc2 hm
  rwa [show decide (xs = xs) = true by simp] at h

/-- What a call that turns a store comes to, of whichever kind. -/
def doS (op : Int) (img : List Int) (l : List S99) (s : ByteArray) (b : List Int) : Out := if op = 0 then putS img l s b else dropS img l s
theorem do_any (X : Nat → Prop) (g M : Nat) (vi : Value) (img : List Int) (l : List S99) (s : ByteArray) (A : Option Addr) (n c : Nat) (bs : List Int) (A0 : Option Addr) (c0 : Nat) (A1 : Option Addr) (c1 : Nat) (w0 w : World) (h : Pair X w0 w g M vi A0 c0 A1 c1 img l) (hb : U8C w0 A bs)
    (hn : n = bs.length) (hc : n ≤ c) (hc0 : A = none → c = 0) (hl : n ≤ 140737488355000) (hm : s.size ≤ maxLen) (op : Int) (hop : op = 0 ∨ op = 1) :
    Calls Try.prog 13 #[.pointer (some ⟨g, 0, none⟩), .agg #[.slice A0 img.length c0, .slice A1 l.length c1], .agg #[.int .i64 op, .string s, .slice A n c]] w fun e w' => DoOut X w g M vi (doS op img l s bs) e w' := by
  have hF := old_F (g := g) (M := M) (vi := vi) hb h.bel h.lg h.lM h.lv
  rcases hop with rfl | rfl
  · exact do_put X g M vi img l s A n c bs A0 c0 A1 c1 w h.st h.rf hF (Lib.hid hn) hc hc0 hl hm _ _ (Lib.hid rfl) (Lib.hid rfl)
  · exact do_drop X g M vi img l s A n c A0 c0 A1 c1 w h.st h.rf hm _ _ (Lib.hid rfl) (Lib.hid rfl)
theorem op_two (op : Int) : ∃ v, wrap64 ((IntKind.u64.wrap op).tmod 2) = v ∧ (v = 0 ∨ v = 1) := by
  have h0 : 0 ≤ IntKind.u64.wrap op := by unfold IntKind.wrap; simp [IntKind.signed, IntKind.bits]; omega
  have h1 := Int.tmod_eq_emod_of_nonneg (b := 2) h0
  rcases Int.emod_two_eq (IntKind.u64.wrap op) with h | h
  · exact ⟨0, by rw [h1, h]; unfold wrap64; omega, .inl rfl⟩
  · exact ⟨1, by rw [h1, h]; unfold wrap64; omega, .inr rfl⟩

/-- The plain law: what stands under a name, when others are turned. -/
theorem putS_look {img : List Int} {l : List S99} (h : Rising l) (s : ByteArray) (b : List Int) (n : ByteArray) (hne : s ≠ n) : look (putS img l s b).l n = look l n := by
  unfold putS
  split
  · rfl
  · split
    · rfl
    · split
      · rfl
      · unfold laidS
        split
        · rfl
        · simp only [look_ins h]
          rw [if_neg (fun e => hne e.symm)]
theorem dropS_look {img : List Int} {l : List S99} (h : Rising l) (s n : ByteArray) (hne : s ≠ n) : look (dropS img l s).l n = look l n := by
  unfold dropS
  split
  · rfl
  · split
    · rfl
    · unfold laidS
      split
      · rfl
      · simp only [look_rem h]
        rw [if_neg (fun e => hne e.symm)]
theorem doS_look {op : Int} {img : List Int} {l : List S99} (h : Rising l) (s : ByteArray) (b : List Int) (n : ByteArray) (hne : s ≠ n) : look (doS op img l s b).l n = look l n := by
  unfold doS
  split
  · exact putS_look h s b n hne
  · exact dropS_look h s n hne
/-- .. and what was put. -/
theorem putS_self {img : List Int} {l : List S99} (h : Rising l) (s : ByteArray) (b : List Int) : ((putS img l s b).er = 0 → look (putS img l s b).l s = some b ∧ isNameB s = true) ∧ ((putS img l s b).er ≠ 0 → (putS img l s b).l = l) := by
  unfold putS
  by_cases hs : isNameB s = false
  · simp [hs]
  · have hs' : isNameB s = true := by simpa using hs
    rw [if_neg hs]
    by_cases h4 : 4096 < b.length
    · simp [h4]
    · rw [if_neg h4]
      by_cases h16 : (plc l s).2 = false ∧ l.length = 16
      · simp [h16]
      · rw [if_neg h16]
        unfold laidS
        split
        · simp
        · simp [look_ins h, hs']
theorem getE_none {l : List S99} {s : ByteArray} (h : look l s = none) : getE l s ≠ 0 := by
  have h2 := look_some l s
  rw [h] at h2
  unfold getE
  split
  · omega
  · have h3 : (plc l s).2 = false := h2.symm
    rw [if_pos h3]; omega

end Go.Proofs.Ytcjniogdjbplbaa

/-! Lays -/
namespace Go.Proofs
open Go.Shelf
def Try.keys48_ren : Go.Shelf.Ren := ⟨fun | 7 => 48 | 10 => 69 | n => n, fun | 23 => 75 | 26 => 9 | 3 => 23 | 28 => 94 | 0 => 0 | 27 => 93 | 33 => 79 | 4 => 4 | n => n, fun | n => n⟩
theorem Try.keys48 : Go.Proofs.SlLaysZ.n7 Try.prog Try.keys48_ren := {
  mixed := by kernel_rfl
  f7 := ⟨Try.f48.name, by decide, Try.func48.trans (congrArg some (by kernel_rfl))⟩
  f10 := ⟨Try.f69.name, by decide, Try.func69.trans (congrArg some (by kernel_rfl))⟩
  t0 := Try.underlying0
  a0 := Try.isAgg0
  z0 := Try.sizeOf0
  v0 := Try.zeroValue0
  t4 := Try.underlying4
  a4 := Try.isAgg4
  z4 := Try.sizeOf4
  v4 := Try.zeroValue4
  t23 := Try.underlying75
  a23 := Try.isAgg75
  z23 := Try.sizeOf75
  v23 := Try.zeroValue75
  t26 := Try.underlying9
  a26 := Try.isAgg9
  z26 := Try.sizeOf9
  v26 := Try.zeroValue9
  t27 := Try.underlying93
  a27 := Try.isAgg93
  z27 := Try.sizeOf93
  v27 := Try.zeroValue93
  t28 := Try.underlying94
  a28 := Try.isAgg94
  z28 := Try.sizeOf94
  v28 := Try.zeroValue94
  t33 := Try.underlying79
  a33 := Try.isAgg79
  z33 := Try.sizeOf79
  v33 := Try.zeroValue79 }
def Try.sorted47_ren : Go.Shelf.Ren := ⟨fun | 6 => 47 | 8 => 67 | 9 => 68 | 11 => 75 | 13 => 77 | 12 => 76 | 23 => 89 | 24 => 90 | 14 => 80 | 15 => 81 | 16 => 82 | 17 => 83 | 18 => 84 | 19 => 85 | 20 => 86 | 21 => 87 | 22 => 88 | 25 => 91 | 26 => 92 | 27 => 93 | 28 => 94 | 29 => 95 | 30 => 96 | 31 => 97 | n => n, fun | 26 => 9 | 28 => 94 | 24 => 55 | 0 => 0 | 3 => 3 | 37 => 38 | 48 => 125 | 50 => 141 | 4 => 4 | 40 => 133 | 39 => 132 | 45 => 85 | 5 => 5 | 9 => 9 | 51 => 142 | 55 => 146 | 57 => 148 | 58 => 149 | 33 => 79 | n => n, fun | n => n⟩
theorem Try.sorted47 : Go.Proofs.SlLaysZ.n6 Try.prog Try.sorted47_ren := {
  mixed := by kernel_rfl
  f6 := ⟨Try.f47.name, by decide, Try.func47.trans (congrArg some (by kernel_rfl))⟩
  f8 := ⟨Try.f67.name, by decide, Try.func67.trans (congrArg some (by kernel_rfl))⟩
  f11 := ⟨Try.f75.name, by decide, Try.func75.trans (congrArg some (by kernel_rfl))⟩
  t0 := Try.underlying0
  a0 := Try.isAgg0
  z0 := Try.sizeOf0
  v0 := Try.zeroValue0
  t24 := Try.underlying55
  a24 := Try.isAgg55
  z24 := Try.sizeOf55
  v24 := Try.zeroValue55
  t26 := Try.underlying9
  a26 := Try.isAgg9
  z26 := Try.sizeOf9
  v26 := Try.zeroValue9
  t28 := Try.underlying94
  a28 := Try.isAgg94
  z28 := Try.sizeOf94
  v28 := Try.zeroValue94
  i26 := by kernel_rfl }
def Try.sort68_ren : Go.Shelf.Ren := ⟨fun | 6 => 68 | 8 => 77 | 9 => 76 | 19 => 89 | 20 => 90 | 21 => 80 | 22 => 81 | 23 => 82 | 24 => 83 | 25 => 84 | 26 => 85 | 27 => 86 | 28 => 87 | 29 => 88 | 36 => 91 | 31 => 92 | 32 => 93 | 37 => 94 | 38 => 95 | 39 => 96 | 41 => 97 | n => n, fun | 27 => 55 | 29 => 9 | 3 => 3 | 32 => 38 | 26 => 55 | 0 => 0 | 44 => 125 | 46 => 141 | 4 => 4 | 36 => 133 | 35 => 132 | 41 => 85 | 5 => 5 | 9 => 9 | 53 => 142 | 57 => 146 | 63 => 148 | 64 => 149 | n => n, fun | n => n⟩
theorem Try.sort68 : Go.Proofs.SlLaysM.n6 Try.prog Try.sort68_ren := {
  mixed := by kernel_rfl
  f6 := ⟨Try.f68.name, by decide, Try.func68.trans (congrArg some (by kernel_rfl))⟩
  f8 := Try.func77.trans (congrArg some (by kernel_rfl))
  f9 := ⟨Try.f76.name, by decide, Try.func76.trans (congrArg some (by kernel_rfl))⟩
  f19 := Try.func89.trans (congrArg some (by kernel_rfl))
  f20 := Try.func90.trans (congrArg some (by kernel_rfl))
  f21 := ⟨Try.f80.name, by decide, Try.func80.trans (congrArg some (by kernel_rfl))⟩
  f22 := ⟨Try.f81.name, by decide, Try.func81.trans (congrArg some (by kernel_rfl))⟩
  f23 := ⟨Try.f82.name, by decide, Try.func82.trans (congrArg some (by kernel_rfl))⟩
  f24 := ⟨Try.f83.name, by decide, Try.func83.trans (congrArg some (by kernel_rfl))⟩
  f25 := ⟨Try.f84.name, by decide, Try.func84.trans (congrArg some (by kernel_rfl))⟩
  f26 := ⟨Try.f85.name, by decide, Try.func85.trans (congrArg some (by kernel_rfl))⟩
  f27 := ⟨Try.f86.name, by decide, Try.func86.trans (congrArg some (by kernel_rfl))⟩
  f28 := ⟨Try.f87.name, by decide, Try.func87.trans (congrArg some (by kernel_rfl))⟩
  f29 := ⟨Try.f88.name, by decide, Try.func88.trans (congrArg some (by kernel_rfl))⟩
  f31 := Try.func92.trans (congrArg some (by kernel_rfl))
  f32 := Try.func93.trans (congrArg some (by kernel_rfl))
  f36 := ⟨Try.f91.name, by decide, Try.func91.trans (congrArg some (by kernel_rfl))⟩
  f37 := ⟨Try.f94.name, by decide, Try.func94.trans (congrArg some (by kernel_rfl))⟩
  f38 := ⟨Try.f95.name, by decide, Try.func95.trans (congrArg some (by kernel_rfl))⟩
  f39 := ⟨Try.f96.name, by decide, Try.func96.trans (congrArg some (by kernel_rfl))⟩
  f41 := ⟨Try.f97.name, by decide, Try.func97.trans (congrArg some (by kernel_rfl))⟩
  t0 := Try.underlying0
  a0 := Try.isAgg0
  z0 := Try.sizeOf0
  v0 := Try.zeroValue0
  t3 := Try.underlying3
  a3 := Try.isAgg3
  z3 := Try.sizeOf3
  v3 := Try.zeroValue3
  t4 := Try.underlying4
  a4 := Try.isAgg4
  z4 := Try.sizeOf4
  v4 := Try.zeroValue4
  t5 := Try.underlying5
  a5 := Try.isAgg5
  z5 := Try.sizeOf5
  v5 := Try.zeroValue5
  t9 := Try.underlying9
  a9 := Try.isAgg9
  z9 := Try.sizeOf9
  v9 := Try.zeroValue9
  t26 := Try.underlying55
  a26 := Try.isAgg55
  z26 := Try.sizeOf55
  v26 := Try.zeroValue55
  t27 := Try.underlying55
  a27 := Try.isAgg55
  z27 := Try.sizeOf55
  v27 := Try.zeroValue55
  t29 := Try.underlying9
  a29 := Try.isAgg9
  z29 := Try.sizeOf9
  v29 := Try.zeroValue9
  t32 := Try.underlying38
  a32 := Try.isAgg38
  z32 := Try.sizeOf38
  v32 := Try.zeroValue38
  t35 := Try.underlying132
  a35 := Try.isAgg132
  z35 := Try.sizeOf132
  v35 := Try.zeroValue132
  t36 := Try.underlying133
  a36 := Try.isAgg133
  z36 := Try.sizeOf133
  v36 := Try.zeroValue133
  t41 := Try.underlying85
  a41 := Try.isAgg85
  z41 := Try.sizeOf85
  v41 := Try.zeroValue85
  t44 := Try.underlying125
  a44 := Try.isAgg125
  z44 := Try.sizeOf125
  v44 := Try.zeroValue125
  t46 := Try.underlying141
  a46 := Try.isAgg141
  z46 := Try.sizeOf141
  v46 := Try.zeroValue141
  t53 := Try.underlying142
  a53 := Try.isAgg142
  z53 := Try.sizeOf142
  v53 := Try.zeroValue142
  t57 := Try.underlying146
  a57 := Try.isAgg146
  z57 := Try.sizeOf146
  v57 := Try.zeroValue146
  t63 := Try.underlying148
  a63 := Try.isAgg148
  z63 := Try.sizeOf148
  v63 := Try.zeroValue148
  t64 := Try.underlying149
  a64 := Try.isAgg149
  z64 := Try.sizeOf149
  v64 := Try.zeroValue149 }
end Go.Proofs

/-! Keys -/
namespace Go.Proofs
open Go.RowKit Go.Maps Go.Sort Go.Shelf


/-- slices.Sort's two contracts at this dump, at the fence that asks nothing. -/
theorem Try.sorts47 (m : Nat) : AnyZ.SortsIn Try.prog Try.sorted47_ren Fence.wide m :=
  ⟨fun blk off cap ss W hH hblk hsz => callsIn_wide.2 (AnyM.slices_Sort_string Try.sort68 blk off cap ss W hH hblk hsz),
   fun p cap W => callsIn_wide.2 (AnyM.slices_Sort_string_none Try.sort68 p cap W)⟩

/-- **maps.Keys[map[string][]byte,string,[]byte], at whatever map, the nil one too:** a function value over ONE NEW BLOCK, which holds the map. -/
theorem Try.maps_Keys_48 (mb : Option Nat) (W : World) : CallsIn Fence.wide 5 Try.prog 48 #[.map mb] W fun e w' => e = .returned (.func (.func 69) #[] #[.pointer (some ⟨W.heap.size, 0, none⟩)]) ∧ w' = W.alloc (.cells #[.map mb] 75) :=
  AnyZ.keys_in Try.keys48 Fence.wide 5 trivial rfl mb W

set_option maxHeartbeats 1000000 in
/-- **slices.Sorted[string] AT WHAT maps.Keys[map[string][]byte,string,[]byte] HANDED BACK FOR A MAP THAT IS NOT nil** ('w': the world AHEAD of maps.Keys' call): A NEW SLICE THAT HOLDS THE MAP's KEYS, SORTED; nil just where it has none; nothing that lay before has turned. -/
theorem Try.slices_Sorted_keys_47_48 {H : Type} (b nn : Nat) (D0 : DataW H) (R : Value → Option (DataW H × List MemPlace)) (w : World) (hown : w.ownsMap Try.prog 9 R b nn D0) (hmax : Maps.size D0 ≤ maxLen) (hbytes : Maps.size D0 * 16 ≤ 140737488355328) :
    CallsIn Fence.wide 5 Try.prog 47 #[.func (.func 69) #[] #[.pointer (some ⟨w.heap.size, 0, none⟩)]] (w.alloc (.cells #[.map (some b)] 75)) fun e w' => ∃ (v : Value) (ss : List (List UInt8)), e = .returned v ∧ ss.Perm (strKeys D0) ∧
      w'.ownsRow (w.alloc (.cells #[.map (some b)] 75)).heap.size 9 1 v ss.length ((ss.mergeSort (fun x y => decide (x ≤ y))).map encStr) ∧ (v = .slice none 0 0 ↔ ss = []) ∧ Below (w.alloc (.cells #[.map (some b)] 75)).heap.size (w.alloc (.cells #[.map (some b)] 75)) w' := by
  have hbl := hown.lt
  have hseq : SeqGives Fence.wide 2 Try.prog 69 #[.pointer (some ⟨w.heap.size, 0, none⟩)] encStr (fun ss => ss.Perm (strKeys D0)) (Maps.size D0) (w.alloc (.cells #[.map (some b)] 75)) :=
    AnyZ.keys_gives (ρ := Try.keys48_ren) { Try.keys48 with } Fence.wide _ trivial rfl (by omega) w.heap.size b nn D0 _ (by simp) (by simp) (by
      obtain ⟨es, clock, hb, Ft, hs, hD⟩ := hown
      exact ⟨es, clock, (Below.heap_alloc _ _ b hbl).trans hb, Ft, hs, hD⟩)
  exact AnyZ.sorted_in Try.sorted47 Fence.wide 5 trivial trivial trivial trivial rfl (by omega) (Try.sorts47 _) (enters_of Try.func68 (by kernel_rfl) rfl) 69 #[.pointer (some ⟨w.heap.size, 0, none⟩)] trivial (enters_of Try.func69 (by kernel_rfl) rfl) _ _ hmax hbytes _ hseq

set_option maxHeartbeats 1000000 in
/-- **.. AND FOR THE nil MAP: nil.** -/
theorem Try.slices_Sorted_keys_nil_47_48 (w : World) :
    CallsIn Fence.wide 5 Try.prog 47 #[.func (.func 69) #[] #[.pointer (some ⟨w.heap.size, 0, none⟩)]] (w.alloc (.cells #[.map none] 75)) fun e w' => ∃ (v : Value) (ss : List (List UInt8)), e = .returned v ∧ ss = [] ∧
      w'.ownsRow (w.alloc (.cells #[.map none] 75)).heap.size 9 1 v ss.length ((ss.mergeSort (fun x y => decide (x ≤ y))).map encStr) ∧ (v = .slice none 0 0 ↔ ss = []) ∧ Below (w.alloc (.cells #[.map none] 75)).heap.size (w.alloc (.cells #[.map none] 75)) w' := by
  have hseq : SeqGives Fence.wide 2 Try.prog 69 #[.pointer (some ⟨w.heap.size, 0, none⟩)] encStr (fun ss : List (List UInt8) => ss = []) 0 (w.alloc (.cells #[.map none] 75)) :=
    AnyZ.keys_gives_nil (ρ := Try.keys48_ren) { Try.keys48 with } Fence.wide _ trivial rfl w.heap.size _ (by simp) (by simp)
  exact AnyZ.sorted_in Try.sorted47 Fence.wide 5 trivial trivial trivial trivial rfl (by omega) (Try.sorts47 _) (enters_of Try.func68 (by kernel_rfl) rfl) 69 #[.pointer (some ⟨w.heap.size, 0, none⟩)] trivial (enters_of Try.func69 (by kernel_rfl) rfl) _ 0 (Nat.zero_le _) (by omega) _ hseq



end Go.Proofs

/-! Sn1 -/
namespace Go.Proofs.Ytcjniogdjbplbaa
open Mem Go.RowKit Go.Proofs.YtcjniogdjbplbaaW.PrintWords Go.Proofs.YtcjniogdjbplbaaW.PrintLast Go.Proofs.YtcjniogdjbplbaaW.PrintMore PStorePlays Go.Maps
variable {X : Nat → Prop}

theorem look_mem {l : List S99} (h : Rising l) (s : ByteArray) : (look l s).isSome = true ↔ ∃ k ∈ l, k.f0 = s := by
  induction l with
  | nil => simp [look, plc]
  | cons k l ih =>
    obtain ⟨h1, h2⟩ := List.pairwise_cons.1 h
    rw [look_cons]
    by_cases hk : nm k.f0 < nm s
    · rw [if_pos hk, ih h2]
      constructor
      · rintro ⟨x, hx, e⟩
        exact ⟨x, by simp [hx], e⟩
      · rintro ⟨x, hx, e⟩
        rcases List.mem_cons.1 hx with rfl | hx
        · subst e; exact absurd hk (lt_irr _)
        · exact ⟨x, hx, e⟩
    · rw [if_neg hk]
      by_cases hs : k.f0 = s
      · rw [if_pos hs]
        simp [hs]
      · rw [if_neg hs]
        constructor
        · intro e; simp at e
        · rintro ⟨x, hx, e⟩
          rcases List.mem_cons.1 hx with rfl | hx
          · exact absurd e hs
          · subst e
            exact absurd (h1 x hx) hk

theorem names_sorted {l : List S99} (h : Rising l) : (l.map (fun k => nm k.f0)).mergeSort (fun x y => decide (x ≤ y)) = l.map (fun k => nm k.f0) := by
  refine List.mergeSort_of_pairwise ?_
  refine List.pairwise_map.2 (h.imp ?_)
  intro a b hab
  simp only [decide_eq_true_eq]
  exact List.le_of_lt hab
theorem names_nodup {l : List S99} (h : Rising l) : (l.map (fun k => nm k.f0)).Nodup := by
  refine List.pairwise_map.2 (h.imp ?_)
  intro a b hab e
  rw [e] at hab
  exact lt_irr _ hab
theorem names_perm {w : World} {M : Nat} {D : DataW Value} {n : Nat} {ok : Nat → Prop} {l : List S99} (hr : Rising l) (h : w.ownsMap Try.prog 9 RV M n D) (ht : ∀ s, Told w ok D l s) : (l.map (fun k => nm k.f0)).Perm (strKeys D) := by
  refine Collected.perm (left := fun _ => false) ⟨names_nodup hr, fun x => ?_⟩ h (string_keyed Try.underlying9) Try.underlying9 (fun _ => rfl)
  have h1 := (ht ⟨x.toArray⟩).1
  have e : skey (⟨x.toArray⟩ : ByteArray) = .string x := by simp [skey]
  rw [e] at h1
  rw [h1, look_mem hr]
  simp only [and_true, List.mem_map]
  constructor
  · rintro ⟨k, hk, rfl⟩
    exact ⟨k, hk, by simp [nm]⟩
  · rintro ⟨k, hk, e⟩
    exact ⟨k, hk, by rw [e]⟩

theorem st_names (g M : Nat) (vi : Value) (img : List Int) (l : List S99) (w : World) (h : StAt X w g M vi img l) :
    Calls Try.prog 19 #[.pointer (some ⟨g, 0, none⟩)] w fun e w' => (∃ v, e = .returned v ∧ w'.ownsRow w.heap.size 9 1 v l.length (l.map (fun k => Value.string k.f0))) ∧ Below w.heap.size w w' := by
  obtain ⟨D, hown, hsz, htold⟩ := h.map
  have hp := names_perm h.rise hown htold
  have c1 : w.cell? ⟨g, 1, none⟩ = some (.map (some M)) := (blk_cell h.blk 1).trans rfl
  have HB := Lib.hid h.blk
  have HP := Lib.hid hp
  have HS := Lib.hid (names_sorted h.rise)
  have H48 := Lib.hid (callsIn_wide.1 (Try.maps_Keys_48 (some M) w))
  have H47 := Lib.hid (callsIn_wide.1 (Try.slices_Sorted_keys_47_48 M _ D RV w hown (by have := h.few; unfold maxLen; omega) (by have := h.few; omega)))
  clear hp h hown htold hsz
  go_enter Try.func19, Try.ntmps19
  go_wp2_with (first
    | (go_at_call 32; refine (st_ready g _ _ _ HB.out).mono ?_; rintro e w' ⟨rfl, rfl⟩)
    | (go_at_call 48; refine H48.out.mono ?_; rintro e w' ⟨rfl, rfl⟩)
    | (go_at_call 47; refine H47.out.mono ?_; rintro e w' ⟨v, ss, rfl, hS, hrow, hnil, hb⟩; have HSS := Lib.hid hS; have HR := Lib.hid hrow; have HBB := Lib.hid hb; clear hS hrow hnil hb))
  go_ret
  have e1 : ss.mergeSort (fun x y => decide (x ≤ y)) = l.map (fun k => nm k.f0) := by
    rw [← HS.out]
    exact mergeSort_of_perm (HSS.out.trans HP.out.symm)
  have e2 : ss.length = l.length := by
    have := HSS.out.length_eq.trans HP.out.symm.length_eq
    simpa using this
  have hr := HR.out
  rw [e1, e2, List.map_map] at hr
  refine ⟨⟨v, rfl, ?_⟩, start_below.trans (HBB.out.mono (by simp))⟩
  refine own_drop hr (fun k hk => ?_)
  have := (own_low hr k hk).1
  simp at this
  omega

theorem st_image (g M : Nat) (vi : Value) (img : List Int) (l : List S99) (n : Nat) (hn : Hid (n = img.length)) (w : World) (h : StAt X w g M vi img l) :
    Calls Try.prog 18 #[.pointer (some ⟨g, 0, none⟩)] w fun e w' => e = .returned (.slice (some ⟨w.heap.size, 0, none⟩) n n) ∧ w.alloc (.cells (u8row img) 5) = w' := by
  obtain ⟨A, c, ev, hc, _, _, hC⟩ := own_C8 h.own
  have c0 : w.cell? ⟨g, 0, none⟩ = some vi := (blk_cell h.blk 0).trans rfl
  rw [ev, ← hn.out] at c0
  have HB := Lib.hid h.blk
  have HC := Lib.hid hC
  have hr : n ≤ 1048576 := by rw [hn.out]; exact h.room
  clear h hC ev hc
  go_enter Try.func18, Try.ntmps18
  go_wp2_with (first
    | (go_at_call 32; refine (st_ready g _ _ _ HB.out).mono ?_; rintro e w' ⟨rfl, rfl⟩)
    | (go_at_call 38; refine (cloned_any A c n img w HC.out hn (by omega)).mono ?_; rintro e w' ⟨rfl, rfl⟩))
  go_ret
  exact ⟨rfl, rfl⟩

end Go.Proofs.Ytcjniogdjbplbaa

/-! Sn2 -/
namespace Go.Proofs.Ytcjniogdjbplbaa
open Mem Go.RowKit Go.Proofs.YtcjniogdjbplbaaW.PrintWords Go.Proofs.YtcjniogdjbplbaaW.PrintLast Go.Proofs.YtcjniogdjbplbaaW.PrintMore PStorePlays
variable {X : Nat → Prop}

theorem own_cell {w : World} {base n cap : Nat} {e : TypeId} {A : Option Addr} {xs : List Value} (h : w.ownsRow base e 1 (.slice A n cap) n xs) {k : Nat} {v : Value} (hk : xs[k]? = some v) : ∃ g, A = some ⟨g, 0, none⟩ ∧ w.cell? ⟨g, k, none⟩ = some v := by
  rcases h.2 with ⟨e, h0⟩ | ⟨g, cap', cur, e, hb, hg, hnc, _, hcs, ht⟩
  · have h2 := h.1
    rw [h0, Nat.zero_mul] at h2
    rw [List.eq_nil_of_length_eq_zero h2] at hk
    simp at hk
  · injection e with e1 e2 e3
    subst e1
    subst e3
    refine ⟨g, rfl, (blk_cell hg k).trans ?_⟩
    rw [← ht, List.getElem?_take] at hk
    split at hk
    · simpa using hk
    · cases hk

theorem look_at {l : List S99} (h : Rising l) (k : S99) (hk : k ∈ l) : look l k.f0 = some k.f1 := by
  induction l with
  | nil => cases hk
  | cons x l ih =>
    obtain ⟨h1, h2⟩ := List.pairwise_cons.1 h
    rw [look_cons]
    rcases List.mem_cons.1 hk with rfl | hk
    · rw [if_neg (lt_irr _), if_pos rfl]
    · rw [if_pos (h1 k hk)]; exact ih h2 hk

theorem drew_below {w W : World} (h : Below w.heap.size w W) : Below w.heap.size w W.drew := ⟨h.os, h.tape, h.output, h.size, h.block⟩
theorem cells2_alloc {W : World} {b : Nat} {u v : Value} {t : TypeId} {o : Obj} (h : W.heap[b]? = some (.cells #[u, v] t (0, 0))) : (W.drew.alloc o).cell? ⟨b, 0, none⟩ = some u ∧ (W.drew.alloc o).cell? ⟨b, 1, none⟩ = some v := by
  have h2 : (W.drew.alloc o).heap[b]? = some (.cells #[u, v] t (0, 0)) := (Below.heap_alloc W.drew o b (blk_lt h)).trans h
  exact ⟨(blk_cell h2 0).trans rfl, (blk_cell h2 1).trans rfl⟩
theorem cells2_alloc_drewN {W : World} {b m : Nat} {u v : Value} {t : TypeId} {o : Obj} (h : W.heap[b]? = some (.cells #[u, v] t (0, 0))) : ((W.drew.alloc o).drewN m).cell? ⟨b, 0, none⟩ = some u ∧ ((W.drew.alloc o).drewN m).cell? ⟨b, 1, none⟩ = some v := cells2_alloc h

set_option maxHeartbeats 4000000 in
set_option maxRecDepth 100000 in
theorem alike_any (g M : Nat) (vi : Value) (img : List Int) (l : List S99) (A0 : Option Addr) (c0 : Nat) (A1 : Option Addr) (c1 : Nat) (ok : Nat → Prop) (w : World) (h : StAt X w g M vi img l) (hS : RefSt w ok A0 c0 A1 c1 img l) (n0 n1 : Nat) (hn0 : Hid (n0 = img.length)) (hn1 : Hid (n1 = l.length)) :
    Calls Try.prog 21 #[.pointer (some ⟨g, 0, none⟩), .agg #[.slice A0 n0 c0, .slice A1 n1 c1]] w fun e w' => e = .returned (.bool true) ∧ Below w.heap.size w w' := by
  have HH := Lib.hid h
  have HS := Lib.hid hS
  have hr0 : n0 ≤ 1048576 := by rw [hn0.out]; exact h.room
  have hr1 : n1 ≤ 16 := by rw [hn1.out]; exact h.few
  clear h hS
  go_enter Try.func21, Try.ntmps21
  go_wp2_with fail
  generalize hb : w.heap.size = b at *
  have HB := Lib.hid hb
  clear hb
  refine at_world (fun W => W.heap[b]? = some (.cells #[.slice A0 n0 c0, .slice A1 n1 c1] 29 (0, 0)) ∧ Below b w W) ⟨by have := heap_alloc_new w (.cells #[.slice A0 n0 c0, .slice A1 n1 c1] 29); rwa [HB.out] at this, by have := start_below (w := w) (o := .cells #[.slice A0 n0 c0, .slice A1 n1 c1] 29); rwa [HB.out] at this⟩ ?_
  rintro W ⟨hbx, hbw⟩
  have hbw' : Below w.heap.size w W := HB.out.symm ▸ hbw
  refine (st_names g M vi img l W (HH.out.step hbw')).mono ?_
  rintro e w1 ⟨⟨v, rfl, ho⟩, hb1⟩
  obtain ⟨An, cn, ev, hcn, _⟩ := own_form ho
  rw [← hn1.out] at ev
  subst ev
  have hbx1 := (hb1.block b (blk_lt hbx)).trans hbx
  have y0 : w1.cell? ⟨b, 0, none⟩ = some (.slice A0 n0 c0) := (blk_cell hbx1 0).trans rfl
  have y1 : w1.cell? ⟨b, 1, none⟩ = some (.slice A1 n1 c1) := (blk_cell hbx1 1).trans rfl
  have HO := Lib.hid ho
  have HBX1 := Lib.hid hbx1
  have HB1 := Lib.hid (hbw'.trans (hb1.mono hbw'.size))
  clear ho hb1 hbx hbw hbw' hbx1
  go_wp2_with fail
  go_region_held3 (fun W' => W'.cell? ⟨b, 0, none⟩ = some (.slice A0 n0 c0) ∧ W'.cell? ⟨b, 1, none⟩ = some (.slice A1 n1 c1))
    (first | exact ⟨y0, y1⟩ | exact HK2.out | exact HK3.out)
    (first
      | (go_at_call 18; refine (st_image g M vi img l n0 hn0 w1.drew (HH.out.step (drew_below HB1.out))).mono ?_; rintro e w2 ⟨rfl, rfl⟩; have HK2 := Lib.hid (cells2_alloc (o := .cells (u8row img) 5) HBX1.out))
      | (go_at_call 15; refine (equal_same (some ⟨w1.heap.size, 0, none⟩) n0 n0 img A0 n0 c0 (w1.drew.alloc (.cells (u8row img) 5)) (u8row_C w1.drew img (by have := hn0.out; omega)) hn0.out (Nat.le_refl _) (Kd.F_now (HS.out.below ((drew_below HB1.out).trans (start_below.mono (drew_below HB1.out).size))).fi) hn0.out (by have := HS.out.ci; have := hn0.out; omega) (by omega)).mono ?_; rintro e w3 ⟨rfl, ⟨m3, rfl⟩⟩; have HK3 := Lib.hid (cells2_alloc_drewN (o := .cells (u8row img) 5) (m := m3) HBX1.out)))
  refine exit_world (fun W => W.heap[b]? = some (.cells #[.slice A0 n0 c0, .slice A1 n1 c1] 29 (0, 0)) ∧ Below w.heap.size w W ∧ W.ownsRow 0 9 1 (.slice An n1 cn) n1 (l.map (fun k => Value.string k.f0)))
    ⟨(Below.heap_alloc w1 _ b (blk_lt HBX1.out)).trans HBX1.out, HB1.out.trans ⟨rfl, rfl, rfl, by simp, fun k hk => Below.heap_alloc w1 _ k (Nat.lt_of_lt_of_le hk HB1.out.size)⟩, ?_⟩ ?_
  · have h0 := own_drop (base' := 0) HO.out (fun k hk => Nat.zero_le _)
    have h0 : w1.ownsRow 0 9 1 (.slice An n1 cn) n1 (l.map (fun k => Value.string k.f0)) := by rw [hn1.out] at h0 ⊢; exact h0
    exact own_step h0 (fun k hk => Below.heap_alloc w1 _ k (own_low h0 k hk).2)
  rintro W2 ⟨hbx2, hb2, ho2⟩
  have z1 : W2.cell? ⟨b, 1, none⟩ = some (.slice A1 n1 c1) := (blk_cell hbx2 1).trans rfl
  have HB2 := Lib.hid hb2
  have HO2 := Lib.hid ho2
  clear hbx2 hb2 ho2
  go_wp2_with fail
  go_loopw [31] (fun i wr => ∃ k : Nat, k ≤ n1 ∧ i = .int .i64 k ∧ Below w.heap.size w wr ∧ wr.ownsRow 0 9 1 (.slice An n1 cn) n1 (l.map (fun k => Value.string k.f0))) (fun i _ => n1 - (intOf i).toNat)
  case atStart => exact ⟨0, Nat.zero_le _, rfl, HB2.out, HO2.out⟩
  case round =>
    clear HB2 HO2 z1
    obtain ⟨k, hk, rfl, hbl, hon⟩ := hrel
    have HBL := Lib.hid hbl
    have HON := Lib.hid hon
    clear hbl hon
    by_cases hlt : k < n1
    · have hlt' : k < l.length := by rw [← hn1.out]; exact hlt
      obtain ⟨ad, Ak, ck, ea, e0, e1, hck, hCk⟩ := at_T99 (Kd.F_now (HS.out.below HBL.out).fl) k (by omega) (by omega)
      have er : rd_T99 l (k : Int) = l[k] := by simp [rd_T99, hlt']
      rw [er] at e0 e1 hck hCk
      rw [Int.toNat_natCast] at e0 e1
      subst ea
      have HNK := Lib.hid (HH.out.small _ (List.getElem_mem hlt')).2
      have HLK := Lib.hid (look_at HH.out.rise _ (List.getElem_mem hlt'))
      have HSM := Lib.hid (HH.out.small _ (List.getElem_mem hlt')).1
      have cn0 := own_cell HON.out (show (l.map (fun k => Value.string k.f0))[k]? = some (.string l[k].f0) by simp [hlt'])
      generalize hx : l[k] = x at *
      obtain ⟨nm, bs⟩ := x
      obtain ⟨nx, hnx⟩ : ∃ nx, bs.length = nx := ⟨_, rfl⟩
      simp only at e0 e1 hck hCk HNK HLK HSM cn0
      rw [hnx] at e1 hck
      have HNX := Lib.hid hnx
      have HCK := Lib.hid hCk
      clear hCk hnx hx er
      have hbn : (nm.toList == nm.toList) = true := by simp
      obtain ⟨gn, eAn, cn1⟩ := cn0
      subst eAn
      have hgl : gn < wr.heap.size := World.block_lt_of_cell? _ _ cn1
      have HCN := Lib.hid cn1
      go_wp2_with fail
      refine at_world (fun W => Below wr.heap.size wr W ∧ W.heap[wr.heap.size]? = some (.cells #[.string nm, .slice Ak nx ck] 99 (0, 0))) ⟨start_below, heap_alloc_new _ _⟩ ?_
      rintro W3 ⟨hb3, hbx3⟩
      have HG := Get_ok g M vi img l nm bs W3 (HH.out.step (HBL.out.trans (hb3.mono HBL.out.size))) HNK.out (by have := isNameB_size HNK.out; unfold maxLen; omega) HLK.out (by have := HSM.out; omega)
      rw [HNX.out] at HG
      refine HG.mono ?_
      rintro e W4 ⟨⟨gb, rfl, hgb, hrow⟩, hb4⟩
      have hbx4 := (hb4.block _ (blk_lt hbx3)).trans hbx3
      have x0 : W4.cell? ⟨wr.heap.size, 0, none⟩ = some (.string nm) := (blk_cell hbx4 0).trans rfl
      have x1 : W4.cell? ⟨wr.heap.size, 1, none⟩ = some (.slice Ak nx ck) := (blk_cell hbx4 1).trans rfl
      have x2 : W4.cell? ⟨gn, k, none⟩ = some (.string nm) := (World.cell?_of_block ((hb4.block gn (by have := hb3.size; omega)).trans (hb3.block gn hgl))).trans HCN.out
      have HB4 := Lib.hid (show Below wr.heap.size wr W4 from hb3.trans (hb4.mono hb3.size))
      have HEQ := Lib.hid (fun m : Nat => equal_same (some ⟨gb, 0, none⟩) nx nx bs Ak nx ck (W4.drewN m) (Kd.C_drewN (C_int_of_blk (t := 5) (fr := (0, 0)) hrow (fun j x hj => u8row_at hj) (by have := HSM.out; omega)) m) HNX.out.symm (Nat.le_refl _) (Kd.C_drewN (Kd.C_below HCK.out (by exact (show Below wr.heap.size wr W4 from hb3.trans (hb4.mono hb3.size)))) m) HNX.out.symm hck (by have := HSM.out; have := HNX.out; omega))
      clear hb3 hbx3 HG hb4 hrow hbx4 cn1 e0 e1 hgb
      have hbs := Lib.hid HBL.out.size
      generalize hbt : wr.heap.size = bt at *
      go_wp2_with fail
      go_quiet ((go_at_call 15; exact Calls.quiet_of ((HEQ.out _).mono fun e w3 ⟨k1, k2⟩ => ⟨k1, k2.out⟩)))
      go_wp2_with fail
      go_roundw
      case rel => exact ⟨k + 1, by omega, by go_num, HBL.out.trans ((pw_below_drewN HB4.out _).mono hbs.out), own_step HON.out (fun j hj => HB4.out.block j (by have := (own_low HON.out j hj).2; rw [hbt] at this; exact this))⟩
      case measure => simp [intOf]; omega
    · go_wp2_with fail
      go_ret
      exact ⟨rfl, HBL.out⟩

end Go.Proofs.Ytcjniogdjbplbaa

/-! Rd -/
namespace Go.Proofs.Ytcjniogdjbplbaa.Rd
open Go.ChangeShapes Go.WideShapes Go.ChangeAt Go.RowKit Go.Proofs.YtcjniogdjbplbaaW.PrintWords

section
variable {H : Type} {enc : TypeId × Value → H} {P : Program} {W : World} {base : Nat} {held : Bool}

/-- Each string, slice and map that is read takes at most what a row says. -/
def WOk (P : Program) (t : TypeId) (d : DataW H) : Prop := ∀ n ∈ d.weights P t, n ≤ reachBytes
theorem WOk.top {ts : List TypeId} {ds : List (DataW H)} {j : Nat} {t : TypeId} {d : DataW H} (hsz : (DataW.weightsEach P ts ds).all (· ≤ reachBytes) = true) (ht : ts[j]? = some t) (hd : ds[j]? = some d) : WOk P t d := fun n hn => by
  have := List.all_eq_true.1 hsz _ (DataW.weights_mem_each ht hd n hn)
  simpa using this
theorem mem_all {e : TypeId} : ∀ {l : List (DataW H)} {x : DataW H}, x ∈ l → ∀ n ∈ x.weights P e, n ∈ DataW.weightsAll P e l
  | y :: l, x, hx, n, hn => by
    rw [DataW.weightsAll, List.mem_append]
    rcases List.mem_cons.1 hx with rfl | hx
    · exact .inl hn
    · exact .inr (mem_all hx n hn)
theorem WOk.field {t : TypeId} {fs : Array Field} {parts : List (DataW H)} (hu : P.underlying t = some (.struct fs)) (h : WOk P t (.agg parts)) {i : Nat} {f : Field} {d : DataW H} (hf : fs[i]? = some f) (hd : parts[i]? = some d) : WOk P f.type d := fun n hn => by
  refine h n ?_
  simp only [DataW.weights, hu]
  refine DataW.weights_mem_each (j := i) (t := f.type) ?_ hd n hn
  simp [hf]
theorem WOk.slice {t e : TypeId} {el sp : List (DataW H)} (hu : P.underlying t = some (.slice e)) (h : WOk P t (.slice el sp)) : (el.length + sp.length) * P.bytesOf e ≤ reachBytes ∧ ∀ x ∈ el, WOk P e x := by
  refine ⟨h _ (by simp [DataW.weights, hu]), fun x hx n hn => h n ?_⟩
  simp only [DataW.weights, hu, List.mem_cons, List.mem_append]
  exact .inr (.inl (mem_all hx n hn))
theorem WOk.str {t : TypeId} {b : List UInt8} (h : WOk (H := H) P t (.lit (.string b))) : b.length ≤ reachBytes := h _ (by simp [DataW.weights])

/-- What the walk reads of a number. -/
theorem rd_int {t : TypeId} {fuel : Nat} {cs : List Value} {x : DataW H × List MemPlace} {k : IntKind} (hu : P.underlying t = some (.int k)) (h : DataW.trod enc P W base (fun _ => true) held fuel t cs = some x) : ∃ n : Int, cs = [.int k n] ∧ (Lit.int k n).wf = true := by
  obtain ⟨n, h1, _, h2⟩ := DataW.trod_int hu h
  exact ⟨n, h1, h2⟩
theorem rd_string {t : TypeId} {fuel : Nat} {cs : List Value} {x : DataW H × List MemPlace} (hu : P.underlying t = some .string) (h : DataW.trod enc P W base (fun _ => true) held fuel t cs = some x) (hw : WOk P t x.1) : ∃ s : ByteArray, cs = [.string s] ∧ s.size ≤ maxLen ∧ s.size ≤ 140737488351232 := by
  obtain ⟨s, h1, h2, h3⟩ := DataW.trod_string hu h
  subst h2
  have := hw.str
  exact ⟨s, h1, h3, by simpa [reachBytes] using this⟩
/-- .. of a field. -/
theorem rd_field {t ft : TypeId} {fs : Array Field} {fuel : Nat} {cs : List Value} {x : DataW H × List MemPlace} (hs : P.underlying t = some (.struct fs)) (h : DataW.trod enc P W base (fun _ => true) held fuel t cs = some x) (hw : WOk P t x.1)
    (i o k : Nat) (f : Field) (hf : fs[i]? = some f) (hft : f.type = ft) (ho : f.offset = o) (hc : P.cellsOf ft = k) : ∃ n y, DataW.trod enc P W base (fun _ => true) held n ft ((cs.drop o).take k) = some y ∧ WOk P ft y.1 := by
  obtain ⟨xs, n, _, e, _, hl, hx⟩ := DataW.trod_struct hs h
  have hi := (Array.getElem?_eq_some_iff.1 hf).1
  have h1 := hx i f hf
  rw [List.getElem?_eq_getElem (by omega), hft, hc, ho] at h1
  refine ⟨n, _, h1, ?_⟩
  subst e
  rw [← hft]
  exact hw.field hs hf (by rw [List.getElem?_map, List.getElem?_eq_getElem (by omega)]; rfl)
theorem rd_cells {t : TypeId} {fs : Array Field} {fuel : Nat} {cs : List Value} {x : DataW H × List MemPlace} (hs : P.underlying t = some (.struct fs)) (h : DataW.trod enc P W base (fun _ => true) held fuel t cs = some x) : cs.length = P.cellsOf t := by
  obtain ⟨xs, n, _, e, hl, _⟩ := DataW.trod_struct hs h
  exact hl
theorem one_at {cs : List Value} {o : Nat} {v : Value} (h : (cs.drop o).take 1 = [v]) : cs[o]? = some v := by
  have h1 : ((cs.drop o).take 1)[0]? = some v := by rw [h]; rfl
  rwa [List.getElem?_take, if_pos (by omega), List.getElem?_drop, Nat.add_zero] at h1
/-- .. of a slice. -/
theorem rd_slice {t e : TypeId} {fuel : Nat} {cs : List Value} {x : DataW H × List MemPlace} (hu : P.underlying t = some (.slice e)) (h : DataW.trod enc P W base (fun _ => true) held fuel t cs = some x) (hw : WOk P t x.1) :
    ∃ A n c, cs = [.slice A n c] ∧ n ≤ c ∧ (A = none → c = 0) ∧ c ≤ maxLen ∧ c * P.bytesOf e ≤ 140737488351232 ∧ ∀ i, i < n → ∃ ad, A = some ad ∧ ∃ cs' m y, W.cells? base (ad.add (i * P.cellsOf e)) (P.cellsOf e) = some cs' ∧ DataW.trod enc P W base (fun _ => true) held m e cs' = some y ∧ WOk P e y.1 := by
  rcases Go.Deep.open_slice hu h with ⟨h1, h2⟩ | ⟨a, len, cap, m, n, D, Pl, h1, _, hl, hm, hmm, h2, hi⟩
  · exact ⟨none, 0, 0, h1, Nat.le_refl _, fun _ => rfl, Nat.zero_le _, by omega, fun i hi => absurd hi (Nat.not_lt_zero _)⟩
  · simp only [if_true] at hmm
    subst hmm
    subst h2
    obtain ⟨hz, he⟩ := hw.slice hu
    simp only [List.length_map, List.length_range] at hz
    have hz2 : m * P.bytesOf e ≤ 140737488351232 := by
      rw [show len + (m - len) = m by omega] at hz
      exact hz
    refine ⟨some a, len, m, h1, hl, (fun e => by cases e), hm, hz2, fun i hlt => ⟨a, rfl, ?_⟩⟩
    obtain ⟨cs', hc, ht⟩ := hi i (by omega)
    exact ⟨cs', n, _, hc, ht, he _ (List.mem_map.2 ⟨i, List.mem_range.2 hlt, rfl⟩)⟩
theorem top_slice {t e : TypeId} {A : Option Addr} {n c : Nat} {d : DataW H} {ps : List MemPlace} (hu : P.underlying t = some (.slice e)) (h : DataW.Trod enc P W base (fun _ => true) held t (.slice A n c) d ps) (hw : WOk P t d) :
    n ≤ c ∧ (A = none → c = 0) ∧ c ≤ maxLen ∧ c * P.bytesOf e ≤ 140737488351232 ∧ ∀ i, i < n → ∃ ad, A = some ad ∧ ∃ cs' m y, W.cells? base (ad.add (i * P.cellsOf e)) (P.cellsOf e) = some cs' ∧ DataW.trod enc P W base (fun _ => true) held m e cs' = some y ∧ WOk P e y.1 := by
  obtain ⟨fuel, hf⟩ := h
  obtain ⟨A', n', c', hcs, r⟩ := rd_slice hu hf hw
  simp [Value.cells] at hcs
  obtain ⟨rfl, rfl, rfl⟩ := hcs
  exact r

/-- The elements of a slice, by how one is read. -/
theorem rd_C {α : Type} (d : Kd α) {e : TypeId} {A : Option Addr} {n c : Nat} (Q : α → Prop) (hsz : P.cellsOf e = d.sz) (hc : c ≤ maxLen) (hn : n ≤ c)
    (hel : ∀ m cs' y, DataW.trod enc P W base (fun _ => true) held m e cs' = some y → WOk P e y.1 → ∃ p, d.K W p cs' ∧ Q p)
    (h : ∀ i, i < n → ∃ ad, A = some ad ∧ ∃ cs' m y, W.cells? base (ad.add (i * P.cellsOf e)) (P.cellsOf e) = some cs' ∧ DataW.trod enc P W base (fun _ => true) held m e cs' = some y ∧ WOk P e y.1) :
    ∃ xs : List α, xs.length = n ∧ d.C W A n xs ∧ ∀ p ∈ xs, Q p := by
  have hex : ∀ i : Fin n, ∃ p, Q p ∧ ∃ ad, A = some ad ∧ ∃ cs', d.K W p cs' ∧ ∀ j u, cs'[j]? = some u → W.cell? (ad.add (i.val * d.sz + j)) = some u := fun i => by
    obtain ⟨ad, hA, cs', m, y, h1, h2, h3⟩ := h i.val i.isLt
    obtain ⟨p, hp, hq⟩ := hel m cs' y h2 h3
    obtain ⟨_, hlen, hat⟩ := World.cells?_some h1
    refine ⟨p, hq, ad, hA, cs', hp, fun j u hu => ?_⟩
    have hj := (List.getElem?_eq_some_iff.1 hu).1
    have := (hat j (by omega)).trans hu
    rwa [hsz, add_add] at this
  obtain ⟨f, hf⟩ := Classical.axiomOfChoice hex
  refine ⟨List.ofFn f, by simp, ⟨by simp, by unfold maxLen at hc; omega, fun hp => ?_⟩, fun p hp => ?_⟩
  · obtain ⟨_, ad, hA, _⟩ := hf ⟨0, hp⟩
    refine ⟨ad, hA, fun j p hj => ?_⟩
    obtain ⟨hlt, rfl⟩ := List.getElem?_eq_some_iff.1 hj
    have hlt' : j < n := by simpa using hlt
    obtain ⟨_, ad', hA', cs', hK, hat⟩ := hf ⟨j, hlt'⟩
    obtain rfl : ad = ad' := Option.some.inj (hA.symm.trans hA')
    refine ⟨cs', d.K_len hK, by simpa using hK, hat⟩
  · obtain ⟨i, rfl⟩ := List.mem_ofFn.1 hp
    exact (hf i).1
theorem wf_byte {l : List Int} (h : ∀ x ∈ l, (Lit.int .u8 x).wf = true) : ∀ x ∈ l, 0 ≤ x ∧ x ≤ 255 := fun x hx => by
  have := h x hx
  simp [Lit.wf, IntKind.min, IntKind.max] at this
  simpa [IntKind.signed, IntKind.bits] using this
/-- A slice of numbers. -/
theorem rd_ints {t e : TypeId} {k : IntKind} {fuel : Nat} {cs : List Value} {x : DataW H × List MemPlace} (hu : P.underlying t = some (.slice e)) (he : P.underlying e = some (.int k)) (hc1 : P.cellsOf e = 1) {B : Nat} (hB : P.bytesOf e = B) (h : DataW.trod enc P W base (fun _ => true) held fuel t cs = some x) (hw : WOk P t x.1) :
    ∃ A n c xs, cs = [.slice A n c] ∧ n = xs.length ∧ n ≤ c ∧ (A = none → c = 0) ∧ c * B ≤ 140737488351232 ∧ (Kd.int k).C W A xs.length xs ∧ ∀ z ∈ xs, (Lit.int k z).wf = true := by
  obtain ⟨A, n, c, hcs, h1, h2, h3, h4, h5⟩ := rd_slice hu h hw
  obtain ⟨xs, hl, hC, hQ⟩ := rd_C (Kd.int k) (fun z => (Lit.int k z).wf = true) hc1 h3 h1 (fun m cs' y hy _ => by
    obtain ⟨z, rfl, hz⟩ := rd_int he hy
    exact ⟨z, rfl, hz⟩) h5
  subst hl
  exact ⟨A, _, c, xs, hcs, rfl, h1, h2, by rw [← hB]; exact h4, hC, hQ⟩
theorem top_ints {t e : TypeId} {k : IntKind} {A : Option Addr} {n c : Nat} {d : DataW H} {ps : List MemPlace} (hu : P.underlying t = some (.slice e)) (he : P.underlying e = some (.int k)) (hc1 : P.cellsOf e = 1) {B : Nat} (hB : P.bytesOf e = B) (h : DataW.Trod enc P W base (fun _ => true) held t (.slice A n c) d ps) (hw : WOk P t d) :
    ∃ xs, n = xs.length ∧ n ≤ c ∧ (A = none → c = 0) ∧ c * B ≤ 140737488351232 ∧ (Kd.int k).C W A xs.length xs ∧ ∀ z ∈ xs, (Lit.int k z).wf = true := by
  obtain ⟨fuel, hf⟩ := h
  obtain ⟨A', n', c', xs, hcs, r⟩ := rd_ints hu he hc1 hB hf hw
  simp [Value.cells] at hcs
  obtain ⟨rfl, rfl, rfl⟩ := hcs
  exact ⟨xs, r⟩
end
end Go.Proofs.Ytcjniogdjbplbaa.Rd

/-! StRd -/
namespace Go.Proofs.Ytcjniogdjbplbaa
open Rd Mem Go.RowKit Go.ChangeShapes Go.WideShapes Go.ChangeAt Go.Proofs.YtcjniogdjbplbaaW.PrintWords Go.Proofs.YtcjniogdjbplbaaW.PrintLast Go.Proofs.YtcjniogdjbplbaaW.PrintMore

section
variable {H : Type} {enc : TypeId × Value → H} {W : World} {base : Nat} {held : Bool}
theorem cells37 : Try.prog.cellsOf 37 = 3 := by kernel_rfl
theorem cells3 : Try.prog.cellsOf 3 = 1 := by kernel_rfl
theorem cells9 : Try.prog.cellsOf 9 = 1 := by kernel_rfl
theorem cells23 : Try.prog.cellsOf 23 = 1 := by kernel_rfl
theorem cells5 : Try.prog.cellsOf 5 = 1 := by kernel_rfl
theorem bytes5 : Try.prog.bytesOf 5 = 1 := by kernel_rfl
theorem bytes37 : Try.prog.bytesOf 37 = 48 := by kernel_rfl
theorem add_zero_at (a : Addr) (n : Nat) (hn : 0 < n) : a.add n = ⟨a.block, a.off + n, none⟩ := by unfold Addr.add; rw [if_neg (by omega)]

theorem item_of {ad : Addr} {cs : List Value} {m : Nat} {y : DataW H × List MemPlace} (hc : W.cells? base ad 3 = some cs) (h : DataW.trod enc Try.prog W base (fun _ => true) held m 37 cs = some y) (hw : WOk Try.prog 37 y.1) :
    ∃ op s A n c bs, Item W ad op s A n c bs := by
  obtain ⟨_, hcl, hat⟩ := World.cells?_some hc
  obtain ⟨n0, y0, t0, _⟩ := rd_field (ft := 3) Try.underlying37 h hw 0 0 1 _ rfl rfl rfl cells3
  obtain ⟨n1, y1, t1, w1⟩ := rd_field (ft := 9) Try.underlying37 h hw 1 1 1 _ rfl rfl rfl cells9
  obtain ⟨n2, y2, t2, w2⟩ := rd_field (ft := 23) Try.underlying37 h hw 2 2 1 _ rfl rfl rfl cells23
  obtain ⟨op, e0, _⟩ := rd_int Try.underlying3 t0
  obtain ⟨s, e1, hs, _⟩ := rd_string Try.underlying9 t1 w1
  obtain ⟨A, n, c, bs, e2, hn, hc1, hc2, hc3, hC, hwf⟩ := rd_ints Try.underlying23 Try.underlying5 cells5 bytes5 t2 w2
  have a0 := (hat 0 (by omega)).trans (one_at e0)
  have a1 := (hat 1 (by omega)).trans (one_at e1)
  have a2 := (hat 2 (by omega)).trans (one_at e2)
  rw [add_zero_at _ 1 (by omega)] at a1
  rw [add_zero_at _ 2 (by omega)] at a2
  exact ⟨op, s, A, n, c, bs, ⟨by simpa [Addr.add] using a0, a1, a2, hC, hn, hc1, hc2, hs, by omega, wf_byte hwf⟩⟩

theorem scr_of {S : Option Addr} {m cs : Nat} {d : DataW H} {ps : List MemPlace} (h : DataW.Trod enc Try.prog W base (fun _ => true) held 22 (.slice S m cs) d ps) (hw : WOk Try.prog 22 d) : ScrAt W S m ∧ m * 48 ≤ 140737488351232 := by
  obtain ⟨h1, _, _, h4, h5⟩ := top_slice Try.underlying22 h hw
  refine ⟨fun k hk => ?_, ?_⟩
  · obtain ⟨ad, hA, cs', m', y, hc, ht, hy⟩ := h5 k hk
    rw [cells37] at hc
    exact ⟨ad, hA, item_of hc ht hy⟩
  · rw [bytes37] at h4
    omega
end
end Go.Proofs.Ytcjniogdjbplbaa
