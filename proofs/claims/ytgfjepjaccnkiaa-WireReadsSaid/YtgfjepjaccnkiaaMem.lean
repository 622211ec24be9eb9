/- Small laws on memory: a row that is made and copied into at once. -/
import Derived.WalkKit
import Derived.Laws.MakeOwn
import Derived.Laws.OwnMore
import Derived.Laws.CopyRow
import Derived.Lib.Hide
import Derived.Test.YtgfjepjaccnkiaaWMore
namespace Go.Proofs.Ytgfjepjaccnkiaa.Mem
open Go.RowKit Go.Proofs.YtgfjepjaccnkiaaW.PrintWords Go.Proofs.YtgfjepjaccnkiaaW.PrintLast Go.Proofs.YtgfjepjaccnkiaaW.PrintMore

theorem run_make_len {P : Program} (t e : TypeId) (z : Value) (bytes : Nat) (ht : P.underlying t = some (.slice e)) (hinfo : (P.info? e).map (fun i => (i.zero, i.size, i.bytes)) = some (some z, 1, bytes)) (hz1 : z.cells = #[z])
    (n : Nat) (hb : bytes * n ≤ 281474976710656) (hn : n ≤ 9223372036854775807) (l : Int) (hl : l = n) (W : World) :
    (Instr.makeSlice t (.int .i64 l) (.int .i64 l)).run P W = .ok (.slice (some ⟨W.heap.size, 0, none⟩) n n) (W.alloc (.cells (madeCells #[z] n) e)) := by
  subst hl
  obtain ⟨i, hi, hz, hs, hby⟩ := info_parts hinfo
  have := run_make (P := P) W t e i z ht hi hz .i64 .i64 n n (by omega) (by omega) (by rw [hby]; omega) (by omega)
  rw [this, hs, hz1]
  simp

theorem setRow_alloc (w : World) (cur new : Array Value) (e : TypeId) : (w.alloc (.cells cur e)).setRow w.heap.size new = w.alloc (.cells new e) := by
  unfold World.setRow World.alloc
  congr 1
  apply Array.ext_getElem?
  intro k
  simp only [Array.getElem?_modify, Array.getElem?_push]
  by_cases h : k = w.heap.size
  · subst h; simp
  · simp [h, Ne.symm h]

theorem run_copy_new {P : Program} (w : World) (e dT sT ty : TypeId) (hu : P.underlying dT = some (.slice e)) (hs : (P.info? e).map (·.size) = some 1) (A : Option Addr) (n c cap : Nat) (cs : List Value) (hn : cs.length = n) (cur : Array Value) (hcur : cur.size = n)
    (hsrc : 0 < n → ∃ ad, A = some ad ∧ ∀ j v, cs[j]? = some v → w.cell? (ad.add j) = some v) (h1 : ∀ v ∈ cs, v.oneCell' = true) :
    (Builtin.copy_ #[dT, sT] ty #[.slice (some ⟨w.heap.size, 0, none⟩) n cap, .slice A n c]).run P (w.alloc (.cells cur e)) = .ok (goInt n) (w.alloc (.cells cs.toArray e)) := by
  rcases Nat.eq_zero_or_pos n with h0 | hp
  · subst h0
    obtain rfl := List.eq_nil_of_length_eq_zero hn
    rw [run_copy_none (P := P) _ dT sT ty e _ _ _ _ _ _ hu hs (by simp)]
    obtain rfl : cur = #[] := Array.eq_empty_of_size_eq_zero hcur
    rfl
  · obtain ⟨ad, rfl, hc⟩ := hsrc hp
    have := run_copy_row (P := P) (w.alloc (.cells cur e)) dT sT ty e w.heap.size 0 n cap ad n c cur e cs hu hs (heap_alloc_new _ _) (by simp [hn])
      (fun j v hj => by
        have h := hc j v hj
        rw [World.cell?_alloc_lt _ _ _ (World.block_lt_of_cell? w _ h)]; exact h) (by omega) h1
    rw [this, setRow_alloc, hn]
    have e1 : cur.toList.drop (0 + n) = [] := List.drop_of_length_le (by simp; omega)
    rw [e1]
    simp

theorem own_row_new (w : World) (base : Nat) (e : TypeId) (cs : List Value) (n cap : Nat) (hn : cs.length = n) (hc : n = cap) (hb : base ≤ w.heap.size) (hm : n ≤ 9223372036854775807) :
    (w.alloc (.cells cs.toArray e)).ownsRow base e 1 (.slice (some ⟨w.heap.size, 0, none⟩) n cap) n cs := by
  subst hc
  exact ⟨by omega, .inr ⟨w.heap.size, n, cs.toArray, rfl, hb, heap_alloc_new _ _, Nat.le_refl _, by unfold maxLen; omega, by simp [hn], by simp [← hn]⟩⟩

/-- What is read of a row whose cells are known. -/
theorem C_int_of_blk {w : World} {k : IntKind} {g : Nat} {xs : List Int} {cells : Array Value} {t : TypeId} {fr : Nat × Nat} (h : w.heap[g]? = some (.cells cells t fr)) (hx : ∀ (j : Nat) (x : Int), xs[j]? = some x → cells[j]? = some (Value.int k x)) (hm : xs.length ≤ 9223372036854775807) :
    Kd.C (Kd.int k) w (some ⟨g, 0, none⟩) xs.length xs := by
  refine ⟨rfl, hm, fun _ => ⟨_, rfl, fun j p hj => ⟨[.int k p], rfl, rfl, fun i u hu => ?_⟩⟩⟩
  match i, hu with
  | 0, hu =>
    simp at hu
    subst hu
    rw [show (Kd.int k).sz = 1 from rfl, Nat.mul_one, Nat.add_zero, add_plain, cell_of_row w g j _ _ _ h]
    exact hx j p hj

/-- What is read of a row, cell by cell. -/
theorem C_int_cells {w : World} {k : IntKind} {A : Option Addr} {xs : List Int} (h : Kd.C (Kd.int k) w A xs.length xs) (hp : 0 < xs.length) :
    ∃ ad, A = some ad ∧ ∀ j v, (xs.map (Value.int k))[j]? = some v → w.cell? (ad.add j) = some v := by
  obtain ⟨ad, e, hc⟩ := h.2.2 hp
  refine ⟨ad, e, fun j v hj => ?_⟩
  rw [List.getElem?_map] at hj
  cases hx : xs[j]? with
  | none => simp [hx] at hj
  | some x =>
    simp [hx] at hj
    subst hj
    obtain ⟨c, hl, hk, hcell⟩ := hc j x hx
    have hk' : c = [.int k x] := hk
    subst hk'
    have := hcell 0 _ rfl
    rwa [show (Kd.int k).sz = 1 from rfl, Nat.mul_one, Nat.add_zero] at this

theorem one_ints (k : IntKind) (xs : List Int) : ∀ v ∈ xs.map (Value.int k), v.oneCell' = true := by
  intro v hv
  obtain ⟨x, _, rfl⟩ := List.mem_map.1 hv
  rfl
end Go.Proofs.Ytgfjepjaccnkiaa.Mem
