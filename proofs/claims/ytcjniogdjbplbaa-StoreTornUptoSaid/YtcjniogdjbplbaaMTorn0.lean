/- StoreTorn, of inputs of bounded bulk: whatever script and cuts: true; both read behind the call as ahead of it. -/
import Derived.Test.YtcjniogdjbplbaaMA2
import Derived.Test.YtcjniogdjbplbaaMA1
import Derived.Test.YtcjniogdjbplbaaMA3
import Derived.Deep.CondSized
import Derived.Test.YtcjniogdjbplbaaRows
/-! To1 -/
namespace Go.Proofs.Ytcjniogdjbplbaa
open Rdr Mem Go.RowKit Go.Proofs.YtcjniogdjbplbaaW.PrintWords Go.Proofs.YtcjniogdjbplbaaW.PrintLast Go.Proofs.YtcjniogdjbplbaaW.PrintMore PStorePlays

/-- Bytes laid over others. -/
def putAt (d : List Int) (at_ : Nat) (b : List Int) : List Int := d.take at_ ++ b ++ d.drop (at_ + b.length)
/-- The first n bytes of writes, laid. -/
def layS (d : List Int) : List S52 → Nat → List Int
  | [], _ => d
  | m :: r, n => layS (putAt d m.f0.toNat (m.f1.take n)) r (n - m.f1.length)
def totS : List S52 → Nat
  | [] => 0
  | m :: r => m.f1.length + totS r

theorem putAt_nil (d : List Int) (a : Nat) : putAt d a [] = d := by simp [putAt]
theorem layS_zero (d : List Int) (ms : List S52) : layS d ms 0 = d := by
  induction ms with
  | nil => rfl
  | cons m r ih => simp [layS, putAt_nil, ih]
theorem putAt_app (img tail b : List Int) : putAt (img ++ tail) img.length b = img ++ (b ++ tail.drop b.length) := by
  simp [putAt, List.drop_append, List.append_assoc]
theorem putAt_len (d : List Int) (a : Nat) (b : List Int) (h : a ≤ d.length) : (putAt d a b).length = max d.length (a + b.length) := by
  simp [putAt]; omega
/-- .. one byte more. -/
theorem putAt_more {d : List Int} {a : Nat} {b : List Int} {x : Int} (h : a ≤ d.length) : putAt d a (b ++ [x]) = if a + b.length < (putAt d a b).length then (putAt d a b).set (a + b.length) x else putAt d a b ++ [x] := by
  have hl := putAt_len d a b h
  by_cases hlt : a + b.length < d.length
  · rw [if_pos (by omega)]
    unfold putAt
    rw [List.drop_eq_getElem_cons hlt, List.set_append_right _ _ (by simp; omega)]
    simp [List.append_assoc, Nat.min_eq_left h, ← Nat.add_assoc]
    rw [List.drop_eq_getElem_cons hlt, List.set_cons_zero]
  · rw [if_neg (by omega)]
    unfold putAt
    rw [List.drop_of_length_le (by simp; omega), List.drop_of_length_le (by omega)]
    simp

/-- What a call of a store comes to: nothing, or two writes. -/
theorem doS_two (op : Int) (img : List Int) (l : List S99) (s : ByteArray) (b : List Int) :
    ((doS op img l s b).ms = [] ∧ (doS op img l s b).img = img ∧ (doS op img l s b).l = l) ∨
    ∃ k r, k ≠ 0 ∧ (doS op img l s b).ms = [⟨img.length, 0 :: (r ++ [0])⟩, ⟨img.length, [k]⟩] ∧ (doS op img l s b).img = img ++ k :: r ∧ img.length + r.length + 2 ≤ 1048576 := by
  have hl : ∀ (k : Int) (l' l : List S99) (rec : List Int), k ≠ 0 → 1 ≤ rec.length → ((laidS k img l' l rec).ms = [] ∧ (laidS k img l' l rec).img = img ∧ (laidS k img l' l rec).l = l) ∨
      ∃ k' r, k' ≠ 0 ∧ (laidS k img l' l rec).ms = [⟨img.length, 0 :: (r ++ [0])⟩, ⟨img.length, [k']⟩] ∧ (laidS k img l' l rec).img = img ++ k' :: r ∧ img.length + r.length + 2 ≤ 1048576 := by
    intro k l' l rec hk hr
    unfold laidS
    split
    · exact .inl ⟨rfl, rfl, rfl⟩
    · exact .inr ⟨k, rec.tail, hk, rfl, rfl, by simp; omega⟩
  unfold doS
  split
  · unfold putS
    split
    · exact .inl ⟨rfl, rfl, rfl⟩
    · split
      · exact .inl ⟨rfl, rfl, rfl⟩
      · split
        · exact .inl ⟨rfl, rfl, rfl⟩
        · exact hl _ _ _ _ (by omega) (recB_head _ _ _).2.2
  · unfold dropS
    split
    · exact .inl ⟨rfl, rfl, rfl⟩
    · split
      · exact .inl ⟨rfl, rfl, rfl⟩
      · exact hl _ _ _ _ (by omega) (recB_head _ _ _).2.2

/-- A disk that reads as an image. -/
structure Disk (d img : List Int) : Prop where
  at_ : ∃ tail, d = img ++ tail ∧ (tail = [] ∨ rd tail 0 = 0)
  len : d.length ≤ 1048576
  bytes : ∀ x ∈ d, 0 ≤ x ∧ x ≤ 255
theorem Disk.nil : Disk [] [] := ⟨⟨[], rfl, .inl rfl⟩, by simp, by simp⟩
theorem Disk.ge {d img : List Int} (h : Disk d img) : img.length ≤ d.length := by
  obtain ⟨t, e, _⟩ := h.at_
  rw [e]; simp
theorem Disk.take {d img : List Int} (h : Disk d img) : d.take img.length = img := by
  obtain ⟨t, e, _⟩ := h.at_
  rw [e, List.take_left]
theorem Disk.opens {d img : List Int} {l : List S99} (h : Disk d img) (hg : Good img l) : openS d = some (l, img.length) := by
  obtain ⟨t, e, ht⟩ := h.at_
  rw [e]
  exact hg.par.opens t ht

theorem torn_law {d img : List Int} {l : List S99} {op : Int} {s : ByteArray} {b : List Int} (hd : Disk d img) (h2 : Good (doS op img l s b).img (doS op img l s b).l) (n : Nat) (hn : n ≤ totS (doS op img l s b).ms) :
    Disk (layS d (doS op img l s b).ms n) (if n = totS (doS op img l s b).ms then (doS op img l s b).img else img) := by
  rcases doS_two op img l s b with ⟨e1, e2, e3⟩ | ⟨k, r, hk, e1, e2, hr⟩
  · rw [e1, e2]
    simpa [layS] using hd
  · obtain ⟨tail, ed, ht⟩ := hd.at_
    have hbs := h2.bytes
    rw [e2] at hbs
    have hbr : ∀ x ∈ r, 0 ≤ x ∧ x ≤ 255 := fun x hx => hbs x (by simp [hx])
    have hbk : 0 ≤ k ∧ k ≤ 255 := hbs k (by simp)
    have hbt : ∀ x ∈ tail, 0 ≤ x ∧ x ≤ 255 := fun x hx => hd.bytes x (by rw [ed]; simp [hx])
    have hbi : ∀ x ∈ img, 0 ≤ x ∧ x ≤ 255 := fun x hx => hd.bytes x (by rw [ed]; simp [hx])
    have hdl := hd.len
    rw [ed, List.length_append] at hdl
    rw [e1] at hn
    rw [e1, e2]
    have e4 : totS [⟨(img.length : Int), 0 :: (r ++ [0])⟩, ⟨(img.length : Int), [k]⟩] = r.length + 3 := by simp [totS]
    rw [e4] at hn ⊢
    have e5 : layS d [⟨(img.length : Int), 0 :: (r ++ [0])⟩, ⟨(img.length : Int), [k]⟩] n = putAt (putAt d img.length ((0 :: (r ++ [0])).take n)) img.length ([k].take (n - (r.length + 2))) := by
      simp [layS]
    rw [e5, ed, putAt_app, putAt_app]
    by_cases hl : n = r.length + 3
    · subst hl
      rw [if_pos rfl, List.take_of_length_le (l := [k]) (by simp), List.take_of_length_le (by simp)]
      refine ⟨⟨0 :: tail.drop (r.length + 2), ?_, .inr (by simp [rd])⟩, ?_, fun x hx => ?_⟩
      · simp
      · simp; omega
      · simp only [List.mem_append, List.cons_append, List.length_cons, List.length_nil, List.drop_succ_cons, List.drop_zero, List.mem_cons, List.not_mem_nil, or_false, List.nil_append] at hx
        rcases hx with hx | rfl | (hx | rfl) | hx
        · exact hbi x hx
        · exact hbk
        · exact hbr x hx
        · omega
        · exact hbt x (List.mem_of_mem_drop hx)
    · rw [if_neg hl, show n - (r.length + 2) = 0 by omega, List.take_zero]
      refine ⟨⟨(0 :: (r ++ [0])).take n ++ tail.drop ((0 :: (r ++ [0])).take n).length, by simp, ?_⟩, ?_, fun x hx => ?_⟩
      · cases n with
        | zero => simpa using ht
        | succ n => exact .inr (by simp [rd])
      · simp; omega
      · simp only [List.mem_append, List.nil_append, List.length_nil, List.drop_zero] at hx
        rcases hx with hx | hx | hx
        · exact hbi x hx
        · have := List.mem_of_mem_take hx
          simp only [List.mem_append, List.mem_cons, List.not_mem_nil, or_false] at this
          rcases this with rfl | hx | rfl
          · omega
          · exact hbr x hx
          · omega
        · exact hbt x (List.mem_of_mem_drop hx)
end Go.Proofs.Ytcjniogdjbplbaa

/-! To2 -/
namespace Go.Proofs.Ytcjniogdjbplbaa
open Rdr Mem Go.RowKit Go.Proofs.YtcjniogdjbplbaaW.PrintWords Go.Proofs.YtcjniogdjbplbaaW.PrintLast Go.Proofs.YtcjniogdjbplbaaW.PrintMore PStorePlays

theorem totS_app (a b : List S52) : totS (a ++ b) = totS a + totS b := by
  induction a with
  | nil => simp [totS]
  | cons x a ih => simp [totS, ih]; omega
theorem totS_le (ms : List S52) (hb : ∀ x ∈ ms, x.f1.length ≤ 1048576) : totS ms ≤ ms.length * 1048576 := by
  induction ms with
  | nil => simp [totS]
  | cons x a ih =>
    have := ih (fun y hy => hb y (by simp [hy]))
    have := hb x (by simp)
    simp only [totS, List.length_cons]
    omega
theorem totS_take {ms : List S52} {k : Nat} (h : k < ms.length) : totS (ms.take (k + 1)) = totS (ms.take k) + ms[k].f1.length := by
  rw [List.take_succ_eq_append_getElem h, totS_app]
  simp [totS]

set_option maxHeartbeats 4000000 in
set_option maxRecDepth 100000 in
theorem total_any (A : Option Addr) (m c : Nat) (ms : List S52) (w : World) (hC : Kd.C k52 w A m ms) (hm : Hid (m = ms.length)) (hm2 : m ≤ 2) (hb : ∀ x ∈ ms, x.f1.length ≤ 1048576) :
    Calls Try.prog 26 #[.slice A m c] w fun e w' => e = .returned (.int .i64 (totS ms)) ∧ Below w.heap.size w w' := by
  have HC := Lib.hid hC
  have HB := Lib.hid hb
  clear hC hb
  go_enter Try.func26, Try.ntmps26
  go_wp2_with fail
  go_loopw [3, 8] (fun n i wr => ∃ j : Nat, j ≤ m ∧ n = .int .i64 (totS (ms.take j)) ∧ i = .int .i64 j ∧ Below w.heap.size w wr) (fun _ i _ => m - (intOf i).toNat)
  case atStart => exact ⟨0, Nat.zero_le _, rfl, rfl, Below.refl _ _⟩
  case round =>
    obtain ⟨j, hj, rfl, rfl, hbw⟩ := hrel
    have HBW := Lib.hid hbw
    clear hbw
    by_cases hlt : j < m
    · have hlt' : j < ms.length := by rw [← hm.out]; exact hlt
      obtain ⟨ad, A1, c1, ea, e0, e1, hc1, hC1⟩ := at_T52 HC.out (j : Int) (by omega) (by omega)
      have er : rd_T52 ms (j : Int) = ms[j] := by simp [rd_T52, hlt']
      rw [er] at e0 e1 hc1 hC1
      rw [Int.toNat_natCast] at e0 e1
      subst ea
      have HT := Lib.hid (totS_take hlt')
      have hb1 := HB.out _ (List.getElem_mem hlt')
      have hb2 := totS_le (ms.take j) (fun x hx => HB.out x (List.mem_of_mem_take hx))
      have hb3 : (ms.take j).length ≤ 2 := by rw [List.length_take]; omega
      have hb4 : totS (ms.take j) ≤ 2097152 := by omega
      have x0 := old_cell HBW.out e0
      have x1 := old_cell HBW.out e1
      generalize hx : ms[j] = x at *
      generalize ht : totS (ms.take j) = t at *
      obtain ⟨n1, hn1⟩ : ∃ n1, x.f1.length = n1 := ⟨_, rfl⟩
      rw [hn1] at x1 hb1 hc1
      have HN1 := Lib.hid hn1
      clear hb2 hb3 hn1 e0 e1 hC1 hx ht er
      go_wp2_with fail
      go_roundw
      case rel => exact ⟨j + 1, by omega, by rw [HT.out, HN1.out]; go_num, by go_num, HBW.out.alloc HBW.out.size _⟩
      case measure => simp [intOf]; omega
    · have e : ms.take j = ms := List.take_of_length_le (by have := hm.out; omega)
      rw [e]
      go_wp2_with fail
      go_ret
      exact ⟨rfl, HBW.out⟩

/-- A cell of an owned row is turned. -/
theorem own_set8 {w : World} {base n g cap k : Nat} {x : Int} {xs : List Int} (h : w.ownsRow base 5 1 (.slice (some ⟨g, 0, none⟩) n cap) n (nums8 xs)) : (w.setCell ⟨g, k, none⟩ (.int .u8 x)).ownsRow base 5 1 (.slice (some ⟨g, 0, none⟩) n cap) n (nums8 (xs.set k x)) := by
  have e1 : nums8 (xs.set k x) = (nums8 xs).set k (.int .u8 x) := by simp [nums8, List.map_set]
  refine ⟨by rw [e1]; simpa using h.1, ?_⟩
  rcases h.2 with ⟨e, _⟩ | ⟨g', cap', cur, e, hb, hg, hnc, hmx, hcs, ht⟩
  · cases e
  · injection e with ea e3 e4
    injection ea with ea
    injection ea with ea _ _
    subst ea
    subst e4
    refine .inr ⟨g, cap, cur.setIfInBounds k (.int .u8 x), rfl, hb, blk_set hg k _, hnc, hmx, by simpa using hcs, ?_⟩
    rw [e1, ← ht, Array.toList_setIfInBounds, List.take_set]

set_option maxHeartbeats 4000000 in
set_option maxRecDepth 100000 in
theorem lay_any (A : Option Addr) (n c : Nat) (ds : List Int) (A1 : Option Addr) (m c1 : Nat) (ms : List S52) (k : Nat) (w : World) (hD : U8C w A ds) (hn : Hid (n = ds.length)) (hc0 : A = none → c = 0) (hdl : n ≤ 1048576)
    (hC : Kd.C k52 w A1 m ms) (hm : Hid (m = ms.length)) (hm2 : m ≤ 2) (hb : ∀ x ∈ ms, ∃ a : Nat, x.f0 = a ∧ a ≤ n ∧ x.f1.length ≤ 1048576) (hk : k ≤ 2097152) :
    Calls Try.prog 27 #[.slice A n c, .slice A1 m c1, .int .i64 k] w fun e w' => (∃ v, e = .returned v ∧ w'.ownsRow w.heap.size 5 1 v (layS ds ms k).length (nums8 (layS ds ms k))) ∧ Below w.heap.size w w' := by
  have HC := Lib.hid hC
  have HB := Lib.hid hb
  have HCL := Lib.hid (clone_any A c n ds w hD hn.out hc0 (by omega))
  clear hC hb hD hc0
  go_enter Try.func27, Try.ntmps27
  go_wp2_with fail
  refine HCL.out.mono ?_
  rintro e w1 ⟨v1, rfl, ho1, hb1⟩
  clear HCL
  obtain ⟨Av1, cv1, ev1, hcv1, _⟩ := own_form ho1
  subst ev1
  have HO1 := Lib.hid ho1
  have HB1 := Lib.hid hb1
  clear ho1 hb1
  go_wp2_with fail
  go_loopw [7, 2, 17] (fun o nn i wr => ∃ (j kj dn : Nat) (dj : List Int) (Av : Option Addr) (cv : Nat), j ≤ m ∧ o = .slice Av dn cv ∧ nn = .int .i64 kj ∧ i = .int .i64 j ∧ layS dj (ms.drop j) kj = layS ds ms k ∧ dj.length = dn ∧ n ≤ dn ∧ dn ≤ 2097152 ∧ kj ≤ 2097152 ∧ wr.ownsRow w.heap.size 5 1 (.slice Av dn cv) dn (nums8 dj) ∧ Below w.heap.size w wr) (fun _ _ i _ => m - (intOf i).toNat)
  case atStart => exact ⟨0, k, n, ds, Av1, cv1, Nat.zero_le _, rfl, rfl, rfl, rfl, hn.out.symm, Nat.le_refl _, by omega, hk, HO1.out, HB1.out⟩
  case round =>
    clear HO1 HB1
    obtain ⟨j, kj, dn, dj, Av, cv, hj, rfl, rfl, rfl, hlay, hdn, hndn, hdn2, hkj, hown, hbw⟩ := hrel
    have HLAY := Lib.hid hlay
    have HDN := Lib.hid hdn
    have HO := Lib.hid hown
    have HBW := Lib.hid hbw
    clear hlay hdn hown hbw
    by_cases hlt : j < m
    · have hlt' : j < ms.length := by rw [← hm.out]; exact hlt
      obtain ⟨ad, A2, c2, ea, e0, e1, hc2, hC2⟩ := at_T52 HC.out (j : Int) (by omega) (by omega)
      have er : rd_T52 ms (j : Int) = ms[j] := by simp [rd_T52, hlt']
      rw [er] at e0 e1 hc2 hC2
      rw [Int.toNat_natCast] at e0 e1
      subst ea
      obtain ⟨a, ha0, han, hxl⟩ := HB.out _ (List.getElem_mem hlt')
      have hdr : ms.drop j = ms[j] :: ms.drop (j + 1) := List.drop_eq_getElem_cons hlt'
      have hl2 := HLAY.out
      rw [hdr, layS] at hl2
      have x0 := old_cell HBW.out e0
      have x1 := old_cell HBW.out e1
      generalize hx : ms[j] = x at *
      obtain ⟨f0, bs⟩ := x
      simp only at x0 x1 ha0 hxl hl2 hC2 hc2 
      subst ha0
      rw [Int.toNat_natCast] at hl2
      obtain ⟨n2, hn2⟩ : ∃ n2, bs.length = n2 := ⟨_, rfl⟩
      rw [hn2] at x1 hxl hc2 hl2
      have HN2 := Lib.hid hn2
      have HL2 := Lib.hid hl2
      have HC2 := Lib.hid hC2
      clear hl2 hC2 hn2 e0 e1 hdr hx er HLAY
      go_wp2_with fail
      refine wp_world (fun W => W.heap[wr.heap.size]? = some (.cells #[.int .i64 a, .slice A2 n2 c2] 52 (0, 0)) ∧ W.ownsRow w.heap.size 5 1 (.slice Av dn cv) dn (nums8 dj) ∧ Below w.heap.size w W) ⟨heap_alloc_new _ _, own_step HO.out (fun q hq => Below.heap_alloc _ _ _ (own_low HO.out q hq).2), HBW.out.alloc HBW.out.size _⟩ ?_
      rintro W ⟨hbt, hown, hbw⟩
      have HBT := Lib.hid hbt
      have HO2 := Lib.hid hown
      have HBW2 := Lib.hid hbw
      clear hbt hown hbw
      generalize wr.heap.size = b at *
      go_wp2_with fail
      go_loopw [7, 2, 24] (fun o nn kk wi => ∃ (t kr dn' : Nat) (dt : List Int) (Av' : Option Addr) (cv' : Nat), t ≤ n2 ∧ t + kr = kj ∧ o = .slice Av' dn' cv' ∧ nn = .int .i64 kr ∧ kk = .int .i64 t ∧ dt = putAt dj a (bs.take t) ∧ dt.length = dn' ∧ wi.ownsRow w.heap.size 5 1 (.slice Av' dn' cv') dn' (nums8 dt) ∧ Below w.heap.size w wi ∧ wi.heap[b]? = some (.cells #[.int .i64 a, .slice A2 n2 c2] 52 (0, 0))) (fun _ _ kk _ => n2 - (intOf kk).toNat)
      case atStart => exact ⟨0, kj, dn, dj, Av, cv, Nat.zero_le _, Nat.zero_add _, rfl, rfl, rfl, by simp [putAt_nil], HDN.out, HO2.out, HBW2.out, HBT.out⟩
      case round =>
        clear HO2 HBW2 HBT
        obtain ⟨t, kr, dn', dt, Av', cv', ht, htk, rfl, rfl, rfl, hdt, hdn', hown, hbw, hbt⟩ := hrel
        have hdl := putAt_len dj a (bs.take t) (by have := HDN.out; omega)
        rw [← hdt, hdn', HDN.out, List.length_take, HN2.out, Nat.min_eq_left ht] at hdl
        have hd1 : a + t ≤ dn' := by omega
        have hd2 : dn' ≤ 2097152 := by omega
        have hd3 : dn ≤ dn' := by omega
        clear hdl
        have HDT := Lib.hid hdt
        have HDN' := Lib.hid hdn'
        have HO2 := Lib.hid hown
        have HBW2 := Lib.hid hbw
        have HBT := Lib.hid hbt
        clear hdt hdn' hown hbw hbt
        by_cases hlt2 : t < n2
        · obtain ⟨ad2, ea2, hcell⟩ := C_int_cells (HC2.out) (by have := HN2.out; omega)
          subst ea2
          have hlt3 : t < bs.length := by rw [HN2.out]; exact hlt2
          have hy := hcell t (.int .u8 bs[t]) (by simp [hlt3])
          have y0 := old_cell HBW2.out hy
          have hmore := putAt_more (x := bs[t]) (show a ≤ dj.length by have := HDN.out; omega) (b := bs.take t)
          rw [← List.take_succ_eq_append_getElem hlt3, ← HDT.out, HDN'.out, List.length_take, HN2.out, Nat.min_eq_left ht] at hmore
          generalize bs[t] = y at *
          have hmore2 := hmore
          clear hmore hy hcell
          by_cases hz : kr = 0
          · subst hz
            clear hmore2
            go_wp2_with fail
            go_ret
            refine ⟨⟨_, rfl, ?_⟩, HBW2.out⟩
            have e : layS ds ms k = dt := by
              rw [← HL2.out, show kj - n2 = 0 by omega, layS_zero, HDT.out, show kj = t by omega]
            rw [e, HDN'.out]
            exact HO2.out
          · have hnz : (kr : Int) ≠ 0 := by omega
            have b0 : wr.cell? ⟨b, 0, none⟩ = some (.int .i64 a) := (blk_cell HBT.out 0).trans rfl
            by_cases hap : a + t = dn'
            · rw [if_neg (by omega)] at hmore2
              have HM := Lib.hid hmore2
              clear hmore2
              go_wp2_with (first | (at_builtin; refine wpList_append_u8n rfl (.tmp 50) (.tmp 52) 23 rfl w.heap.size 5 Try.underlying23 info5 _ dn' dt rfl (own_step HO2.out (fun q hq => Below.heap_alloc _ _ _ (own_low HO2.out q hq).2)) _ _ _ [y] rfl rfl (C_row_at wr _ 5 [y] rfl (by simp)) (dn' + 1) rfl (by omega) (by have := HBW2.out.size; simp; omega) ?_; intro v4 w4 ho hg hat; obtain ⟨A4, c4, ev4, hc4⟩ := own_shape ho; subst ev4; have HO4 := Lib.hid ho; have HG4 := Lib.hid hg; clear ho hg hat))
              go_roundw
              case rel =>
                refine ⟨t + 1, kr - 1, dn' + 1, dt ++ [y], A4, c4, by omega, by omega, rfl, by go_num, by go_num, HM.out.symm, by simp [HDN'.out], HO4.out, ?_, ?_⟩
                · exact (HBW2.out.alloc HBW2.out.size _).grown HG4.out (by have := HBW2.out.size; simp; omega) (fun q hq => (own_low HO2.out q hq).1)
                · have hbl := blk_lt HBT.out
                  exact (HG4.out.block b (by simp; omega) (fun e => own_ne HO2.out HBT.out (by decide) e.symm)).trans ((Below.heap_alloc _ _ _ hbl).trans HBT.out)
              case measure => simp [intOf]; omega
            · rw [if_pos (by omega)] at hmore2
              have HM := Lib.hid hmore2
              have hlt4 : a + t < dt.length := by rw [HDN'.out]; omega
              obtain ⟨g, eg, hcg⟩ := own_cell HO2.out (k := a + t) (v := .int .u8 dt[a + t]) (by simp [nums8, hlt4])
              subst eg
              obtain ⟨cur, hcur, _⟩ := own_blk HO2.out
              have fg : wr.frozen? ⟨g, a + t, none⟩ = false := blk_frozen hcur _
              generalize dt[a + t] = z at *
              have hnat : ((a : Int) + (t : Int)).toNat = a + t := by omega
              clear hmore2 hcur hlt4
              go_wp2_with fail
              go_roundw
              case rel =>
                refine ⟨t + 1, kr - 1, dn', dt.set (a + t) y, some ⟨g, 0, none⟩, cv', by omega, by omega, rfl, by go_num, by go_num, HM.out.symm, by simp [HDN'.out], own_set8 HO2.out, ?_, ?_⟩
                · exact HBW2.out.setCell (own_low HO2.out g rfl).1 _
                · exact (Below.heap_setCell _ _ _ _ (fun e => own_ne HO2.out HBT.out (by decide) (by rw [e]; rfl))).trans HBT.out
              case measure => simp [intOf]; omega
        · have e : bs.take t = bs := List.take_of_length_le (by have := HN2.out; omega)
          have e2 : t = n2 := by omega
          subst e2
          go_wp2_with fail
          go_roundw
          case rel =>
            have h1 := HL2.out
            rw [List.take_of_length_le (i := kj) (l := bs) (by have := HN2.out; omega), ← e, ← HDT.out] at h1
            exact ⟨j + 1, kr, dn', dt, Av', cv', by omega, rfl, rfl, by go_num, by rw [← h1]; congr 1; omega, HDN'.out, by omega, by omega, by omega, HO2.out, HBW2.out⟩
          case measure => simp [intOf]; omega
    · have e : ms.drop j = [] := List.drop_of_length_le (by have := hm.out; omega)
      have h9 := HLAY.out
      rw [e, layS] at h9
      have HL9 := Lib.hid h9
      clear h9 e HLAY
      go_wp2_with fail
      go_ret
      refine ⟨⟨_, rfl, ?_⟩, HBW.out⟩
      rw [← HL9.out, HDN.out]
      exact HO.out

end Go.Proofs.Ytcjniogdjbplbaa

/-! Py1 -/
namespace Go.Proofs.Ytcjniogdjbplbaa
open Rdr Mem Go.RowKit Go.Proofs.YtcjniogdjbplbaaW.PrintWords Go.Proofs.YtcjniogdjbplbaaW.PrintLast Go.Proofs.YtcjniogdjbplbaaW.PrintMore PStorePlays

theorem op_six (op : Int) : ∃ v, wrap64 ((IntKind.u64.wrap op).tmod 6) = v ∧ (v = 0 ∨ v = 1 ∨ v = 2 ∨ v = 3 ∨ v = 4 ∨ v = 5) := by
  have h0 : 0 ≤ IntKind.u64.wrap op := by unfold IntKind.wrap; simp [IntKind.signed, IntKind.bits]; omega
  have h1 := Int.tmod_eq_emod_of_nonneg (b := 6) h0
  refine ⟨IntKind.u64.wrap op % 6, by rw [h1]; unfold wrap64; omega, by omega⟩

/-- Where the box of the document's state lies. -/
theorem StAt.box {X : Nat → Prop} {w : World} {g M q : Nat} {vi : Value} {img : List Int} {l : List S99} {u v : Value} (h : StAt X w g M vi img l) (hb : w.heap[q]? = some (.cells #[u, v] 29 (0, 0))) : Rest g M vi q := by
  refine ⟨fun e => ?_, h.map.ne hb, own_ne h.own hb (by decide)⟩
  subst e
  have := h.blk.symm.trans hb
  injection this with this
  injection this with _ h2
  cases h2

/-- The pair and the box. -/
structure Pb (q : Nat) (w W : World) (g M : Nat) (vi : Value) (B0 : Option Addr) (d0 : Nat) (B1 : Option Addr) (d1 : Nat) (img : List Int) (l : List S99) : Prop where
  pr : Pair (fun k => k = q) w W g M vi B0 d0 B1 d1 img l
  bx : W.heap[q]? = some (.cells #[.slice B0 img.length d0, .slice B1 l.length d1] 29 (0, 0))
  gd : Good img l
  hq : w.heap.size ≤ q
theorem Pb.below {q : Nat} {w W W' : World} {g M : Nat} {vi : Value} {B0 : Option Addr} {d0 : Nat} {B1 : Option Addr} {d1 : Nat} {img : List Int} {l : List S99} (h : Pb q w W g M vi B0 d0 B1 d1 img l) (hb : Below W.heap.size W W') : Pb q w W' g M vi B0 d0 B1 d1 img l :=
  ⟨h.pr.below hb, (hb.block q (blk_lt h.bx)).trans h.bx, h.gd, h.hq⟩
/-- .. where a new state is put into the box. -/
theorem Pb.put {q : Nat} {w W : World} {g M : Nat} {vi : Value} {B0 : Option Addr} {d0 : Nat} {B1 : Option Addr} {d1 : Nat} {img : List Int} {l : List S99} {u v : Value} (h : Pair (fun k => k = q) w W g M vi B0 d0 B1 d1 img l) (hb : W.heap[q]? = some (.cells #[u, v] 29 (0, 0))) (hg : Good img l) (hq : w.heap.size ≤ q) :
    Pb q w ((W.setCell ⟨q, 0, none⟩ (.slice B0 img.length d0)).setCell ⟨q, 1, none⟩ (.slice B1 l.length d1)) g M vi B0 d0 B1 d1 img l :=
  ⟨h.step set2_chg (fun k e => by subst e; exact ⟨hq, h.st.box hb⟩), (blk_set ((blk_set hb 0 (.slice B0 img.length d0)).trans rfl) 1 (.slice B1 l.length d1)).trans rfl, hg, hq⟩

set_option maxHeartbeats 4000000 in
set_option maxRecDepth 100000 in
theorem plays_walk (S : Option Addr) (m cs : Nat) (w : World) (hs : ScrAt w S m) (hm : m * 48 ≤ 140737488355000) :
    Calls Try.prog 7 #[.slice S m cs] w fun e w' => e = .returned (.bool true) ∧ Below w.heap.size w w' := by
  have HS := Lib.hid hs
  clear hs
  go_enter Try.func7, Try.ntmps7
  go_wp2_with fail
  refine (st_new w).mono ?_
  rintro e w1 ⟨rfl, hst, hb1⟩
  generalize hg0 : w.heap.size = g0 at *
  have HG0 := Lib.hid hg0
  obtain ⟨q, hq⟩ : ∃ q, w1.heap.size = q := ⟨_, rfl⟩
  have hgq : g0 + 1 < q := by rw [← hq]; exact blk_lt hst.blk
  have hsb : Below q w1 (w1.alloc (.cells #[.slice none 0 0, .slice none 0 0] 29)) := hq ▸ start_below
  have hpr : Pair (fun k => k = q) w (w1.alloc (.cells #[.slice none 0 0, .slice none 0 0] 29)) (g0 + 1) g0 (.slice none 0 0) none 0 none 0 [] [] := by
    refine ⟨(hst.shun hsb hq rfl).less (fun k e => .inr ⟨by omega, by simp; omega⟩), refSt_nil _ _, ?_, by omega, by omega, fun k e => by simp [Value.ownBlock] at e⟩
    rw [hg0]
    exact hb1.trans (hsb.mono (by omega))
  have hbx : (w1.alloc (.cells #[.slice none 0 0, .slice none 0 0] 29)).heap[q]? = some (.cells #[.slice none 0 0, .slice none 0 0] 29 (0, 0)) := by
    have := heap_alloc_new w1 (.cells #[.slice none 0 0, .slice none 0 0] 29)
    rwa [hq] at this
  have HPB := Lib.hid (show Pb q w (w1.alloc (.cells #[.slice none 0 0, .slice none 0 0] 29)) (g0 + 1) g0 (.slice none 0 0) none 0 none 0 [] [] from ⟨hpr, hbx, Good.nil, by omega⟩)
  clear hst hb1 hsb hpr hbx hg0
  go_wp2_with fail
  clear hq
  refine (alike_any (g0 + 1) g0 (.slice none 0 0) [] [] none 0 none 0 _ _ HPB.out.pr.st HPB.out.pr.rf 0 0 (Lib.hid rfl) (Lib.hid rfl)).mono ?_
  rintro e w2 ⟨rfl, hb2⟩
  have HPB2 := Lib.hid (HPB.out.below hb2)
  clear HPB hb2
  go_wp2_with fail
  go_loopw [3, 24] (fun s i wr => ∃ (k g M : Nat) (vi : Value) (B0 : Option Addr) (d0 : Nat) (B1 : Option Addr) (d1 : Nat) (img : List Int) (l : List S99), k ≤ m ∧ i = .int .i64 k ∧ s = .pointer (some ⟨g, 0, none⟩) ∧ Pb q w wr g M vi B0 d0 B1 d1 img l) (fun _ i _ => m - (intOf i).toNat)
  case atStart => exact ⟨0, g0 + 1, g0, _, none, 0, none, 0, [], [], Nat.zero_le _, rfl, rfl, HPB2.out⟩
  case round =>
    clear HPB2
    obtain ⟨k, g, M, vi, B0, d0, B1, d1, img, l, hk, rfl, rfl, hpb⟩ := hrel
    have HPB := Lib.hid hpb
    have x0 : wr.cell? ⟨q, 0, none⟩ = some (.slice B0 img.length d0) := (blk_cell hpb.bx 0).trans rfl
    have x1 : wr.cell? ⟨q, 1, none⟩ = some (.slice B1 l.length d1) := (blk_cell hpb.bx 1).trans rfl
    have hql : q < wr.heap.size := blk_lt hpb.bx
    clear hpb
    by_cases hlt : k < m
    · obtain ⟨ad, rfl, op, s, A2, n2, c2, bs, hit⟩ := HS.out k hlt
      have hit2 := hit.below HPB.out.pr.bel
      have i0 := hit2.c0
      have i1 := hit2.c1
      have i2 := hit2.c2
      have HIT := Lib.hid hit
      clear hit hit2
      obtain ⟨ov, hop, hov⟩ := op_six op
      rcases hov with h | h | h | h | h | h <;> subst h
      · go_wp2_with fail
        refine at_world (fun W => Pb q w W g M vi B0 d0 B1 d1 img l) (HPB.out.below start_below) ?_
        rintro W hpb
        have hrq := hpb.pr.st.box hpb.bx
        refine (do_any _ _ _ vi img l s A2 n2 c2 bs B0 d0 B1 d1 w W hpb.pr HIT.out.rd HIT.out.hn HIT.out.hc HIT.out.hc0 HIT.out.hl HIT.out.hs 0 (.inl rfl)).mono ?_
        rintro e W2 hdo
        obtain ⟨vi2, B2, d2, B3, d3, wl3, rfl, hpr2, -, hch⟩ := hpb.pr.next hdo
        have hbx2 := (hch.block q (blk_lt hpb.bx) (fun x => x hrq)).trans hpb.bx
        have hgd2 := hpb.gd.do_ 0 s bs HIT.out.hbb
        have hqq := hpb.hq
        obtain ⟨o2, ho2⟩ : ∃ o2, o2 = doS 0 img l s bs := ⟨_, rfl⟩
        rw [← ho2] at hpr2 hgd2
        rw [← ho2]
        have HPR2 := Lib.hid hpr2
        have HBX3 := Lib.hid hbx2
        have HGD2 := Lib.hid hgd2
        have z0 : W2.cell? ⟨q, 0, none⟩ = some (.slice B0 img.length d0) := (blk_cell hbx2 0).trans rfl
        have z1 : W2.cell? ⟨q, 1, none⟩ = some (.slice B1 l.length d1) := (blk_cell hbx2 1).trans rfl
        have f0 : W2.frozen? ⟨q, 0, none⟩ = false := blk_frozen hbx2 0
        have f1 : W2.frozen? ⟨q, 1, none⟩ = false := blk_frozen hbx2 1
        have hql2 : q < W2.heap.size := blk_lt hbx2
        clear hpb hdo hpr2 hch hbx2 ho2 hgd2 hrq
        go_wp2_with fail
        go_roundw
        case rel => exact ⟨k + 1, g, M, vi2, B2, d2, B3, d3, o2.img, o2.l, by omega, by go_num, rfl, (Pb.put HPR2.out HBX3.out HGD2.out hqq).below start_below⟩
        case measure => simp [intOf]; omega
      · go_wp2_with fail
        refine at_world (fun W => Pb q w W g M vi B0 d0 B1 d1 img l) (HPB.out.below start_below) ?_
        rintro W hpb
        have hrq := hpb.pr.st.box hpb.bx
        refine (do_any _ _ _ vi img l s A2 n2 c2 bs B0 d0 B1 d1 w W hpb.pr HIT.out.rd HIT.out.hn HIT.out.hc HIT.out.hc0 HIT.out.hl HIT.out.hs 1 (.inr rfl)).mono ?_
        rintro e W2 hdo
        obtain ⟨vi2, B2, d2, B3, d3, wl3, rfl, hpr2, -, hch⟩ := hpb.pr.next hdo
        have hbx2 := (hch.block q (blk_lt hpb.bx) (fun x => x hrq)).trans hpb.bx
        have hgd2 := hpb.gd.do_ 1 s bs HIT.out.hbb
        have hqq := hpb.hq
        obtain ⟨o2, ho2⟩ : ∃ o2, o2 = doS 1 img l s bs := ⟨_, rfl⟩
        rw [← ho2] at hpr2 hgd2
        rw [← ho2]
        have HPR2 := Lib.hid hpr2
        have HBX3 := Lib.hid hbx2
        have HGD2 := Lib.hid hgd2
        have z0 : W2.cell? ⟨q, 0, none⟩ = some (.slice B0 img.length d0) := (blk_cell hbx2 0).trans rfl
        have z1 : W2.cell? ⟨q, 1, none⟩ = some (.slice B1 l.length d1) := (blk_cell hbx2 1).trans rfl
        have f0 : W2.frozen? ⟨q, 0, none⟩ = false := blk_frozen hbx2 0
        have f1 : W2.frozen? ⟨q, 1, none⟩ = false := blk_frozen hbx2 1
        have hql2 : q < W2.heap.size := blk_lt hbx2
        clear hpb hdo hpr2 hch hbx2 ho2 hgd2 hrq
        go_wp2_with fail
        go_roundw
        case rel => exact ⟨k + 1, g, M, vi2, B2, d2, B3, d3, o2.img, o2.l, by omega, by go_num, rfl, (Pb.put HPR2.out HBX3.out HGD2.out hqq).below start_below⟩
        case measure => simp [intOf]; omega
      · go_wp2_with fail
        refine at_world (fun W => Pb q w W g M vi B0 d0 B1 d1 img l ∧ W.heap[wr.heap.size]? = some (.cells #[.int .i64 op, .string s, .slice A2 n2 c2] 37 (0, 0))) ⟨HPB.out.below start_below, heap_alloc_new _ _⟩ ?_
        rintro W ⟨hpb, hbt⟩
        refine (get_any _ g M vi img l s W hpb.pr.st HIT.out.hs).mono ?_
        rintro e w7 ⟨hb7, A7, n7, c7, xs7, rfl, hC7, hn7, hc7, h47, hx7⟩
        have hpb7 := hpb.below hb7
        have hbt7 := (hb7.block _ (blk_lt hbt)).trans hbt
        have y0 : w7.cell? ⟨q, 0, none⟩ = some (.slice B0 img.length d0) := (blk_cell hpb7.bx 0).trans rfl
        have y1 : w7.cell? ⟨q, 1, none⟩ = some (.slice B1 l.length d1) := (blk_cell hpb7.bx 1).trans rfl
        have y2 : w7.cell? ⟨wr.heap.size, 1, none⟩ = some (.string s) := (blk_cell hbt7 1).trans rfl
        obtain ⟨ge, hge⟩ : ∃ ge, getE l s = ge := ⟨_, rfl⟩
        have HGE := Lib.hid hge
        rw [hge]
        have HPB7 := Lib.hid hpb7
        have HC7 := Lib.hid hC7
        have HN7 := Lib.hid hn7
        have HX7 := Lib.hid hx7
        clear hpb hbt hb7 hpb7 hbt7 hge hC7 hn7 hx7
        go_wp2_with fail
        refine (ref_get B0 img.length d0 B1 l.length d1 l s w7 (Kd.F_now HPB7.out.pr.rf.fl) HPB7.out.pr.rf.cl (Lib.hid rfl) HPB7.out.gd.few HPB7.out.gd.small).mono ?_
        rintro e w8 ⟨hb8, A8, n8, c8, xs8, rfl, hC8, hn8, hc8, h48, hx8⟩
        rw [← HX7.out] at hx8
        subst hx8
        rw [HGE.out]
        have HPB8 := Lib.hid (HPB7.out.below hb8)
        have HC78 := Lib.hid (Kd.C_below HC7.out hb8)
        have HC8 := Lib.hid hC8
        have HN8 := Lib.hid hn8
        clear hb8 hC8 hn8 HPB7 HC7
        go_wp2_with fail
        refine (equal_same A7 n7 c7 xs8 A8 n8 c8 w8 HC78.out HN7.out hc7 HC8.out HN8.out hc8 (by omega)).mono ?_
        rintro e wa ⟨rfl, ⟨ma, rfl⟩⟩
        go_wp2_with fail
        go_roundw
        case rel => exact ⟨k + 1, g, M, vi, B0, d0, B1, d1, img, l, by omega, by go_num, rfl, HPB8.out.below (pw_below_drewN (Below.refl _ _) _)⟩
        case measure => simp [intOf]; omega
      · go_wp2_with fail
        refine at_world (fun W => Pb q w W g M vi B0 d0 B1 d1 img l) (HPB.out.below start_below) ?_
        rintro W hpb
        refine (st_pack g M vi img l W hpb.pr.st hpb.gd).mono ?_
        rintro e w4 ⟨g3, M3, vi3, rfl, hnew⟩
        have hpb4 := hpb.below hnew.bel
        have hrf := hpb.pr.rf.swap hnew.bel hnew.lg hnew.lM hnew.lv
        have hqW := blk_lt hpb.bx
        have HST4 := Lib.hid (hnew.st.less (Y := fun k => k = q) (fun k e => by subst e; exact hqW))
        have hlw := hpb.pr.bel.size
        have HLW := Lib.hid (show w.heap.size ≤ g3 ∧ w.heap.size ≤ M3 ∧ ∀ k, vi3.ownBlock = some k → w.heap.size ≤ k from ⟨Nat.le_trans hlw hnew.lg, Nat.le_trans hlw hnew.lM, fun k e => Nat.le_trans hlw (hnew.lv k e)⟩)
        have HPB4 := Lib.hid hpb4
        have HRF := Lib.hid hrf
        have y0 : w4.cell? ⟨q, 0, none⟩ = some (.slice B0 img.length d0) := (blk_cell hpb4.bx 0).trans rfl
        have y1 : w4.cell? ⟨q, 1, none⟩ = some (.slice B1 l.length d1) := (blk_cell hpb4.bx 1).trans rfl
        have hql4 : q < w4.heap.size := blk_lt hpb4.bx
        have HOK := Lib.hid (show ∀ k, w4.heap.size ≤ k → RX (fun k => k = q) g3 M3 vi3 k from fun k hk => ⟨⟨by have := blk_lt HST4.out.blk; omega, by have := HST4.out.map.lt; omega, fun e => by have := (own_low HST4.out.own k e).2; omega⟩, by omega⟩)
        clear hpb hnew hpb4 hrf hqW hlw
        go_wp2_with fail
        refine (ref_pack B0 img.length d0 B1 l.length d1 l _ w4 HOK.out (Kd.F_now HRF.out.fl) HRF.out.cl (Lib.hid rfl) HPB4.out.gd.few HPB4.out.gd.small (by have := HPB4.out.gd.pack; have := HPB4.out.gd.room; omega)).mono ?_
        rintro e w5 ⟨⟨B5, d5, nn, rfl, hnn, hd5, hF5⟩, hb5⟩
        subst hnn
        have hpr5 : Pair (fun k => k = q) w w5 g3 M3 vi3 B5 d5 B1 d1 (packL l) l := ⟨HST4.out.step hb5, ⟨hF5, hd5, (HRF.out.below hb5).fl, HRF.out.cl⟩, (HPB4.out.below hb5).pr.bel, HLW.out.1, HLW.out.2.1, HLW.out.2.2⟩
        have hbx5 := (HPB4.out.below hb5).bx
        have HPR5 := Lib.hid hpr5
        have HBX5 := Lib.hid hbx5
        have HGD5 := Lib.hid HPB4.out.gd.packed
        have hqq := HPB4.out.hq
        have z0 : w5.cell? ⟨q, 0, none⟩ = some (.slice B0 img.length d0) := (blk_cell hbx5 0).trans rfl
        have z1 : w5.cell? ⟨q, 1, none⟩ = some (.slice B1 l.length d1) := (blk_cell hbx5 1).trans rfl
        have f0 : w5.frozen? ⟨q, 0, none⟩ = false := blk_frozen hbx5 0
        have f1 : w5.frozen? ⟨q, 1, none⟩ = false := blk_frozen hbx5 1
        have hql5 : q < w5.heap.size := blk_lt hbx5
        clear hpr5 hbx5 hb5 hF5
        go_wp2_with fail
        go_roundw
        case rel => exact ⟨k + 1, g3, M3, vi3, B5, d5, B1, d1, packL l, l, by omega, by go_num, rfl, (Pb.put HPR5.out HBX5.out HGD5.out hqq)⟩
        case measure => simp [intOf]; omega
      · obtain ⟨n, hn⟩ : ∃ n, img.length = n := ⟨_, rfl⟩
        have HN := Lib.hid hn.symm
        have hroom := HPB.out.gd.room
        rw [hn] at hroom
        clear hn
        go_wp2_with fail
        refine at_world (fun W => Pb q w W g M vi B0 d0 B1 d1 img l) (HPB.out.below start_below) ?_
        rintro W hpb
        refine (st_image g M vi img l n HN W hpb.pr.st).mono ?_
        rintro e w2 ⟨rfl, rfl⟩
        have HPBW := Lib.hid hpb
        clear hpb
        go_wp2_with fail
        refine (open_any (some ⟨W.heap.size, 0, none⟩) n n img _ (u8row_C W img (by have := HN.out; omega)) HN (Nat.le_refl _) (by omega) HPBW.out.gd.bytes).mono ?_
        rintro e w3 ⟨hb3, hres⟩
        have hos : openS img = some (l, img.length) := by have := HPBW.out.gd.par.opens [] (.inl rfl); simpa using this
        rw [hos] at hres
        obtain ⟨g2, M2, vi2, rfl, lg2, lM2, lv2, hst2⟩ := hres
        rw [List.take_length] at hst2
        have hpb1 := HPBW.out.below (start_below (o := .cells (u8row img) 5))
        have hqW := blk_lt hpb1.bx
        have hlw := hpb1.pr.bel.size
        have hpr3 : Pair (fun k => k = q) w w3 g2 M2 vi2 B0 d0 B1 d1 img l := ⟨hst2.less (fun k e => by subst e; exact hqW), hpb1.pr.rf.swap hb3 lg2 lM2 lv2, (hpb1.below hb3).pr.bel, Nat.le_trans hlw lg2, Nat.le_trans hlw lM2, fun k e => Nat.le_trans hlw (lv2 k e)⟩
        have HPB3 := Lib.hid (show Pb q w w3 g2 M2 vi2 B0 d0 B1 d1 img l from ⟨hpr3, (hpb1.below hb3).bx, hpb1.gd, hpb1.hq⟩)
        clear hb3 hos lg2 lM2 lv2 hst2 hpb1 hqW hlw hpr3
        go_wp2_with fail
        go_roundw
        case rel => exact ⟨k + 1, g2, M2, vi2, B0, d0, B1, d1, img, l, by omega, by go_num, rfl, HPB3.out⟩
        case measure => simp [intOf]; omega
      · go_wp2_with fail
        refine at_world (fun W => Pb q w W g M vi B0 d0 B1 d1 img l) (HPB.out.below start_below) ?_
        rintro W hpb
        refine (alike_any g M vi img l B0 d0 B1 d1 _ W hpb.pr.st hpb.pr.rf _ _ (Lib.hid rfl) (Lib.hid rfl)).mono ?_
        rintro e W2 ⟨rfl, hb2⟩
        have HPB2 := Lib.hid (hpb.below hb2)
        clear hpb hb2
        go_wp2_with fail
        go_roundw
        case rel => exact ⟨k + 1, g, M, vi, B0, d0, B1, d1, img, l, by omega, by go_num, rfl, HPB2.out⟩
        case measure => simp [intOf]; omega
    · go_wp2_with fail
      refine (alike_any g M vi img l B0 d0 B1 d1 _ wr HPB.out.pr.st HPB.out.pr.rf _ _ (Lib.hid rfl) (Lib.hid rfl)).mono ?_
      rintro e W2 ⟨rfl, hb2⟩
      have HB2 := Lib.hid (HPB.out.pr.bel.trans (hb2.mono HPB.out.pr.bel.size))
      clear hb2
      go_wp2_with fail
      go_ret
      exact ⟨rfl, HB2.out⟩

end Go.Proofs.Ytcjniogdjbplbaa

/-! To3 -/
namespace Go.Proofs.Ytcjniogdjbplbaa
open Rdr Mem Go.RowKit Go.Proofs.YtcjniogdjbplbaaW.PrintWords Go.Proofs.YtcjniogdjbplbaaW.PrintLast Go.Proofs.YtcjniogdjbplbaaW.PrintMore PStorePlays

theorem RefSt.wide {q : Nat} {W : World} {g M : Nat} {vi : Value} {A0 : Option Addr} {c0 : Nat} {A1 : Option Addr} {c1 : Nat} {img : List Int} {l : List S99} (h : RefSt W (RX (fun k => k = q) g M vi) A0 c0 A1 c1 img l) : RefSt W (fun k => k ≠ q) A0 c0 A1 c1 img l :=
  ⟨Kd.F_mono h.fi (fun _ hk => hk.2), h.ci, Kd.F_mono h.fl (fun _ hk => hk.2), h.cl⟩
theorem RefSt.fresh {q : Nat} {w w' : World} {g M : Nat} {vi : Value} {A0 : Option Addr} {c0 : Nat} {A1 : Option Addr} {c1 : Nat} {img : List Int} {l : List S99} (h : RefSt w (fun k => k ≠ q) A0 c0 A1 c1 img l) (hb : Below w.heap.size w w') (h1 : w.heap.size ≤ g) (h2 : w.heap.size ≤ M) (h3 : ∀ k, vi.ownBlock = some k → w.heap.size ≤ k) : RefSt w' (RX (fun k => k = q) g M vi) A0 c0 A1 c1 img l := by
  have hk : ∀ k, (k ≠ q ∧ k < w.heap.size) → RX (fun k => k = q) g M vi k := fun k hk => ⟨⟨by omega, by omega, fun e => by have := h3 k e; omega⟩, hk.1⟩
  exact ⟨Kd.F_below (Kd.F_mono (Kd.F_bound h.fi) hk) hb, h.ci, Kd.F_below (Kd.F_mono (Kd.F_bound h.fl) hk) hb, h.cl⟩
theorem disk_fresh {q : Nat} {w w' : World} {g M : Nat} {vi : Value} {A : Option Addr} {ds : List Int} (h : Kd.F (Kd.int .u8) w (fun k => k ≠ q) A ds.length ds) (hb : Below w.heap.size w w') (h1 : w.heap.size ≤ g) (h2 : w.heap.size ≤ M) (h3 : ∀ k, vi.ownBlock = some k → w.heap.size ≤ k) : Kd.F (Kd.int .u8) w' (RX (fun k => k = q) g M vi) A ds.length ds := by
  have hk : ∀ k, (k ≠ q ∧ k < w.heap.size) → RX (fun k => k = q) g M vi k := fun k hk => ⟨⟨by omega, by omega, fun e => by have := h3 k e; omega⟩, hk.1⟩
  exact Kd.F_below (Kd.F_mono (Kd.F_bound h) hk) hb

theorem doS_at (op : Int) (img : List Int) (l : List S99) (s : ByteArray) (b : List Int) : (doS op img l s b).ms.length ≤ 2 ∧ ∀ x ∈ (doS op img l s b).ms, ∃ a : Nat, x.f0 = a ∧ a ≤ img.length ∧ x.f1.length ≤ 1048576 := by
  rcases doS_two op img l s b with ⟨e, _, _⟩ | ⟨k, r, _, e, _, hr⟩
  · rw [e]; simp
  · rw [e]
    refine ⟨by simp, fun x hx => ?_⟩
    simp only [List.mem_cons, List.not_mem_nil, or_false] at hx
    rcases hx with rfl | rfl
    · exact ⟨img.length, rfl, Nat.le_refl _, by simp; omega⟩
    · exact ⟨img.length, rfl, Nat.le_refl _, by simp⟩
theorem own_none {w : World} {base n c : Nat} {e : TypeId} {A : Option Addr} {xs : List Value} (h : w.ownsRow base e 1 (.slice A n c) n xs) (hA : A = none) : c = 0 := by
  subst hA
  rcases h.2 with ⟨e, _⟩ | ⟨g, cap, cur, e, _⟩
  · injection e
  · injection e with e; cases e
theorem op_cut (c : Int) (all : Nat) (h : all ≤ 4194304) : ∃ ct : Nat, wrap64 ((IntKind.u64.wrap c).tmod ((all : Int) + 1)) = ct ∧ ct ≤ all := by
  have h0 : 0 ≤ IntKind.u64.wrap c := by unfold IntKind.wrap; simp [IntKind.signed, IntKind.bits]; omega
  have h1 := Int.tmod_eq_emod_of_nonneg (b := (all : Int) + 1) h0
  have h2 := Int.emod_nonneg (IntKind.u64.wrap c) (show (all : Int) + 1 ≠ 0 by omega)
  have h3 := Int.emod_lt_of_pos (IntKind.u64.wrap c) (show (0 : Int) < (all : Int) + 1 by omega)
  refine ⟨(IntKind.u64.wrap c % ((all : Int) + 1)).toNat, by rw [h1]; unfold wrap64; omega, by omega⟩
theorem u64_small (all : Nat) (h : all ≤ 4194304) : IntKind.u64.wrap ((all : Int) + 1) = (all : Int) + 1 := by
  unfold IntKind.wrap
  simp [IntKind.signed, IntKind.bits]
  omega

/-- What there is behind a call: the state of ahead and that of behind, the disk, the writes. -/
structure Tn (q b2 : Nat) (w W : World) (B0 : Option Addr) (d0 : Nat) (B1 : Option Addr) (d1 : Nat) (img : List Int) (l : List S99) (B2 : Option Addr) (d2 : Nat) (B3 : Option Addr) (d3 : Nat) (img2 : List Int) (l2 : List S99) (D : Option Addr) (ds : List Int) (AL : Option Addr) (m : Nat) (ms : List S52) : Prop where
  old : RefSt W (fun k => k ≠ q) B0 d0 B1 d1 img l
  new : RefSt W (fun k => k ≠ q) B2 d2 B3 d3 img2 l2
  dk : Kd.F (Kd.int .u8) W (fun k => k ≠ q) D ds.length ds
  wr : Kd.C k52 W AL m ms
  bx : W.heap[q]? = some (.cells #[.slice B0 img.length d0, .slice B1 l.length d1] 29 (0, 0))
  yx : W.heap[b2]? = some (.cells #[.slice B2 img2.length d2, .slice B3 l2.length d3] 29 (0, 0))
  bel : Below w.heap.size w W
theorem Tn.step {q b2 : Nat} {w W W' : World} {B0 : Option Addr} {d0 : Nat} {B1 : Option Addr} {d1 : Nat} {img : List Int} {l : List S99} {B2 : Option Addr} {d2 : Nat} {B3 : Option Addr} {d3 : Nat} {img2 : List Int} {l2 : List S99} {D : Option Addr} {ds : List Int} {AL : Option Addr} {m : Nat} {ms : List S52} (h : Tn q b2 w W B0 d0 B1 d1 img l B2 d2 B3 d3 img2 l2 D ds AL m ms) (hb : Below W.heap.size W W') : Tn q b2 w W' B0 d0 B1 d1 img l B2 d2 B3 d3 img2 l2 D ds AL m ms :=
  ⟨h.old.below hb, h.new.below hb, Kd.F_below h.dk hb, Kd.C_below h.wr hb, (hb.block q (blk_lt h.bx)).trans h.bx, (hb.block b2 (blk_lt h.yx)).trans h.yx, h.bel.trans (hb.mono h.bel.size)⟩
/-- .. and behind the laying. -/
structure Td (q : Nat) (w W : World) (B0 : Option Addr) (d0 : Nat) (B1 : Option Addr) (d1 : Nat) (img : List Int) (l : List S99) (D : Option Addr) (ds : List Int) : Prop where
  rf : RefSt W (fun k => k ≠ q) B0 d0 B1 d1 img l
  bx : W.heap[q]? = some (.cells #[.slice B0 img.length d0, .slice B1 l.length d1] 29 (0, 0))
  dk : Kd.F (Kd.int .u8) W (fun k => k ≠ q) D ds.length ds
  bel : Below w.heap.size w W
theorem Td.step {q : Nat} {w W W' : World} {B0 : Option Addr} {d0 : Nat} {B1 : Option Addr} {d1 : Nat} {img : List Int} {l : List S99} {D : Option Addr} {ds : List Int} (h : Td q w W B0 d0 B1 d1 img l D ds) (hb : Below W.heap.size W W') : Td q w W' B0 d0 B1 d1 img l D ds :=
  ⟨h.rf.below hb, (hb.block q (blk_lt h.bx)).trans h.bx, Kd.F_below h.dk hb, h.bel.trans (hb.mono h.bel.size)⟩
theorem Td.put {q : Nat} {w W : World} {A0 : Option Addr} {c0 : Nat} {A1 : Option Addr} {c1 : Nat} {img0 : List Int} {l0 : List S99} {B0 : Option Addr} {d0 : Nat} {B1 : Option Addr} {d1 : Nat} {img : List Int} {l : List S99} {D : Option Addr} {ds : List Int} (h : Td q w W A0 c0 A1 c1 img0 l0 D ds) (hr : RefSt W (fun k => k ≠ q) B0 d0 B1 d1 img l) (hq : w.heap.size ≤ q) :
    Td q w ((W.setCell ⟨q, 0, none⟩ (.slice B0 img.length d0)).setCell ⟨q, 1, none⟩ (.slice B1 l.length d1)) B0 d0 B1 d1 img l D ds := by
  have hs : ∀ k, k ≠ q → ((W.setCell ⟨q, 0, none⟩ (.slice B0 img.length d0)).setCell ⟨q, 1, none⟩ (.slice B1 l.length d1)).heap[k]? = W.heap[k]? := fun k hk => by
    rw [Below.heap_setCell _ _ _ _ hk, Below.heap_setCell _ _ _ _ hk]
  exact ⟨hr.step (fun k ho _ => hs k ho), (blk_set ((blk_set h.bx 0 _).trans rfl) 1 _).trans rfl, Kd.F_step h.dk (fun k ho _ => hs k ho), (h.bel.setCell hq _).setCell hq _⟩

set_option maxHeartbeats 8000000 in
set_option maxRecDepth 100000 in
theorem torn_walk (S : Option Addr) (m cs : Nat) (CA : Option Addr) (cn cc : Nat) (cuts : List Int) (w : World) (hs : ScrAt w S m) (hm : m * 48 ≤ 140737488355000) (hcu : Kd.C (Kd.int .i64) w CA cuts.length cuts) (hcn : cn = cuts.length) (hcl : cn ≤ 140737488355000) :
    Calls Try.prog 6 #[.slice S m cs, .slice CA cn cc] w fun e w' => e = .returned (.bool true) ∧ Below w.heap.size w w' := by
  have HS := Lib.hid hs
  have HCU := Lib.hid hcu
  have HCN := Lib.hid hcn
  clear hs hcu hcn
  go_enter Try.func6, Try.ntmps6
  go_wp2_with fail
  refine (st_new w).mono ?_
  rintro e w1 ⟨rfl, hst, hb1⟩
  generalize hg0 : w.heap.size = g0 at *
  have HG0 := Lib.hid hg0
  obtain ⟨q, hq⟩ : ∃ q, w1.heap.size = q := ⟨_, rfl⟩
  have hgq : g0 + 1 < q := by rw [← hq]; exact blk_lt hst.blk
  have hsb : Below q w1 (w1.alloc (.cells #[.slice none 0 0, .slice none 0 0] 29)) := hq ▸ start_below
  have hpr : Pair (fun k => k = q) w (w1.alloc (.cells #[.slice none 0 0, .slice none 0 0] 29)) (g0 + 1) g0 (.slice none 0 0) none 0 none 0 [] [] := by
    refine ⟨(hst.shun hsb hq rfl).less (fun k e => .inr ⟨by omega, by simp; omega⟩), refSt_nil _ _, ?_, by omega, by omega, fun k e => by simp [Value.ownBlock] at e⟩
    rw [hg0]
    exact hb1.trans (hsb.mono (by omega))
  have hbx : (w1.alloc (.cells #[.slice none 0 0, .slice none 0 0] 29)).heap[q]? = some (.cells #[.slice none 0 0, .slice none 0 0] 29 (0, 0)) := by
    have := heap_alloc_new w1 (.cells #[.slice none 0 0, .slice none 0 0] 29)
    rwa [hq] at this
  have HPB := Lib.hid (show Pb q w (w1.alloc (.cells #[.slice none 0 0, .slice none 0 0] 29)) (g0 + 1) g0 (.slice none 0 0) none 0 none 0 [] [] from ⟨hpr, hbx, Good.nil, by omega⟩)
  clear hst hb1 hsb hpr hbx hg0
  go_wp2_with fail
  clear hq
  go_loopw [5, 7, 22] (fun s dv i wr => ∃ (k g M : Nat) (vi : Value) (B0 : Option Addr) (d0 : Nat) (B1 : Option Addr) (d1 : Nat) (img : List Int) (l : List S99) (D : Option Addr) (dn dc : Nat) (ds : List Int), k ≤ m ∧ i = .int .i64 k ∧ s = .pointer (some ⟨g, 0, none⟩) ∧ dv = .slice D dn dc ∧ dn = ds.length ∧ dn ≤ dc ∧ (D = none → dc = 0) ∧ Disk ds img ∧ Kd.F (Kd.int .u8) wr (RX (fun k => k = q) g M vi) D ds.length ds ∧ Pb q w wr g M vi B0 d0 B1 d1 img l) (fun _ _ i _ => m - (intOf i).toNat)
  case atStart => exact ⟨0, g0 + 1, g0, _, none, 0, none, 0, [], [], none, 0, 0, [], Nat.zero_le _, rfl, rfl, rfl, rfl, Nat.le_refl _, fun _ => rfl, Disk.nil, fun _ _ => Kd.C_nil _ _, HPB.out⟩
  case round =>
    clear HPB
    obtain ⟨k, g, M, vi, B0, d0, B1, d1, img, l, D, dn, dc, ds, hk, rfl, rfl, rfl, hdn, hdc, hd0, hdk, hdf, hpb⟩ := hrel
    have HPB := Lib.hid hpb
    have HDF := Lib.hid hdf
    have HDK := Lib.hid hdk
    have HDN := Lib.hid hdn
    have HD0 := Lib.hid hd0
    have x0 : wr.cell? ⟨q, 0, none⟩ = some (.slice B0 img.length d0) := (blk_cell hpb.bx 0).trans rfl
    have x1 : wr.cell? ⟨q, 1, none⟩ = some (.slice B1 l.length d1) := (blk_cell hpb.bx 1).trans rfl
    have hql : q < wr.heap.size := blk_lt hpb.bx
    clear hpb hdf hdk hdn hd0
    by_cases hlt : k < m
    · obtain ⟨ad, rfl, op, s, A2, n2, c2, bs, hit⟩ := HS.out k hlt
      have hit2 := hit.below HPB.out.pr.bel
      have i0 := hit2.c0
      have i1 := hit2.c1
      have i2 := hit2.c2
      have HIT := Lib.hid hit
      clear hit hit2
      obtain ⟨ov, hop, hov⟩ := op_two op
      have HOV := Lib.hid hov
      clear hov
      go_wp2_with fail
      refine at_world (fun W => Pb q w W g M vi B0 d0 B1 d1 img l ∧ Kd.F (Kd.int .u8) W (RX (fun k => k = q) g M vi) D ds.length ds) ⟨HPB.out.below start_below, Kd.F_below HDF.out start_below⟩ ?_
      rintro W ⟨hpb, hdf⟩
      have hrq := hpb.pr.st.box hpb.bx
      refine (do_any _ _ _ vi img l s A2 n2 c2 bs B0 d0 B1 d1 w W hpb.pr HIT.out.rd HIT.out.hn HIT.out.hc HIT.out.hc0 HIT.out.hl HIT.out.hs ov HOV.out).mono ?_
      rintro e W2 hdo
      obtain ⟨vi2, B2, d2, B3, d3, wl3, rfl, hpr2, hwr, hch⟩ := hpb.pr.next hdo
      have hbx2 := (hch.block q (blk_lt hpb.bx) (fun x => x hrq)).trans hpb.bx
      have hold := (hpb.pr.rf.step (w' := W2) (fun k ho hlt => hch.block k hlt (fun x => x ho.1))).wide
      have hdf1 := Kd.F_step (W1 := W2) hdf (fun k ho hlt => hch.block k hlt (fun x => x ho.1))
      have hdf2 : Kd.F (Kd.int .u8) W2 (fun k => k ≠ q) D ds.length ds := Kd.F_mono hdf1 (fun _ hk => hk.2)
      have hgd2 := hpb.gd.do_ ov s bs HIT.out.hbb
      have hqq := hpb.hq
      obtain ⟨hm2, hat2⟩ := doS_at ov img l s bs
      have htl := fun n hn => torn_law (n := n) HDK.out hgd2 hn
      obtain ⟨o2, ho2⟩ : ∃ o2, o2 = doS ov img l s bs := ⟨_, rfl⟩
      rw [← ho2] at hpr2 hgd2 hwr hm2 hat2
      simp only [← ho2] at htl
      rw [← ho2]
      obtain ⟨AL, cL, rfl, hcL, hCL⟩ := hwr.reads
      obtain ⟨ml, hml⟩ : ∃ ml, o2.ms.length = ml := ⟨_, rfl⟩
      rw [hml] at hm2 hcL hCL
      rw [hml]
      have HML := Lib.hid hml.symm
      have hq2 : q < W2.heap.size := blk_lt hbx2
      have hsb2 : Below W2.heap.size W2 (W2.alloc (.cells #[.slice B2 o2.img.length d2, .slice B3 o2.l.length d3] 29)) := start_below
      have htn : Tn q W2.heap.size w (W2.alloc (.cells #[.slice B2 o2.img.length d2, .slice B3 o2.l.length d3] 29)) B0 d0 B1 d1 img l B2 d2 B3 d3 o2.img o2.l D ds AL ml o2.ms :=
        ⟨hold.below hsb2, (hpr2.rf.wide).below hsb2, Kd.F_below hdf2 hsb2, Kd.C_below hCL hsb2, (hsb2.block q hq2).trans hbx2, heap_alloc_new _ _, hpr2.bel.trans (hsb2.mono hpr2.bel.size)⟩
      have HTN := Lib.hid htn
      have HGD1 := Lib.hid hpb.gd
      have HGD2 := Lib.hid hgd2
      have HTL := Lib.hid htl
      have HAT := Lib.hid hat2
      have htot : totS o2.ms ≤ 2097152 := by
        have := totS_le o2.ms (fun x hx => by obtain ⟨_, _, _, h⟩ := hat2 x hx; exact h)
        rw [hml] at this
        omega
      clear hpb hdf hdo hpr2 hwr hch hbx2 hold hdf1 hdf2 hgd2 hat2 htl ho2 hrq hCL hml hsb2 htn
      go_wp2_with fail
      generalize W2.heap.size = b2 at *
      refine at_world (fun W => Tn q b2 w W B0 d0 B1 d1 img l B2 d2 B3 d3 o2.img o2.l D ds AL ml o2.ms) HTN.out ?_
      rintro W htn
      refine (total_any AL ml cL o2.ms W htn.wr HML (by omega) (fun x hx => by obtain ⟨_, _, _, h⟩ := HAT.out x hx; exact h)).mono ?_
      rintro e W3 ⟨rfl, hb3⟩
      have HTN3 := Lib.hid (htn.step hb3)
      clear htn hb3 HTN
      obtain ⟨all, hall⟩ : ∃ all, totS o2.ms = all := ⟨_, rfl⟩
      rw [hall] at htot
      rw [hall]
      have HALL := Lib.hid hall
      clear hall
      have hlk : k ≤ 9223372036854775807 := by omega
      by_cases hkc : k < cn
      · obtain ⟨ca, rfl, hcell⟩ := C_int_cells HCU.out (by have := HCN.out; omega)
        have hlc : k < cuts.length := by rw [← HCN.out]; exact hkc
        have hy := hcell k (.int .i64 cuts[k]) (by simp [hlc])
        have y9 := old_cell HTN3.out.bel hy
        obtain ⟨ct, hct, hctl⟩ := op_cut cuts[k] all (by omega)
        have hu := u64_small all (by omega)
        generalize cuts[k] = cv at *
        clear hcell hy hlc
        go_wp2_with fail
        refine (lay_any D dn dc ds AL ml cL o2.ms ct W3 (by have := Kd.F_now HTN3.out.dk; exact this) HDN HD0.out (by have := HDK.out.len; have := HDN.out; omega) HTN3.out.wr HML (by omega) (fun x hx => by obtain ⟨a, e, h1, h2⟩ := HAT.out x hx; exact ⟨a, e, by have := HDK.out.ge; have := HDN.out; omega, h2⟩) (by omega)).mono ?_
        rintro e W5 ⟨⟨v5, rfl, ho5⟩, hb5⟩
        have hds := HTL.out ct (by have := HALL.out; omega)
        rw [HALL.out] at hds
        generalize layS ds o2.ms ct = d5 at *
        obtain ⟨n5, hn5⟩ : ∃ n5, d5.length = n5 := ⟨_, rfl⟩
        rw [hn5] at ho5
        obtain ⟨D5, c5, ev5, hc5, _⟩ := own_form ho5
        subst ev5
        have hq3 : q < W3.heap.size := blk_lt HTN3.out.bx
        have HTN5 := Lib.hid (HTN3.out.step hb5)
        have HC5 := Lib.hid (show n5 ≤ c5 ∧ (D5 = none → c5 = 0) from ⟨hc5, fun e => own_none ho5 e⟩)
        have hf5 : Kd.F (Kd.int .u8) W5 (fun k => k ≠ q) D5 d5.length d5 := by
          obtain ⟨A', c', ev', _, _, hF', _⟩ := own_F (ok := fun k => k ≠ q) ho5 (fun k hk => by omega)
          injection ev' with ev1 _ _
          subst ev1
          exact hF'
        have HTD := Lib.hid (show Td q w W5 B0 d0 B1 d1 img l D5 d5 from ⟨HTN5.out.old, HTN5.out.bx, hf5, HTN5.out.bel⟩)
        have HN5 := Lib.hid hn5.symm
        have z0 : W5.cell? ⟨q, 0, none⟩ = some (.slice B0 img.length d0) := (blk_cell HTN5.out.bx 0).trans rfl
        have z1 : W5.cell? ⟨q, 1, none⟩ = some (.slice B1 l.length d1) := (blk_cell HTN5.out.bx 1).trans rfl
        have z2 : W5.cell? ⟨b2, 0, none⟩ = some (.slice B2 o2.img.length d2) := (blk_cell HTN5.out.yx 0).trans rfl
        have z3 : W5.cell? ⟨b2, 1, none⟩ = some (.slice B3 o2.l.length d3) := (blk_cell HTN5.out.yx 1).trans rfl
        have f0 : W5.frozen? ⟨q, 0, none⟩ = false := blk_frozen HTN5.out.bx 0
        have f1 : W5.frozen? ⟨q, 1, none⟩ = false := blk_frozen HTN5.out.bx 1
        have hq5 : q < W5.heap.size := blk_lt HTN5.out.bx
        have hb25 : b2 < W5.heap.size := blk_lt HTN5.out.yx
        clear ho5 hb5 hn5 hf5 hc5 HTN3
        by_cases hca : ct = all
        · subst hca
          rw [if_pos rfl] at hds
          have HDS := Lib.hid hds
          clear hds
          go_wp2_with fail
          refine at_world (fun W => Td q w W B2 d2 B3 d3 o2.img o2.l D5 d5) (Td.put HTD.out HTN5.out.new hqq) ?_
          rintro W6 htd
          refine (clone_any D5 c5 n5 d5 W6 (by have := Kd.F_now htd.dk; exact this) HN5.out HC5.out.2 (by have := HDS.out.len; have := HN5.out; omega)).mono ?_
          rintro e W7 ⟨v7, rfl, ho7, hb7⟩
          obtain ⟨A7, c7, ev7, hn7, hc7, _, hC7⟩ := own_C8 ho7
          subst ev7
          rw [← HN5.out] at hc7
          rw [← HN5.out]
          have HTD7 := Lib.hid (htd.step hb7)
          have HC7 := Lib.hid hC7
          clear htd ho7 hb7 hn7 hC7
          go_wp2_with fail
          refine (open_any A7 n5 c7 d5 W7 HC7.out HN5 hc7 (by have := HDS.out.len; have := HN5.out; omega) HDS.out.bytes).mono ?_
          rintro e W8 ⟨hb8, hres⟩
          rw [HDS.out.opens HGD2.out] at hres
          obtain ⟨g8, M8, vi8, rfl, lg8, lM8, lv8, hst8⟩ := hres
          rw [HDS.out.take] at hst8
          have hq7 : q < W7.heap.size := blk_lt HTD7.out.bx
          have hlw := HTD7.out.bel.size
          have htd8 := HTD7.out.step hb8
          have hpr8 : Pair (fun k => k = q) w W8 g8 M8 vi8 B2 d2 B3 d3 o2.img o2.l := ⟨hst8.less (fun k e => by subst e; exact hq7), HTD7.out.rf.fresh hb8 lg8 lM8 lv8, htd8.bel, Nat.le_trans hlw lg8, Nat.le_trans hlw lM8, fun k e => Nat.le_trans hlw (lv8 k e)⟩
          have HPB8 := Lib.hid (show Pb q w W8 g8 M8 vi8 B2 d2 B3 d3 o2.img o2.l from ⟨hpr8, htd8.bx, HGD2.out, hqq⟩)
          have HDF8 := Lib.hid (disk_fresh (q := q) HTD7.out.dk hb8 lg8 lM8 lv8)
          have y0 : W8.cell? ⟨q, 0, none⟩ = some (.slice B2 (o2.img).length d2) := (blk_cell htd8.bx 0).trans rfl
          have y1 : W8.cell? ⟨q, 1, none⟩ = some (.slice B3 (o2.l).length d3) := (blk_cell htd8.bx 1).trans rfl
          clear hb8 lg8 lM8 lv8 hst8 hq7 hlw htd8 hpr8 HTD7 HC7
          go_wp2_with fail
          refine (alike_any g8 M8 vi8 o2.img o2.l B2 d2 B3 d3 _ W8 HPB8.out.pr.st HPB8.out.pr.rf _ _ (Lib.hid rfl) (Lib.hid rfl)).mono ?_
          rintro e W9 ⟨rfl, hb9⟩
          have HPB9 := Lib.hid (HPB8.out.below hb9)
          have HDF9 := Lib.hid (Kd.F_below HDF8.out hb9)
          clear hb9 HPB8 HDF8
          go_wp2_with fail
          go_roundw
          case rel => exact ⟨k + 1, g8, M8, vi8, B2, d2, B3, d3, o2.img, o2.l, D5, n5, c5, d5, by omega, by go_num, rfl, rfl, HN5.out, HC5.out.1, HC5.out.2, HDS.out, HDF9.out, HPB9.out⟩
          case measure => simp [intOf]; omega
        · rw [if_neg hca] at hds
          have HDS := Lib.hid hds
          have hci : ¬ ((ct : Int) = (all : Int)) := by omega
          clear hds
          go_wp2_with fail
          refine at_world (fun W => Td q w W B0 d0 B1 d1 img l D5 d5) HTD.out ?_
          rintro W6 htd
          refine (clone_any D5 c5 n5 d5 W6 (by have := Kd.F_now htd.dk; exact this) HN5.out HC5.out.2 (by have := HDS.out.len; have := HN5.out; omega)).mono ?_
          rintro e W7 ⟨v7, rfl, ho7, hb7⟩
          obtain ⟨A7, c7, ev7, hn7, hc7, _, hC7⟩ := own_C8 ho7
          subst ev7
          rw [← HN5.out] at hc7
          rw [← HN5.out]
          have HTD7 := Lib.hid (htd.step hb7)
          have HC7 := Lib.hid hC7
          clear htd ho7 hb7 hn7 hC7
          go_wp2_with fail
          refine (open_any A7 n5 c7 d5 W7 HC7.out HN5 hc7 (by have := HDS.out.len; have := HN5.out; omega) HDS.out.bytes).mono ?_
          rintro e W8 ⟨hb8, hres⟩
          rw [HDS.out.opens HGD1.out] at hres
          obtain ⟨g8, M8, vi8, rfl, lg8, lM8, lv8, hst8⟩ := hres
          rw [HDS.out.take] at hst8
          have hq7 : q < W7.heap.size := blk_lt HTD7.out.bx
          have hlw := HTD7.out.bel.size
          have htd8 := HTD7.out.step hb8
          have hpr8 : Pair (fun k => k = q) w W8 g8 M8 vi8 B0 d0 B1 d1 img l := ⟨hst8.less (fun k e => by subst e; exact hq7), HTD7.out.rf.fresh hb8 lg8 lM8 lv8, htd8.bel, Nat.le_trans hlw lg8, Nat.le_trans hlw lM8, fun k e => Nat.le_trans hlw (lv8 k e)⟩
          have HPB8 := Lib.hid (show Pb q w W8 g8 M8 vi8 B0 d0 B1 d1 img l from ⟨hpr8, htd8.bx, HGD1.out, hqq⟩)
          have HDF8 := Lib.hid (disk_fresh (q := q) HTD7.out.dk hb8 lg8 lM8 lv8)
          have y0 : W8.cell? ⟨q, 0, none⟩ = some (.slice B0 (img).length d0) := (blk_cell htd8.bx 0).trans rfl
          have y1 : W8.cell? ⟨q, 1, none⟩ = some (.slice B1 (l).length d1) := (blk_cell htd8.bx 1).trans rfl
          clear hb8 lg8 lM8 lv8 hst8 hq7 hlw htd8 hpr8 HTD7 HC7
          go_wp2_with fail
          refine (alike_any g8 M8 vi8 img l B0 d0 B1 d1 _ W8 HPB8.out.pr.st HPB8.out.pr.rf _ _ (Lib.hid rfl) (Lib.hid rfl)).mono ?_
          rintro e W9 ⟨rfl, hb9⟩
          have HPB9 := Lib.hid (HPB8.out.below hb9)
          have HDF9 := Lib.hid (Kd.F_below HDF8.out hb9)
          clear hb9 HPB8 HDF8
          go_wp2_with fail
          go_roundw
          case rel => exact ⟨k + 1, g8, M8, vi8, B0, d0, B1, d1, img, l, D5, n5, c5, d5, by omega, by go_num, rfl, rfl, HN5.out, HC5.out.1, HC5.out.2, HDS.out, HDF9.out, HPB9.out⟩
          case measure => simp [intOf]; omega
      · skip
        go_wp2_with fail
        refine (lay_any D dn dc ds AL ml cL o2.ms all W3 (by have := Kd.F_now HTN3.out.dk; exact this) HDN HD0.out (by have := HDK.out.len; have := HDN.out; omega) HTN3.out.wr HML (by omega) (fun x hx => by obtain ⟨a, e, h1, h2⟩ := HAT.out x hx; exact ⟨a, e, by have := HDK.out.ge; have := HDN.out; omega, h2⟩) (by omega)).mono ?_
        rintro e W5 ⟨⟨v5, rfl, ho5⟩, hb5⟩
        have hds := HTL.out all (by have := HALL.out; omega)
        rw [HALL.out] at hds
        generalize layS ds o2.ms all = d5 at *
        obtain ⟨n5, hn5⟩ : ∃ n5, d5.length = n5 := ⟨_, rfl⟩
        rw [hn5] at ho5
        obtain ⟨D5, c5, ev5, hc5, _⟩ := own_form ho5
        subst ev5
        have hq3 : q < W3.heap.size := blk_lt HTN3.out.bx
        have HTN5 := Lib.hid (HTN3.out.step hb5)
        have HC5 := Lib.hid (show n5 ≤ c5 ∧ (D5 = none → c5 = 0) from ⟨hc5, fun e => own_none ho5 e⟩)
        have hf5 : Kd.F (Kd.int .u8) W5 (fun k => k ≠ q) D5 d5.length d5 := by
          obtain ⟨A', c', ev', _, _, hF', _⟩ := own_F (ok := fun k => k ≠ q) ho5 (fun k hk => by omega)
          injection ev' with ev1 _ _
          subst ev1
          exact hF'
        have HTD := Lib.hid (show Td q w W5 B0 d0 B1 d1 img l D5 d5 from ⟨HTN5.out.old, HTN5.out.bx, hf5, HTN5.out.bel⟩)
        have HN5 := Lib.hid hn5.symm
        have z0 : W5.cell? ⟨q, 0, none⟩ = some (.slice B0 img.length d0) := (blk_cell HTN5.out.bx 0).trans rfl
        have z1 : W5.cell? ⟨q, 1, none⟩ = some (.slice B1 l.length d1) := (blk_cell HTN5.out.bx 1).trans rfl
        have z2 : W5.cell? ⟨b2, 0, none⟩ = some (.slice B2 o2.img.length d2) := (blk_cell HTN5.out.yx 0).trans rfl
        have z3 : W5.cell? ⟨b2, 1, none⟩ = some (.slice B3 o2.l.length d3) := (blk_cell HTN5.out.yx 1).trans rfl
        have f0 : W5.frozen? ⟨q, 0, none⟩ = false := blk_frozen HTN5.out.bx 0
        have f1 : W5.frozen? ⟨q, 1, none⟩ = false := blk_frozen HTN5.out.bx 1
        have hq5 : q < W5.heap.size := blk_lt HTN5.out.bx
        have hb25 : b2 < W5.heap.size := blk_lt HTN5.out.yx
        clear ho5 hb5 hn5 hf5 hc5 HTN3
        rw [if_pos rfl] at hds
        have HDS := Lib.hid hds
        clear hds
        go_wp2_with fail
        refine at_world (fun W => Td q w W B2 d2 B3 d3 o2.img o2.l D5 d5) (Td.put HTD.out HTN5.out.new hqq) ?_
        rintro W6 htd
        refine (clone_any D5 c5 n5 d5 W6 (by have := Kd.F_now htd.dk; exact this) HN5.out HC5.out.2 (by have := HDS.out.len; have := HN5.out; omega)).mono ?_
        rintro e W7 ⟨v7, rfl, ho7, hb7⟩
        obtain ⟨A7, c7, ev7, hn7, hc7, _, hC7⟩ := own_C8 ho7
        subst ev7
        rw [← HN5.out] at hc7
        rw [← HN5.out]
        have HTD7 := Lib.hid (htd.step hb7)
        have HC7 := Lib.hid hC7
        clear htd ho7 hb7 hn7 hC7
        go_wp2_with fail
        refine (open_any A7 n5 c7 d5 W7 HC7.out HN5 hc7 (by have := HDS.out.len; have := HN5.out; omega) HDS.out.bytes).mono ?_
        rintro e W8 ⟨hb8, hres⟩
        rw [HDS.out.opens HGD2.out] at hres
        obtain ⟨g8, M8, vi8, rfl, lg8, lM8, lv8, hst8⟩ := hres
        rw [HDS.out.take] at hst8
        have hq7 : q < W7.heap.size := blk_lt HTD7.out.bx
        have hlw := HTD7.out.bel.size
        have htd8 := HTD7.out.step hb8
        have hpr8 : Pair (fun k => k = q) w W8 g8 M8 vi8 B2 d2 B3 d3 o2.img o2.l := ⟨hst8.less (fun k e => by subst e; exact hq7), HTD7.out.rf.fresh hb8 lg8 lM8 lv8, htd8.bel, Nat.le_trans hlw lg8, Nat.le_trans hlw lM8, fun k e => Nat.le_trans hlw (lv8 k e)⟩
        have HPB8 := Lib.hid (show Pb q w W8 g8 M8 vi8 B2 d2 B3 d3 o2.img o2.l from ⟨hpr8, htd8.bx, HGD2.out, hqq⟩)
        have HDF8 := Lib.hid (disk_fresh (q := q) HTD7.out.dk hb8 lg8 lM8 lv8)
        have y0 : W8.cell? ⟨q, 0, none⟩ = some (.slice B2 (o2.img).length d2) := (blk_cell htd8.bx 0).trans rfl
        have y1 : W8.cell? ⟨q, 1, none⟩ = some (.slice B3 (o2.l).length d3) := (blk_cell htd8.bx 1).trans rfl
        clear hb8 lg8 lM8 lv8 hst8 hq7 hlw htd8 hpr8 HTD7 HC7
        go_wp2_with fail
        refine (alike_any g8 M8 vi8 o2.img o2.l B2 d2 B3 d3 _ W8 HPB8.out.pr.st HPB8.out.pr.rf _ _ (Lib.hid rfl) (Lib.hid rfl)).mono ?_
        rintro e W9 ⟨rfl, hb9⟩
        have HPB9 := Lib.hid (HPB8.out.below hb9)
        have HDF9 := Lib.hid (Kd.F_below HDF8.out hb9)
        clear hb9 HPB8 HDF8
        go_wp2_with fail
        go_roundw
        case rel => exact ⟨k + 1, g8, M8, vi8, B2, d2, B3, d3, o2.img, o2.l, D5, n5, c5, d5, by omega, by go_num, rfl, rfl, HN5.out, HC5.out.1, HC5.out.2, HDS.out, HDF9.out, HPB9.out⟩
        case measure => simp [intOf]; omega
    · go_wp2_with fail
      refine (alike_any g M vi img l B0 d0 B1 d1 _ wr HPB.out.pr.st HPB.out.pr.rf _ _ (Lib.hid rfl) (Lib.hid rfl)).mono ?_
      rintro e W2 ⟨rfl, hb2⟩
      have HB2 := Lib.hid (HPB.out.pr.bel.trans (hb2.mono HPB.out.pr.bel.size))
      clear hb2
      go_wp2_with fail
      go_ret
      exact ⟨rfl, HB2.out⟩

end Go.Proofs.Ytcjniogdjbplbaa

/-! TornRow -/
namespace Go.Proofs.Ytcjniogdjbplbaa.storeTorn
open Rd Go.ChangeShapes Go.WideShapes Go.ChangeAt Go.RowKit Go.Proofs.YtcjniogdjbplbaaW.PrintWords
set_option linter.unusedVariables false
theorem own : ownKnob Try.prog.godebug = none := by kernel_rfl
theorem laidOut : laidOutB Try.prog = true := by kernel_rfl
theorem bytes3 : Try.prog.bytesOf 3 = 8 := by kernel_rfl

set_option maxRecDepth 100000 in
theorem lifted (os : Os) (started : os.Started) (H : Type) (enc : TypeId × Value → H) (F : Stop.Interp) :
    ReturnsInHanded {} Try.checked os 6 .any ((Rows.OpenSpec.upto Rows.storeTornSpec).pre6 enc Try.prog Try.f6 Rows.storeTornUptoRow.domain false) (((Rows.OpenSpec.upto Rows.storeTornSpec).at F).post enc Try.prog Try.f6 false true false false) := by
  refine returnsInHanded_of_cond_sized (C := Try.checked) (s := Rows.OpenSpec.upto Rows.storeTornSpec) (k := Rows.uptoSmall) rfl own started (by kernel_rfl) Try.func6
    (OpenSpec.witness (enc := enc) (C := Try.checked) (s := Rows.OpenSpec.upto Rows.storeTornSpec) (k := Rows.uptoSmall) rfl false ⟨#[], #[.slice none 0 0, .slice none 0 0], []⟩ 8 (by kernel_rfl) (by kernel_rfl) (by kernel_rfl)
      (x := ([.nil, .nil], [], [])) (by kernel_rfl) rfl (by kernel_rfl)) ?_
  intro W base args ds gs before hval0 hW hcnd _ hsz0 _
  have hsz : (DataW.weightsEach Try.prog (Try.f6.params.toList ++ Rows.storeTornSpec.plain.varTypes Try.prog) (ds ++ gs)).all (· ≤ reachBytes) = true := hsz0
  have hval : ∀ (j : Nat) t v, Try.f6.params[j]? = some t → args[j]? = some v → Value.okWide Try.prog W .any base t v := hval0
  have hW' := hW
  obtain ⟨p, q, hA0, hV, rfl, hfz, hnd⟩ := hW
  have hA : DataW.TrodAll enc Try.prog W 0 (fun _ => true) true Try.f6.params.toList args.toList ds p := hA0
  rw [Try.params6] at hA hval hsz
  obtain ⟨v0, vs0, d0, ds0, p0, q0, hargs, rfl, rfl, h0, r0⟩ := trodAll_cons hA
  obtain ⟨v1, vs1, d1, ds1, p1, q1, rfl, rfl, rfl, h1, r1⟩ := trodAll_cons r0
  obtain ⟨rfl, rfl, rfl⟩ := trodAll_nil r1
  obtain rfl : args = #[v0, v1] := by cases args; simp_all
  obtain ⟨rfl, rfl⟩ := trodVars_none hV
  obtain ⟨a0, len0, cap0, rfl⟩ := okWide_slice Try.underlying22 (hval 0 22 v0 rfl rfl)
  have k0 := h0
  have lt0 : ∀ x ∈ p0, x.block < W.heap.size := by obtain ⟨m, hm⟩ := k0; exact DataW.trod_lt m _ _ _ hm
  obtain ⟨hs0, hm0⟩ := scr_of h0 (WOk.top hsz (j := 0) rfl rfl)
  obtain ⟨a1, len1, cap1, rfl⟩ := okWide_slice Try.underlying67 (hval 1 67 v1 rfl rfl)
  have k1 := h1
  have lt1 : ∀ x ∈ p1, x.block < W.heap.size := by obtain ⟨m, hm⟩ := k1; exact DataW.trod_lt m _ _ _ hm
  obtain ⟨xs1, hn1, hc1, hz1, hl1, hC1, hwf1⟩ := top_ints Try.underlying67 Try.underlying3 cells3 bytes3 h1 (WOk.top hsz (j := 1) rfl rfl)
  clear hA0 hval0 hsz0 hsz
  refine (torn_walk a0 len0 cap0 a1 len1 cap1 xs1 W hs0 (by omega) hC1 hn1 (by omega)).mono fun e W' ⟨he, bel⟩ => ?_
  subst he
  exact ⟨_, rfl, _, _, _, [], _, [], hW', trodAll_mk1 (shut_bool Try.underlying4 _), (trodAll_cons_mk (Below.trod laidOut (by kernel_rfl) (of_decide_eq_true (by kernel_rfl)) k0 bel lt0) (trodAll_cons_mk (Below.trod laidOut (by kernel_rfl) (of_decide_eq_true (by kernel_rfl)) k1 bel lt1) trodAll_mk0)), rfl, bel.frame _, fun h => by cases h⟩
theorem over : Rows.storeTornUptoRow.holds Try.pinned (Rows.OpenSpec.upto Rows.storeTornSpec) :=
  OpenClaim.holds_of_cond 6 Try.f6 rfl rfl rfl rfl rfl rfl rfl ⟨rfl, rfl, rfl, rfl, rfl⟩ rfl rfl rfl rfl rfl (by kernel_rfl) Try.func6 (by kernel_rfl)
    (of_decide_eq_true (by kernel_rfl)) (by unfold Func.isWrapper; first | (rw [if_pos (by decide +kernel)]; kernel_rfl) | (rw [if_neg (by decide +kernel)]; exact ⟨rfl, rfl⟩))
    (fun os started H enc _ F => lifted os started H enc F)
theorem proved : Rows.StoreTornUptoSaid := over
#print axioms proved
end Go.Proofs.Ytcjniogdjbplbaa.storeTorn
namespace Go.Proofs.Ytcjniogdjbplbaa
/-- The row, under a short name, for the claim. -/
theorem storeTorn_holds : Rows.StoreTornUptoSaid := storeTorn.proved
end Go.Proofs.Ytcjniogdjbplbaa
