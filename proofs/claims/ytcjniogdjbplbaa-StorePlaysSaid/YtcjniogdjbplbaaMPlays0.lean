/- StorePlays: whatever script: true; it is read behind the call as ahead of it. No condition. -/
import Derived.Test.YtcjniogdjbplbaaMA3
import Derived.Test.YtcjniogdjbplbaaRows
import Derived.Test.YtcjniogdjbplbaaMA1
/-! Py1 -/
namespace Go.Proofs.Ytcjniogdjbplbaa
open Rdr Mem Go.RowKit Go.Proofs.YtcjniogdjbplbaaW.PrintWords Go.Proofs.YtcjniogdjbplbaaW.PrintLast Go.Proofs.YtcjniogdjbplbaaW.PrintMore PStorePlays

theorem op_six (op : Int) : ∃ v, wrap64 ((IntKind.u64.wrap op).tmod 6) = v ∧ (v = 0 ∨ v = 1 ∨ v = 2 ∨ v = 3 ∨ v = 4 ∨ v = 5) := by
  have h0 : 0 ≤ IntKind.u64.wrap op := by unfold IntKind.wrap; simp [IntKind.signed, IntKind.bits]; omega
  have h1 := Int.tmod_eq_emod_of_nonneg (b := 6) h0
  refine ⟨IntKind.u64.wrap op % 6, by rw [h1]; unfold wrap64; omega, by omega⟩

/-- Where the box of the document's state lies. -/
theorem StAt.box {X : Nat → Prop} {w : World} {g M q : Nat} {vi : Value} {img : List Int} {l : List S99} {u v : Value} (h : StAt X w g M vi img l) (hb : w.heap[q]? = some (.cells #[u, v] 29 (0, 0))) : Rest g M vi q := by
  refine ⟨fun e => ?_, h.map.ne hb, own_ne h.own hb (by decide)⟩
  subst e
  have := h.blk.symm.trans hb
  injection this with this
  injection this with _ h2
  cases h2

/-- The pair and the box. -/
structure Pb (q : Nat) (w W : World) (g M : Nat) (vi : Value) (B0 : Option Addr) (d0 : Nat) (B1 : Option Addr) (d1 : Nat) (img : List Int) (l : List S99) : Prop where
  pr : Pair (fun k => k = q) w W g M vi B0 d0 B1 d1 img l
  bx : W.heap[q]? = some (.cells #[.slice B0 img.length d0, .slice B1 l.length d1] 29 (0, 0))
  gd : Good img l
  hq : w.heap.size ≤ q
theorem Pb.below {q : Nat} {w W W' : World} {g M : Nat} {vi : Value} {B0 : Option Addr} {d0 : Nat} {B1 : Option Addr} {d1 : Nat} {img : List Int} {l : List S99} (h : Pb q w W g M vi B0 d0 B1 d1 img l) (hb : Below W.heap.size W W') : Pb q w W' g M vi B0 d0 B1 d1 img l :=
  ⟨h.pr.below hb, (hb.block q (blk_lt h.bx)).trans h.bx, h.gd, h.hq⟩
/-- .. where a new state is put into the box. -/
theorem Pb.put {q : Nat} {w W : World} {g M : Nat} {vi : Value} {B0 : Option Addr} {d0 : Nat} {B1 : Option Addr} {d1 : Nat} {img : List Int} {l : List S99} {u v : Value} (h : Pair (fun k => k = q) w W g M vi B0 d0 B1 d1 img l) (hb : W.heap[q]? = some (.cells #[u, v] 29 (0, 0))) (hg : Good img l) (hq : w.heap.size ≤ q) :
    Pb q w ((W.setCell ⟨q, 0, none⟩ (.slice B0 img.length d0)).setCell ⟨q, 1, none⟩ (.slice B1 l.length d1)) g M vi B0 d0 B1 d1 img l :=
  ⟨h.step set2_chg (fun k e => by subst e; exact ⟨hq, h.st.box hb⟩), (blk_set ((blk_set hb 0 (.slice B0 img.length d0)).trans rfl) 1 (.slice B1 l.length d1)).trans rfl, hg, hq⟩

set_option maxHeartbeats 4000000 in
set_option maxRecDepth 100000 in
theorem plays_walk (S : Option Addr) (m cs : Nat) (w : World) (hs : ScrAt w S m) (hm : m * 48 ≤ 140737488355000) :
    Calls Try.prog 7 #[.slice S m cs] w fun e w' => e = .returned (.bool true) ∧ Below w.heap.size w w' := by
  have HS := Lib.hid hs
  clear hs
  go_enter Try.func7, Try.ntmps7
  go_wp2_with fail
  refine (st_new w).mono ?_
  rintro e w1 ⟨rfl, hst, hb1⟩
  generalize hg0 : w.heap.size = g0 at *
  have HG0 := Lib.hid hg0
  obtain ⟨q, hq⟩ : ∃ q, w1.heap.size = q := ⟨_, rfl⟩
  have hgq : g0 + 1 < q := by rw [← hq]; exact blk_lt hst.blk
  have hsb : Below q w1 (w1.alloc (.cells #[.slice none 0 0, .slice none 0 0] 29)) := hq ▸ start_below
  have hpr : Pair (fun k => k = q) w (w1.alloc (.cells #[.slice none 0 0, .slice none 0 0] 29)) (g0 + 1) g0 (.slice none 0 0) none 0 none 0 [] [] := by
    refine ⟨(hst.shun hsb hq rfl).less (fun k e => .inr ⟨by omega, by simp; omega⟩), refSt_nil _ _, ?_, by omega, by omega, fun k e => by simp [Value.ownBlock] at e⟩
    rw [hg0]
    exact hb1.trans (hsb.mono (by omega))
  have hbx : (w1.alloc (.cells #[.slice none 0 0, .slice none 0 0] 29)).heap[q]? = some (.cells #[.slice none 0 0, .slice none 0 0] 29 (0, 0)) := by
    have := heap_alloc_new w1 (.cells #[.slice none 0 0, .slice none 0 0] 29)
    rwa [hq] at this
  have HPB := Lib.hid (show Pb q w (w1.alloc (.cells #[.slice none 0 0, .slice none 0 0] 29)) (g0 + 1) g0 (.slice none 0 0) none 0 none 0 [] [] from ⟨hpr, hbx, Good.nil, by omega⟩)
  clear hst hb1 hsb hpr hbx hg0
  go_wp2_with fail
  clear hq
  refine (alike_any (g0 + 1) g0 (.slice none 0 0) [] [] none 0 none 0 _ _ HPB.out.pr.st HPB.out.pr.rf 0 0 (Lib.hid rfl) (Lib.hid rfl)).mono ?_
  rintro e w2 ⟨rfl, hb2⟩
  have HPB2 := Lib.hid (HPB.out.below hb2)
  clear HPB hb2
  go_wp2_with fail
  go_loopw [3, 24] (fun s i wr => ∃ (k g M : Nat) (vi : Value) (B0 : Option Addr) (d0 : Nat) (B1 : Option Addr) (d1 : Nat) (img : List Int) (l : List S99), k ≤ m ∧ i = .int .i64 k ∧ s = .pointer (some ⟨g, 0, none⟩) ∧ Pb q w wr g M vi B0 d0 B1 d1 img l) (fun _ i _ => m - (intOf i).toNat)
  case atStart => exact ⟨0, g0 + 1, g0, _, none, 0, none, 0, [], [], Nat.zero_le _, rfl, rfl, HPB2.out⟩
  case round =>
    clear HPB2
    obtain ⟨k, g, M, vi, B0, d0, B1, d1, img, l, hk, rfl, rfl, hpb⟩ := hrel
    have HPB := Lib.hid hpb
    have x0 : wr.cell? ⟨q, 0, none⟩ = some (.slice B0 img.length d0) := (blk_cell hpb.bx 0).trans rfl
    have x1 : wr.cell? ⟨q, 1, none⟩ = some (.slice B1 l.length d1) := (blk_cell hpb.bx 1).trans rfl
    have hql : q < wr.heap.size := blk_lt hpb.bx
    clear hpb
    by_cases hlt : k < m
    · obtain ⟨ad, rfl, op, s, A2, n2, c2, bs, hit⟩ := HS.out k hlt
      have hit2 := hit.below HPB.out.pr.bel
      have i0 := hit2.c0
      have i1 := hit2.c1
      have i2 := hit2.c2
      have HIT := Lib.hid hit
      clear hit hit2
      obtain ⟨ov, hop, hov⟩ := op_six op
      rcases hov with h | h | h | h | h | h <;> subst h
      · go_wp2_with fail
        refine at_world (fun W => Pb q w W g M vi B0 d0 B1 d1 img l) (HPB.out.below start_below) ?_
        rintro W hpb
        have hrq := hpb.pr.st.box hpb.bx
        refine (do_any _ _ _ vi img l s A2 n2 c2 bs B0 d0 B1 d1 w W hpb.pr HIT.out.rd HIT.out.hn HIT.out.hc HIT.out.hc0 HIT.out.hl HIT.out.hs 0 (.inl rfl)).mono ?_
        rintro e W2 hdo
        obtain ⟨vi2, B2, d2, B3, d3, wl3, rfl, hpr2, -, hch⟩ := hpb.pr.next hdo
        have hbx2 := (hch.block q (blk_lt hpb.bx) (fun x => x hrq)).trans hpb.bx
        have hgd2 := hpb.gd.do_ 0 s bs HIT.out.hbb
        have hqq := hpb.hq
        obtain ⟨o2, ho2⟩ : ∃ o2, o2 = doS 0 img l s bs := ⟨_, rfl⟩
        rw [← ho2] at hpr2 hgd2
        rw [← ho2]
        have HPR2 := Lib.hid hpr2
        have HBX3 := Lib.hid hbx2
        have HGD2 := Lib.hid hgd2
        have z0 : W2.cell? ⟨q, 0, none⟩ = some (.slice B0 img.length d0) := (blk_cell hbx2 0).trans rfl
        have z1 : W2.cell? ⟨q, 1, none⟩ = some (.slice B1 l.length d1) := (blk_cell hbx2 1).trans rfl
        have f0 : W2.frozen? ⟨q, 0, none⟩ = false := blk_frozen hbx2 0
        have f1 : W2.frozen? ⟨q, 1, none⟩ = false := blk_frozen hbx2 1
        have hql2 : q < W2.heap.size := blk_lt hbx2
        clear hpb hdo hpr2 hch hbx2 ho2 hgd2 hrq
        go_wp2_with fail
        go_roundw
        case rel => exact ⟨k + 1, g, M, vi2, B2, d2, B3, d3, o2.img, o2.l, by omega, by go_num, rfl, (Pb.put HPR2.out HBX3.out HGD2.out hqq).below start_below⟩
        case measure => simp [intOf]; omega
      · go_wp2_with fail
        refine at_world (fun W => Pb q w W g M vi B0 d0 B1 d1 img l) (HPB.out.below start_below) ?_
        rintro W hpb
        have hrq := hpb.pr.st.box hpb.bx
        refine (do_any _ _ _ vi img l s A2 n2 c2 bs B0 d0 B1 d1 w W hpb.pr HIT.out.rd HIT.out.hn HIT.out.hc HIT.out.hc0 HIT.out.hl HIT.out.hs 1 (.inr rfl)).mono ?_
        rintro e W2 hdo
        obtain ⟨vi2, B2, d2, B3, d3, wl3, rfl, hpr2, -, hch⟩ := hpb.pr.next hdo
        have hbx2 := (hch.block q (blk_lt hpb.bx) (fun x => x hrq)).trans hpb.bx
        have hgd2 := hpb.gd.do_ 1 s bs HIT.out.hbb
        have hqq := hpb.hq
        obtain ⟨o2, ho2⟩ : ∃ o2, o2 = doS 1 img l s bs := ⟨_, rfl⟩
        rw [← ho2] at hpr2 hgd2
        rw [← ho2]
        have HPR2 := Lib.hid hpr2
        have HBX3 := Lib.hid hbx2
        have HGD2 := Lib.hid hgd2
        have z0 : W2.cell? ⟨q, 0, none⟩ = some (.slice B0 img.length d0) := (blk_cell hbx2 0).trans rfl
        have z1 : W2.cell? ⟨q, 1, none⟩ = some (.slice B1 l.length d1) := (blk_cell hbx2 1).trans rfl
        have f0 : W2.frozen? ⟨q, 0, none⟩ = false := blk_frozen hbx2 0
        have f1 : W2.frozen? ⟨q, 1, none⟩ = false := blk_frozen hbx2 1
        have hql2 : q < W2.heap.size := blk_lt hbx2
        clear hpb hdo hpr2 hch hbx2 ho2 hgd2 hrq
        go_wp2_with fail
        go_roundw
        case rel => exact ⟨k + 1, g, M, vi2, B2, d2, B3, d3, o2.img, o2.l, by omega, by go_num, rfl, (Pb.put HPR2.out HBX3.out HGD2.out hqq).below start_below⟩
        case measure => simp [intOf]; omega
      · go_wp2_with fail
        refine at_world (fun W => Pb q w W g M vi B0 d0 B1 d1 img l ∧ W.heap[wr.heap.size]? = some (.cells #[.int .i64 op, .string s, .slice A2 n2 c2] 37 (0, 0))) ⟨HPB.out.below start_below, heap_alloc_new _ _⟩ ?_
        rintro W ⟨hpb, hbt⟩
        refine (get_any _ g M vi img l s W hpb.pr.st HIT.out.hs).mono ?_
        rintro e w7 ⟨hb7, A7, n7, c7, xs7, rfl, hC7, hn7, hc7, h47, hx7⟩
        have hpb7 := hpb.below hb7
        have hbt7 := (hb7.block _ (blk_lt hbt)).trans hbt
        have y0 : w7.cell? ⟨q, 0, none⟩ = some (.slice B0 img.length d0) := (blk_cell hpb7.bx 0).trans rfl
        have y1 : w7.cell? ⟨q, 1, none⟩ = some (.slice B1 l.length d1) := (blk_cell hpb7.bx 1).trans rfl
        have y2 : w7.cell? ⟨wr.heap.size, 1, none⟩ = some (.string s) := (blk_cell hbt7 1).trans rfl
        obtain ⟨ge, hge⟩ : ∃ ge, getE l s = ge := ⟨_, rfl⟩
        have HGE := Lib.hid hge
        rw [hge]
        have HPB7 := Lib.hid hpb7
        have HC7 := Lib.hid hC7
        have HN7 := Lib.hid hn7
        have HX7 := Lib.hid hx7
        clear hpb hbt hb7 hpb7 hbt7 hge hC7 hn7 hx7
        go_wp2_with fail
        refine (ref_get B0 img.length d0 B1 l.length d1 l s w7 (Kd.F_now HPB7.out.pr.rf.fl) HPB7.out.pr.rf.cl (Lib.hid rfl) HPB7.out.gd.few HPB7.out.gd.small).mono ?_
        rintro e w8 ⟨hb8, A8, n8, c8, xs8, rfl, hC8, hn8, hc8, h48, hx8⟩
        rw [← HX7.out] at hx8
        subst hx8
        rw [HGE.out]
        have HPB8 := Lib.hid (HPB7.out.below hb8)
        have HC78 := Lib.hid (Kd.C_below HC7.out hb8)
        have HC8 := Lib.hid hC8
        have HN8 := Lib.hid hn8
        clear hb8 hC8 hn8 HPB7 HC7
        go_wp2_with fail
        refine (equal_same A7 n7 c7 xs8 A8 n8 c8 w8 HC78.out HN7.out hc7 HC8.out HN8.out hc8 (by omega)).mono ?_
        rintro e wa ⟨rfl, ⟨ma, rfl⟩⟩
        go_wp2_with fail
        go_roundw
        case rel => exact ⟨k + 1, g, M, vi, B0, d0, B1, d1, img, l, by omega, by go_num, rfl, HPB8.out.below (pw_below_drewN (Below.refl _ _) _)⟩
        case measure => simp [intOf]; omega
      · go_wp2_with fail
        refine at_world (fun W => Pb q w W g M vi B0 d0 B1 d1 img l) (HPB.out.below start_below) ?_
        rintro W hpb
        refine (st_pack g M vi img l W hpb.pr.st hpb.gd).mono ?_
        rintro e w4 ⟨g3, M3, vi3, rfl, hnew⟩
        have hpb4 := hpb.below hnew.bel
        have hrf := hpb.pr.rf.swap hnew.bel hnew.lg hnew.lM hnew.lv
        have hqW := blk_lt hpb.bx
        have HST4 := Lib.hid (hnew.st.less (Y := fun k => k = q) (fun k e => by subst e; exact hqW))
        have hlw := hpb.pr.bel.size
        have HLW := Lib.hid (show w.heap.size ≤ g3 ∧ w.heap.size ≤ M3 ∧ ∀ k, vi3.ownBlock = some k → w.heap.size ≤ k from ⟨Nat.le_trans hlw hnew.lg, Nat.le_trans hlw hnew.lM, fun k e => Nat.le_trans hlw (hnew.lv k e)⟩)
        have HPB4 := Lib.hid hpb4
        have HRF := Lib.hid hrf
        have y0 : w4.cell? ⟨q, 0, none⟩ = some (.slice B0 img.length d0) := (blk_cell hpb4.bx 0).trans rfl
        have y1 : w4.cell? ⟨q, 1, none⟩ = some (.slice B1 l.length d1) := (blk_cell hpb4.bx 1).trans rfl
        have hql4 : q < w4.heap.size := blk_lt hpb4.bx
        have HOK := Lib.hid (show ∀ k, w4.heap.size ≤ k → RX (fun k => k = q) g3 M3 vi3 k from fun k hk => ⟨⟨by have := blk_lt HST4.out.blk; omega, by have := HST4.out.map.lt; omega, fun e => by have := (own_low HST4.out.own k e).2; omega⟩, by omega⟩)
        clear hpb hnew hpb4 hrf hqW hlw
        go_wp2_with fail
        refine (ref_pack B0 img.length d0 B1 l.length d1 l _ w4 HOK.out (Kd.F_now HRF.out.fl) HRF.out.cl (Lib.hid rfl) HPB4.out.gd.few HPB4.out.gd.small (by have := HPB4.out.gd.pack; have := HPB4.out.gd.room; omega)).mono ?_
        rintro e w5 ⟨⟨B5, d5, nn, rfl, hnn, hd5, hF5⟩, hb5⟩
        subst hnn
        have hpr5 : Pair (fun k => k = q) w w5 g3 M3 vi3 B5 d5 B1 d1 (packL l) l := ⟨HST4.out.step hb5, ⟨hF5, hd5, (HRF.out.below hb5).fl, HRF.out.cl⟩, (HPB4.out.below hb5).pr.bel, HLW.out.1, HLW.out.2.1, HLW.out.2.2⟩
        have hbx5 := (HPB4.out.below hb5).bx
        have HPR5 := Lib.hid hpr5
        have HBX5 := Lib.hid hbx5
        have HGD5 := Lib.hid HPB4.out.gd.packed
        have hqq := HPB4.out.hq
        have z0 : w5.cell? ⟨q, 0, none⟩ = some (.slice B0 img.length d0) := (blk_cell hbx5 0).trans rfl
        have z1 : w5.cell? ⟨q, 1, none⟩ = some (.slice B1 l.length d1) := (blk_cell hbx5 1).trans rfl
        have f0 : w5.frozen? ⟨q, 0, none⟩ = false := blk_frozen hbx5 0
        have f1 : w5.frozen? ⟨q, 1, none⟩ = false := blk_frozen hbx5 1
        have hql5 : q < w5.heap.size := blk_lt hbx5
        clear hpr5 hbx5 hb5 hF5
        go_wp2_with fail
        go_roundw
        case rel => exact ⟨k + 1, g3, M3, vi3, B5, d5, B1, d1, packL l, l, by omega, by go_num, rfl, (Pb.put HPR5.out HBX5.out HGD5.out hqq)⟩
        case measure => simp [intOf]; omega
      · obtain ⟨n, hn⟩ : ∃ n, img.length = n := ⟨_, rfl⟩
        have HN := Lib.hid hn.symm
        have hroom := HPB.out.gd.room
        rw [hn] at hroom
        clear hn
        go_wp2_with fail
        refine at_world (fun W => Pb q w W g M vi B0 d0 B1 d1 img l) (HPB.out.below start_below) ?_
        rintro W hpb
        refine (st_image g M vi img l n HN W hpb.pr.st).mono ?_
        rintro e w2 ⟨rfl, rfl⟩
        have HPBW := Lib.hid hpb
        clear hpb
        go_wp2_with fail
        refine (open_any (some ⟨W.heap.size, 0, none⟩) n n img _ (u8row_C W img (by have := HN.out; omega)) HN (Nat.le_refl _) (by omega) HPBW.out.gd.bytes).mono ?_
        rintro e w3 ⟨hb3, hres⟩
        have hos : openS img = some (l, img.length) := by have := HPBW.out.gd.par.opens [] (.inl rfl); simpa using this
        rw [hos] at hres
        obtain ⟨g2, M2, vi2, rfl, lg2, lM2, lv2, hst2⟩ := hres
        rw [List.take_length] at hst2
        have hpb1 := HPBW.out.below (start_below (o := .cells (u8row img) 5))
        have hqW := blk_lt hpb1.bx
        have hlw := hpb1.pr.bel.size
        have hpr3 : Pair (fun k => k = q) w w3 g2 M2 vi2 B0 d0 B1 d1 img l := ⟨hst2.less (fun k e => by subst e; exact hqW), hpb1.pr.rf.swap hb3 lg2 lM2 lv2, (hpb1.below hb3).pr.bel, Nat.le_trans hlw lg2, Nat.le_trans hlw lM2, fun k e => Nat.le_trans hlw (lv2 k e)⟩
        have HPB3 := Lib.hid (show Pb q w w3 g2 M2 vi2 B0 d0 B1 d1 img l from ⟨hpr3, (hpb1.below hb3).bx, hpb1.gd, hpb1.hq⟩)
        clear hb3 hos lg2 lM2 lv2 hst2 hpb1 hqW hlw hpr3
        go_wp2_with fail
        go_roundw
        case rel => exact ⟨k + 1, g2, M2, vi2, B0, d0, B1, d1, img, l, by omega, by go_num, rfl, HPB3.out⟩
        case measure => simp [intOf]; omega
      · go_wp2_with fail
        refine at_world (fun W => Pb q w W g M vi B0 d0 B1 d1 img l) (HPB.out.below start_below) ?_
        rintro W hpb
        refine (alike_any g M vi img l B0 d0 B1 d1 _ W hpb.pr.st hpb.pr.rf _ _ (Lib.hid rfl) (Lib.hid rfl)).mono ?_
        rintro e W2 ⟨rfl, hb2⟩
        have HPB2 := Lib.hid (hpb.below hb2)
        clear hpb hb2
        go_wp2_with fail
        go_roundw
        case rel => exact ⟨k + 1, g, M, vi, B0, d0, B1, d1, img, l, by omega, by go_num, rfl, HPB2.out⟩
        case measure => simp [intOf]; omega
    · go_wp2_with fail
      refine (alike_any g M vi img l B0 d0 B1 d1 _ wr HPB.out.pr.st HPB.out.pr.rf _ _ (Lib.hid rfl) (Lib.hid rfl)).mono ?_
      rintro e W2 ⟨rfl, hb2⟩
      have HB2 := Lib.hid (HPB.out.pr.bel.trans (hb2.mono HPB.out.pr.bel.size))
      clear hb2
      go_wp2_with fail
      go_ret
      exact ⟨rfl, HB2.out⟩

end Go.Proofs.Ytcjniogdjbplbaa

/-! PlaysRow -/
namespace Go.Proofs.Ytcjniogdjbplbaa.storePlays
open Rd Go.ChangeShapes Go.WideShapes Go.ChangeAt Go.RowKit Go.Proofs.YtcjniogdjbplbaaW.PrintWords
set_option linter.unusedVariables false
theorem own : ownKnob Try.prog.godebug = none := by kernel_rfl
theorem laidOut : laidOutB Try.prog = true := by kernel_rfl

set_option maxRecDepth 100000 in
theorem lifted (os : Os) (started : os.Started) (H : Type) (enc : TypeId × Value → H) :
    ReturnsInHanded {} Try.checked os 7 .any (Rows.storePlaysSpec.pre6 enc Try.prog Try.f7 Rows.storePlaysRow.domain false) (Rows.storePlaysSpec.post enc Try.prog Try.f7 false true false false) := by
  refine returnsInHanded_of_change_sized (C := Try.checked) own started (by kernel_rfl) Try.func7
    (ChangeSpec.witness6 (enc := enc) (C := Try.checked) false ⟨#[], #[.slice none 0 0], []⟩ 8 (by kernel_rfl) (by kernel_rfl) (by kernel_rfl) (by kernel_rfl)) ?_
  intro W base args ds gs before hval0 hW hcnd hsz0 _
  have hsz : (DataW.weightsEach Try.prog (Try.f7.params.toList ++ Rows.storePlaysSpec.plain.varTypes Try.prog) (ds ++ gs)).all (· ≤ reachBytes) = true := hsz0
  have hval : ∀ (j : Nat) t v, Try.f7.params[j]? = some t → args[j]? = some v → Value.okWide Try.prog W .any base t v := hval0
  have hW' := hW
  obtain ⟨p, q, hA0, hV, rfl, hfz, hnd⟩ := hW
  have hA : DataW.TrodAll enc Try.prog W 0 (fun _ => true) true Try.f7.params.toList args.toList ds p := hA0
  rw [Try.params7] at hA hval hsz
  obtain ⟨v0, vs0, d0, ds0, p0, q0, hargs, rfl, rfl, h0, r0⟩ := trodAll_cons hA
  obtain ⟨rfl, rfl, rfl⟩ := trodAll_nil r0
  obtain rfl : args = #[v0] := by cases args; simp_all
  obtain ⟨rfl, rfl⟩ := trodVars_none hV
  obtain ⟨a0, len0, cap0, rfl⟩ := okWide_slice Try.underlying22 (hval 0 22 v0 rfl rfl)
  have k0 := h0
  have lt0 : ∀ x ∈ p0, x.block < W.heap.size := by obtain ⟨m, hm⟩ := k0; exact DataW.trod_lt m _ _ _ hm
  obtain ⟨hs0, hm0⟩ := scr_of h0 (WOk.top hsz (j := 0) rfl rfl)
  clear hA0 hval0 hsz0 hsz
  refine (plays_walk a0 len0 cap0 W hs0 (by omega)).mono fun e W' ⟨he, bel⟩ => ?_
  subst he
  exact ⟨_, rfl, _, _, _, [], _, [], hW', trodAll_mk1 (shut_bool Try.underlying4 _), (trodAll_cons_mk (Below.trod laidOut (by kernel_rfl) (of_decide_eq_true (by kernel_rfl)) k0 bel lt0) trodAll_mk0), rfl, bel.frame _, fun h => by cases h⟩
theorem over : Rows.storePlaysRow.holds Try.pinned (OpenSpec.ofChange Rows.storePlaysSpec) :=
  OpenClaim.holds_of_wide 7 Try.f7 rfl rfl rfl rfl rfl rfl rfl ⟨rfl, rfl, rfl, rfl, rfl⟩ rfl rfl rfl rfl rfl (by kernel_rfl) Try.func7 (by kernel_rfl)
    (of_decide_eq_true (by kernel_rfl)) (by unfold Func.isWrapper; first | (rw [if_pos (by decide +kernel)]; kernel_rfl) | (rw [if_neg (by decide +kernel)]; exact ⟨rfl, rfl⟩))
    (fun os started H enc _ => lifted os started H enc)
theorem proved : Rows.StorePlaysSaid := over
#print axioms proved
end Go.Proofs.Ytcjniogdjbplbaa.storePlays
namespace Go.Proofs.Ytcjniogdjbplbaa
/-- The row, under a short name, for the claim. -/
theorem storePlays_holds : Rows.StorePlaysSaid := storePlays.proved
end Go.Proofs.Ytcjniogdjbplbaa
