/- The walk of StoreBack. -/
import Derived.Test.YtcjniogdjbplbaaMA2
import Derived.Outline
import Derived.Deep.RegionLaw
/-! Bk1 -/
namespace Go.Proofs.Ytcjniogdjbplbaa
open Rdr Mem Go.RowKit Go.Proofs.YtcjniogdjbplbaaW.PrintWords Go.Proofs.YtcjniogdjbplbaaW.PrintLast Go.Proofs.YtcjniogdjbplbaaW.PrintMore PStorePlays

/-- Three stores and the document's state. -/
structure Tri (q : Nat) (W : World) (g M : Nat) (vi : Value) (g2 M2 : Nat) (vi2 : Value) (g3 M3 : Nat) (vi3 : Value) (B0 : Option Addr) (d0 : Nat) (B1 : Option Addr) (d1 : Nat) (img : List Int) (l : List S99) : Prop where
  s : StAt (fun k => k = q) W g M vi img l
  t : StAt (fun _ => False) W g2 M2 vi2 img l
  p : StAt (fun _ => False) W g3 M3 vi3 (packL l) l
  rf : RefSt W (RX (fun k => k = q) g M vi) B0 d0 B1 d1 img l
  bx : W.heap[q]? = some (.cells #[.slice B0 img.length d0, .slice B1 l.length d1] 29 (0, 0))
theorem Tri.step {q : Nat} {W W' : World} {g M : Nat} {vi : Value} {g2 M2 : Nat} {vi2 : Value} {g3 M3 : Nat} {vi3 : Value} {B0 : Option Addr} {d0 : Nat} {B1 : Option Addr} {d1 : Nat} {img : List Int} {l : List S99} (h : Tri q W g M vi g2 M2 vi2 g3 M3 vi3 B0 d0 B1 d1 img l) (hb : Below W.heap.size W W') : Tri q W' g M vi g2 M2 vi2 g3 M3 vi3 B0 d0 B1 d1 img l :=
  ⟨h.s.step hb, h.t.step hb, h.p.step hb, h.rf.below hb, (hb.block q (blk_lt h.bx)).trans h.bx⟩
theorem Tri.cells {q : Nat} {W : World} {g M : Nat} {vi : Value} {g2 M2 : Nat} {vi2 : Value} {g3 M3 : Nat} {vi3 : Value} {B0 : Option Addr} {d0 : Nat} {B1 : Option Addr} {d1 : Nat} {img : List Int} {l : List S99} (h : Tri q W g M vi g2 M2 vi2 g3 M3 vi3 B0 d0 B1 d1 img l) : W.cell? ⟨q, 0, none⟩ = some (.slice B0 img.length d0) ∧ W.cell? ⟨q, 1, none⟩ = some (.slice B1 l.length d1) :=
  ⟨(blk_cell h.bx 0).trans rfl, (blk_cell h.bx 1).trans rfl⟩

/-- What a Get tells, in a row of its own. -/
def GotAt (w : World) (l : List S99) (s : ByteArray) (e : Ending) (w' : World) : Prop :=
  Below w.heap.size w w' ∧ ∃ A n c xs, e = .returned (.tuple #[.slice A n c, .int .i64 (getE l s)]) ∧ U8C w' A xs ∧ n = xs.length ∧ n ≤ c ∧ n ≤ 4096 ∧ xs = (look l s).getD []
theorem look_small {l : List S99} (hs : ∀ x ∈ l, x.f1.length ≤ 4096 ∧ isNameB x.f0 = true) {s : ByteArray} {xs : List Int} (h : look l s = some xs) : xs.length ≤ 4096 ∧ isNameB s = true := by
  induction l with
  | nil => simp [look, plc] at h
  | cons k l ih =>
    rw [look_cons] at h
    split at h
    · exact ih (fun x hx => hs x (by simp [hx])) h
    · split at h
      · rename_i e
        injection h with h
        have := hs k (by simp)
        subst h
        subst e
        exact this
      · cases h
theorem get_any (X : Nat → Prop) (g M : Nat) (vi : Value) (img : List Int) (l : List S99) (s : ByteArray) (w : World) (h : StAt X w g M vi img l) (hm : s.size ≤ maxLen) :
    Calls Try.prog 14 #[.pointer (some ⟨g, 0, none⟩), .string s] w fun e w' => GotAt w l s e w' := by
  cases hl : look l s with
  | none =>
    refine (Get_bad g M vi img l s w h hm (getE_none hl)).mono ?_
    rintro e w' ⟨rfl, ⟨m, rfl⟩⟩
    exact ⟨pw_below_drewN (Below.refl _ _) m, none, 0, 0, [], rfl, Kd.C_nil _ _, rfl, Nat.le_refl _, by omega, by rw [hl]; rfl⟩
  | some xs =>
    obtain ⟨h1, h2⟩ := look_small h.small hl
    refine (Get_ok g M vi img l s xs w h h2 hm hl (by omega)).mono ?_
    rintro e w' ⟨⟨b, rfl, _, hrow⟩, hb⟩
    have he : getE l s = 0 := by
      have h3 := look_some l s
      rw [hl] at h3
      unfold getE
      have h4 : (plc l s).2 = true := h3.symm
      simp [h2, h4]
    rw [← he]
    exact ⟨hb, _, _, _, xs, rfl, C_int_of_blk hrow (fun j x hj => u8row_at hj) (by omega), rfl, Nat.le_refl _, h1, by rw [hl]; rfl⟩

theorem names_len (l : List S99) : (l.map (fun k => Value.string k.f0)) = (l.map (·.f0)).map Value.string := by
  rw [List.map_map]; rfl
set_option maxHeartbeats 4000000 in
set_option maxRecDepth 100000 in
theorem back_walk (S : Option Addr) (m cs : Nat) (name : ByteArray) (w : World) (hs : ScrAt w S m) (hm : m * 48 ≤ 140737488355000) (hnm : name.size ≤ maxLen) :
    Calls Try.prog 8 #[.slice S m cs, .string name] w fun e w' => e = .returned (.bool true) ∧ Below w.heap.size w w' := by
  have HS := Lib.hid hs
  clear hs
  go_enter Try.func8, Try.ntmps8
  go_wp2_with fail
  refine (st_new w).mono ?_
  rintro e w1 ⟨rfl, hst, hb1⟩
  generalize hg0 : w.heap.size = g0 at *
  have HG0 := Lib.hid hg0
  obtain ⟨q, hq⟩ : ∃ q, w1.heap.size = q := ⟨_, rfl⟩
  have HQ := Lib.hid hq
  have hgq : g0 + 1 < q := by rw [← hq]; exact blk_lt hst.blk
  have hsb : Below q w1 (w1.alloc (.cells #[.slice none 0 0, .slice none 0 0] 29)) := hq ▸ start_below
  have hpr : Pair (fun k => k = q) w (w1.alloc (.cells #[.slice none 0 0, .slice none 0 0] 29)) (g0 + 1) g0 (.slice none 0 0) none 0 none 0 [] [] := by
    refine ⟨(hst.shun hsb hq rfl).less (fun k e => .inr ⟨by omega, by simp; omega⟩), refSt_nil _ _, ?_, by omega, by omega, fun k e => by simp [Value.ownBlock] at e⟩
    rw [hg0]
    exact hb1.trans (hsb.mono (by omega))
  have hbx : (w1.alloc (.cells #[.slice none 0 0, .slice none 0 0] 29)).heap[q]? = some (.cells #[.slice none 0 0, .slice none 0 0] 29 (0, 0)) := by
    have := heap_alloc_new w1 (.cells #[.slice none 0 0, .slice none 0 0] 29)
    rwa [hq] at this
  have HPR := Lib.hid hpr
  have HBX := Lib.hid hbx
  clear hst hb1 hsb hpr hbx hg0
  go_wp2_with fail
  clear hq
  go_loopw [25] (fun i wr => ∃ (k : Nat) (vi : Value) (B0 : Option Addr) (d0 : Nat) (B1 : Option Addr) (d1 : Nat) (img : List Int) (l : List S99), k ≤ m ∧ i = .int .i64 k ∧ Pair (fun k => k = q) w wr (g0 + 1) g0 vi B0 d0 B1 d1 img l ∧ wr.heap[q]? = some (.cells #[.slice B0 img.length d0, .slice B1 l.length d1] 29 (0, 0)) ∧ Good img l) (fun i _ => m - (intOf i).toNat)
  case atStart => exact ⟨0, _, none, 0, none, 0, [], [], Nat.zero_le _, rfl, HPR.out, HBX.out, Good.nil⟩
  case round =>
    clear HPR HBX
    obtain ⟨k, vi, B0, d0, B1, d1, img, l, hk, rfl, hpr, hbx, hgd⟩ := hrel
    have HPR := Lib.hid hpr
    have HBX := Lib.hid hbx
    have HGD := Lib.hid hgd
    have x0 : wr.cell? ⟨q, 0, none⟩ = some (.slice B0 img.length d0) := (blk_cell hbx 0).trans rfl
    have x1 : wr.cell? ⟨q, 1, none⟩ = some (.slice B1 l.length d1) := (blk_cell hbx 1).trans rfl
    have hql : q < wr.heap.size := blk_lt hbx
    clear hpr hbx hgd
    by_cases hlt : k < m
    · obtain ⟨ad, rfl, op, s, A2, n2, c2, bs, hit⟩ := HS.out k hlt
      have hit2 := hit.below HPR.out.bel
      have i0 := hit2.c0
      have i1 := hit2.c1
      have i2 := hit2.c2
      have HIT := Lib.hid hit
      clear hit hit2
      obtain ⟨ov, hop, hov⟩ := op_two op
      have HOV := Lib.hid hov
      clear hov
      go_wp2_with fail
      refine at_world (fun W => Pair (fun k => k = q) w W (g0 + 1) g0 vi B0 d0 B1 d1 img l ∧ W.heap[q]? = some (.cells #[.slice B0 img.length d0, .slice B1 l.length d1] 29 (0, 0))) ⟨HPR.out.below start_below, (Below.heap_alloc _ _ _ hql).trans HBX.out⟩ ?_
      rintro W ⟨hpr, hbx⟩
      have HBX2 := Lib.hid hbx
      have HRQ := Lib.hid (show Rest (g0 + 1) g0 vi q from ⟨by omega, by omega, fun e => own_ne hpr.st.own hbx (by decide) e⟩)
      refine (do_any _ _ _ vi img l s A2 n2 c2 bs B0 d0 B1 d1 w W hpr HIT.out.rd HIT.out.hn HIT.out.hc HIT.out.hc0 HIT.out.hl HIT.out.hs ov HOV.out).mono ?_
      rintro e W2 hdo
      obtain ⟨vi2, B2, d2, B3, d3, wl3, rfl, hpr2, -, hch⟩ := hpr.next hdo
      have hbx2 := (hch.block q (blk_lt hbx) (fun x => x HRQ.out)).trans hbx
      have hgd2 := HGD.out.do_ ov s bs HIT.out.hbb
      obtain ⟨o2, ho2⟩ : ∃ o2, o2 = doS ov img l s bs := ⟨_, rfl⟩
      rw [← ho2] at hpr2 hgd2
      rw [← ho2]
      have HPR2 := Lib.hid hpr2
      have HBX3 := Lib.hid hbx2
      have HGD2 := Lib.hid hgd2
      have z0 : W2.cell? ⟨q, 0, none⟩ = some (.slice B0 img.length d0) := (blk_cell hbx2 0).trans rfl
      have z1 : W2.cell? ⟨q, 1, none⟩ = some (.slice B1 l.length d1) := (blk_cell hbx2 1).trans rfl
      have f0 : W2.frozen? ⟨q, 0, none⟩ = false := blk_frozen hbx2 0
      have f1 : W2.frozen? ⟨q, 1, none⟩ = false := blk_frozen hbx2 1
      have hql2 : q < W2.heap.size := blk_lt hbx2
      clear hpr hbx hdo hpr2 hch hbx2 ho2 hgd2
      go_wp2_with fail
      go_roundw
      case rel =>
        have hg := HG0.out
        have hbx4 := (blk_set ((blk_set HBX3.out 0 (.slice B2 o2.img.length d2)).trans rfl) 1 (.slice B3 o2.l.length d3)).trans rfl
        refine ⟨k + 1, vi2, B2, d2, B3, d3, o2.img, o2.l, by omega, by go_num, ?_, (Below.heap_alloc _ _ q (by simpa [World.setCell] using hql2)).trans hbx4, HGD2.out⟩
        exact (Pair.step HPR2.out set2_chg (fun k e => ⟨by omega, by omega, by omega, fun e2 => own_ne HPR2.out.st.own HBX3.out (by decide) (e ▸ e2)⟩)).below start_below
      case measure => simp [intOf]; omega
    · have hroom := HGD.out.room
      have hpk := HGD.out.pack
      have HOS := Lib.hid (show openS img = some (l, img.length) by have := HGD.out.par.opens [] (.inl rfl); simpa using this)
      obtain ⟨n, hn⟩ : ∃ n, img.length = n := ⟨_, rfl⟩
      have HN := Lib.hid hn.symm
      obtain ⟨n3, hn3⟩ : ∃ n3, (packL l).length = n3 := ⟨_, rfl⟩
      have HN3 := Lib.hid hn3.symm
      rw [hn] at hroom x0 hpk
      rw [hn3] at hpk
      clear hn hn3 x0 x1
      go_wp2_with fail
      refine (st_image (g0 + 1) g0 vi img l n HN wr HPR.out.st).mono ?_
      rintro e w2 ⟨rfl, rfl⟩
      go_wp2_with fail
      refine (open_any (some ⟨wr.heap.size, 0, none⟩) n n img _ (u8row_C wr img (by have := HN.out; omega)) HN (Nat.le_refl _) (by omega) HGD.out.bytes).mono ?_
      rintro e w3 ⟨hb3, hres⟩
      rw [HOS.out] at hres
      obtain ⟨g2, M2, vi2, rfl, lg2, lM2, lv2, hst2⟩ := hres
      have hb03 := start_below.trans (hb3.mono (by simp))
      have HB03 := Lib.hid hb03
      have HST2 := Lib.hid hst2
      clear hb3 hst2 hb03
      go_wp2_with fail
      refine (st_pack (g0 + 1) g0 vi img l w3 (HPR.out.st.step HB03.out) HGD.out).mono ?_
      rintro e w4 ⟨g3, M3, vi3, rfl, hnew⟩
      have htri : Tri q w4 (g0 + 1) g0 vi g2 M2 vi2 g3 M3 vi3 B0 d0 B1 d1 img l := by
        have hb34 := hnew.bel
        refine ⟨(HPR.out.st.step HB03.out).step hb34, ?_, hnew.st.less (fun k e => e.elim), (HPR.out.rf.below HB03.out).below hb34, ?_⟩
        · have := HST2.out
          rw [List.take_length] at this
          exact (this.step hb34).less (fun k e => e.elim)
        · rw [hb34.block q (by have := HB03.out.size; omega), HB03.out.block q hql]; exact HBX.out
      have HTRI := Lib.hid htri
      have HB04 := Lib.hid (HPR.out.bel.trans ((HB03.out.trans (hnew.bel.mono HB03.out.size)).mono HPR.out.bel.size))
      have HLN := Lib.hid (names_len l)
      clear htri hnew HST2 lg2 lM2 lv2 HPR HBX HB03
      obtain ⟨xs, hxs⟩ : ∃ xs, xs = (look l name).getD [] := ⟨_, rfl⟩
      obtain ⟨ge, hge⟩ : ∃ ge, getE l name = ge := ⟨_, rfl⟩
      have HXS := Lib.hid hxs
      have HGE := Lib.hid hge
      clear hxs hge
      go_wp2_with fail
      refine (st_image g3 M3 vi3 (packL l) l n3 HN3 w4 HTRI.out.p).mono ?_
      rintro e w5 ⟨rfl, rfl⟩
      have HT5 := Lib.hid (HTRI.out.step (start_below (o := .cells (u8row (packL l)) 5)))
      go_wp2_with fail
      refine (st_image (g0 + 1) g0 vi img l n HN _ HT5.out.s).mono ?_
      rintro e w6 ⟨rfl, rfl⟩
      go_wp2_with fail
      refine at_world (fun W => Tri q W (g0 + 1) g0 vi g2 M2 vi2 g3 M3 vi3 B0 d0 B1 d1 img l ∧ Below w.heap.size w W) ⟨HT5.out.step start_below, HB04.out.trans ((start_below.trans (start_below.mono (by simp))).mono HB04.out.size)⟩ ?_
      rintro W ⟨ht, hbw⟩
      clear HTRI HT5 HB04
      refine (get_any _ _ _ vi img l name W ht.s hnm).mono ?_
      rintro e w7 ⟨hb7, A7, n7, c7, xs7, rfl, hC7, hn7, hc7, h47, hx7⟩
      rw [← HXS.out] at hx7
      subst hx7
      rw [HGE.out]
      have HT7 := Lib.hid (ht.step hb7)
      have HB7 := Lib.hid (hbw.trans (hb7.mono hbw.size))
      have HC7 := Lib.hid hC7
      have HN7 := Lib.hid hn7
      clear ht hbw hb7 hC7 hn7
      go_wp2_with fail
      refine (get_any _ _ _ vi2 img l name w7 HT7.out.t hnm).mono ?_
      rintro e w8 ⟨hb8, A8, n8, c8, xs8, rfl, hC8, hn8, hc8, h48, hx8⟩
      rw [← HXS.out] at hx8
      subst hx8
      rw [HGE.out]
      have HT8 := Lib.hid (HT7.out.step hb8)
      have HB8 := Lib.hid (HB7.out.trans (hb8.mono HB7.out.size))
      have HC78 := Lib.hid (Kd.C_below HC7.out hb8)
      have HC8 := Lib.hid hC8
      have HN8 := Lib.hid hn8
      clear hb8 hC8 hn8 HT7 HB7 HC7
      go_wp2_with fail
      refine (get_any _ _ _ vi3 (packL l) l name w8 HT8.out.p hnm).mono ?_
      rintro e w9 ⟨hb9, A9, n9, c9, xs9, rfl, hC9, hn9, hc9, h49, hx9⟩
      rw [← HXS.out] at hx9
      subst hx9
      rw [HGE.out]
      have HT9 := Lib.hid (HT8.out.step hb9)
      have HB9 := Lib.hid (HB8.out.trans (hb9.mono HB8.out.size))
      have HC79 := Lib.hid (Kd.C_below HC78.out hb9)
      have HC89 := Lib.hid (Kd.C_below HC8.out hb9)
      have HC9 := Lib.hid hC9
      have HN9 := Lib.hid hn9
      clear hb9 hC9 hn9 HT8 HB8 HC78 HC8
      go_wp2_with fail
      refine (equal_same A7 n7 c7 xs9 A8 n8 c8 w9 HC79.out HN7.out hc7 HC89.out HN8.out hc8 (by omega)).mono ?_
      rintro e wa ⟨rfl, ⟨ma, rfl⟩⟩
      go_wp2_with fail
      refine (equal_same A7 n7 c7 xs9 A9 n9 c9 (w9.drewN ma) (Kd.C_drewN HC79.out ma) HN7.out hc7 (Kd.C_drewN HC9.out ma) HN9.out hc9 (by omega)).mono ?_
      rintro e wb ⟨rfl, ⟨mb, rfl⟩⟩
      obtain ⟨y0, y1⟩ := HT9.out.cells
      rw [HN.out.symm] at y0
      go_wp2_with fail
      refine at_world (fun W => Tri q W (g0 + 1) g0 vi g2 M2 vi2 g3 M3 vi3 B0 d0 B1 d1 img l ∧ Below w.heap.size w W) ⟨HT9.out.step (pw_below_drewN (Below.refl _ _) _), pw_below_drewN HB9.out _⟩ ?_
      rintro Wa ⟨hta, hba⟩
      clear HT9 HB9 y0 y1 HC79 HC89 HC9
      refine (alike_any g2 M2 vi2 img l B0 d0 B1 d1 _ Wa hta.t hta.rf n l.length HN (Lib.hid rfl)).mono ?_
      rintro e Wb ⟨rfl, hbb⟩
      have HTb := Lib.hid (hta.step hbb)
      have HBb := Lib.hid (hba.trans (hbb.mono hba.size))
      clear hta hba hbb
      go_wp2_with fail
      refine (st_names g3 M3 vi3 (packL l) l Wb HTb.out.p).mono ?_
      rintro e Wc ⟨⟨vc, rfl, hoc⟩, hbc⟩
      rw [HLN.out] at hoc
      obtain ⟨Ac, cc, evc, hcc, _⟩ := own_form hoc
      subst evc
      have HTc := Lib.hid (HTb.out.step hbc)
      have HBc := Lib.hid (HBb.out.trans (hbc.mono HBb.out.size))
      have HOc := Lib.hid hoc
      clear hoc hbc HTb HBb
      go_wp2_with fail
      refine (st_names (g0 + 1) g0 vi img l Wc HTc.out.s).mono ?_
      rintro e Wd ⟨⟨vd, rfl, hod⟩, hbd⟩
      rw [HLN.out] at hod
      obtain ⟨Ad, cd, evd, hcd, _⟩ := own_form hod
      subst evd
      have hocd := own_step HOc.out (fun k hk => hbd.block k (own_low HOc.out k hk).2)
      have HTd := Lib.hid (HTc.out.step hbd)
      have HBd := Lib.hid (HBc.out.trans (hbd.mono HBc.out.size))
      have HEQ := Lib.hid (equal_names Ac l.length cc Ad cd (l.map (·.f0)) Wd _ _ hocd hod (by have := HTd.out.s.few; omega))
      clear hod hocd hbd HTc HBc HOc
      go_wp2_with fail
      refine HEQ.out.mono ?_
      rintro e We ⟨rfl, ⟨me, rfl⟩⟩
      obtain ⟨y0, y1⟩ := HTd.out.cells
      rw [HN.out.symm] at y0
      go_wp2_with fail
      refine at_world (fun W => Tri q W (g0 + 1) g0 vi g2 M2 vi2 g3 M3 vi3 B0 d0 B1 d1 img l ∧ Below w.heap.size w W) ⟨HTd.out.step (pw_below_drewN (Below.refl _ _) _), pw_below_drewN HBd.out _⟩ ?_
      rintro Wf ⟨htf, hbf⟩
      clear HTd HBd HEQ y0 y1
      refine (alike_any (g0 + 1) g0 vi img l B0 d0 B1 d1 _ Wf htf.s htf.rf n l.length HN (Lib.hid rfl)).mono ?_
      rintro e Wg ⟨rfl, hbg⟩
      have HBg := Lib.hid (hbf.trans (hbg.mono hbf.size))
      clear htf hbf hbg
      go_wp2_with fail
      go_ret
      exact ⟨rfl, HBg.out⟩

end Go.Proofs.Ytcjniogdjbplbaa

/-! Rg1 -/
namespace Go.Proofs.Ytcjniogdjbplbaa
open Rdr Mem Go.RowKit Go.Proofs.YtcjniogdjbplbaaW.PrintWords Go.Proofs.YtcjniogdjbplbaaW.PrintLast Go.Proofs.YtcjniogdjbplbaaW.PrintMore PStorePlays

theorem RefSt.swap {X : Nat → Prop} {w w' : World} {g M g2 M2 : Nat} {vi vi2 : Value} {A0 : Option Addr} {c0 : Nat} {A1 : Option Addr} {c1 : Nat} {img : List Int} {l : List S99} (h : RefSt w (RX X g M vi) A0 c0 A1 c1 img l) (hb : Below w.heap.size w w') (h1 : w.heap.size ≤ g2) (h2 : w.heap.size ≤ M2) (h3 : ∀ k, vi2.ownBlock = some k → w.heap.size ≤ k) : RefSt w' (RX X g2 M2 vi2) A0 c0 A1 c1 img l := by
  have hk : ∀ k, (RX X g M vi k ∧ k < w.heap.size) → RX X g2 M2 vi2 k := fun k hk => ⟨⟨by omega, by omega, fun e => by have := h3 k e; omega⟩, hk.1.2⟩
  exact ⟨Kd.F_below (Kd.F_mono (Kd.F_bound h.fi) hk) hb, h.ci, Kd.F_below (Kd.F_mono (Kd.F_bound h.fl) hk) hb, h.cl⟩

theorem look_get {l : List S99} {s : ByteArray} (h : (plc l s).2 = true) : ∃ k, l[(plc l s).1]? = some k ∧ look l s = some k.f1 := by
  have h2 := plc_lt l s h
  refine ⟨l[(plc l s).1], List.getElem?_eq_getElem h2, ?_⟩
  unfold look
  rw [if_pos h, List.getElem?_eq_getElem h2]
  rfl

set_option maxHeartbeats 4000000 in
set_option maxRecDepth 100000 in
theorem ref_get (A0 : Option Addr) (n0 c0 : Nat) (A1 : Option Addr) (n1 c1 : Nat) (l : List S99) (s : ByteArray) (w : World) (hl : Kd.C k99 w A1 l.length l) (hc : l.length ≤ c1) (hn1 : Hid (n1 = l.length)) (h16 : n1 ≤ 16) (hsm : ∀ x ∈ l, x.f1.length ≤ 4096 ∧ isNameB x.f0 = true) :
    Calls Try.prog 28 #[.agg #[.slice A0 n0 c0, .slice A1 n1 c1], .string s] w fun e w' => GotAt w l s e w' := by
  have hcall := fun W : World => ref_isName_calls s W
  have HL := Lib.hid hl
  have HSM := Lib.hid hsm
  have HP := fun (W : World) (h : Kd.C k99 W A1 l.length l) => place_any A1 c1 l s W h hc n1 hn1 (by omega)
  clear hl hsm
  by_cases hs : isNameB s = false
  · rw [hs] at hcall
    have he : getE l s = 6 := by unfold getE; rw [if_pos hs]
    have hlk : look l s = none := by
      cases h : look l s with
      | none => rfl
      | some xs => have := (look_small HSM.out h).2; rw [hs] at this; cases this
    have HE := Lib.hid he
    have HLK := Lib.hid hlk
    clear hs he hlk HP
    go_enter Try.func28, Try.ntmps28
    go_wp2_with (first | (go_at_call 39; refine (hcall _).mono ?_; rintro e w' ⟨rfl, ⟨nq, rfl⟩⟩))
    go_ret2
    refine ⟨pw_below_drewN start_below nq, none, 0, 0, [], by rw [HE.out]; rfl, Kd.C_nil _ _, rfl, Nat.le_refl _, by omega, by rw [HLK.out]; rfl⟩
  · have hs' : isNameB s = true := by simpa using hs
    rw [hs'] at hcall
    by_cases ht : (plc l s).2 = false
    · rw [ht] at HP
      have he : getE l s = 211 := by unfold getE; rw [if_neg hs, if_pos ht]
      have hlk : look l s = none := by
        have := look_some l s
        rw [ht] at this
        simpa using this
      have HE := Lib.hid he
      have HLK := Lib.hid hlk
      clear hs hs' he hlk ht
      go_enter Try.func28, Try.ntmps28
      go_wp2_with (first | (go_at_call 39; refine (hcall _).mono ?_; rintro e w' ⟨rfl, ⟨nq, rfl⟩⟩) | (go_at_call 40; refine (HP _ (Kd.C_below HL.out (pw_below_drewN start_below _))).mono ?_; rintro e w' ⟨rfl, ⟨np, rfl⟩⟩))
      go_ret2
      refine ⟨pw_below_drewN start_below _, none, 0, 0, [], by rw [HE.out]; rfl, Kd.C_nil _ _, rfl, Nat.le_refl _, by omega, by rw [HLK.out]; rfl⟩
    · have ht' : (plc l s).2 = true := by simpa using ht
      rw [ht'] at HP
      have he : getE l s = 0 := by unfold getE; rw [if_neg hs, if_neg ht]
      obtain ⟨k, hk, hlk⟩ := look_get ht'
      have hlt := plc_lt l s ht'
      obtain ⟨ad, Ak, ck, ea, e0, e1, hck, hCk⟩ := at_T99 HL.out ((plc l s).1 : Int) (by omega) (by omega)
      have er : rd_T99 l ((plc l s).1 : Int) = k := by simp [rd_T99, hk]
      rw [er] at e0 e1 hck hCk
      rw [Int.toNat_natCast] at e0 e1
      subst ea
      have HE := Lib.hid he
      have HLK := Lib.hid hlk
      have HCK := Lib.hid hCk
      have HSK := Lib.hid (look_small HSM.out hlk).1
      have hi1 : ((plc l s).1 : Int) < n1 := by have := hn1.out; omega
      have hab : (ad.add ((plc l s).1 * 2)).block < w.heap.size := World.block_lt_of_cell? _ _ e0
      obtain ⟨nk, hnk⟩ : ∃ nk, k.f1.length = nk := ⟨_, rfl⟩
      rw [hnk] at e1 hck
      have HNK := Lib.hid hnk.symm
      have y1 : (w.alloc (.cells #[.slice A0 n0 c0, .slice (some ad) n1 c1] 29)).cell? ⟨(ad.add ((plc l s).1 * 2)).block, (ad.add ((plc l s).1 * 2)).off + 1, none⟩ = some (.slice Ak nk ck) := by
        exact (World.cell?_alloc_lt _ _ _ (by exact hab)).trans e1
      clear hs hs' he hlk ht ht' hk er hCk hnk e0 e1
      generalize (plc l s).1 = p at *
      go_enter Try.func28, Try.ntmps28
      go_wp2_with (first | (go_at_call 39; refine (hcall _).mono ?_; rintro e w' ⟨rfl, ⟨nq, rfl⟩⟩) | (go_at_call 40; refine (HP _ (Kd.C_below HL.out (pw_below_drewN start_below _))).mono ?_; rintro e w' ⟨rfl, ⟨np, rfl⟩⟩))
      go_ret2
      refine ⟨pw_below_drewN start_below _, Ak, nk, ck, k.f1, by rw [HE.out]; rfl, Kd.C_below HCK.out (pw_below_drewN start_below _), HNK.out, hck, by have := HSK.out; have := HNK.out; omega, by rw [HLK.out]; rfl⟩

end Go.Proofs.Ytcjniogdjbplbaa

/-! Rg2 -/
namespace Go.Proofs.Ytcjniogdjbplbaa
open Rdr Mem Go.RowKit Go.Proofs.YtcjniogdjbplbaaW.PrintWords Go.Proofs.YtcjniogdjbplbaaW.PrintLast Go.Proofs.YtcjniogdjbplbaaW.PrintMore PStorePlays

/-- The boxes: the parameter, the result, what is built. -/
structure PBx (W : World) (b : Nat) (u v : Value) : Prop where
  b1 : W.heap[b + 1]? = some (.cells #[.slice none 0 0, .slice none 0 0] 29 (0, 0))
  b2 : W.heap[b + 1 + 1]? = some (.cells #[u, v] 29 (0, 0))
theorem PBx.step {W W' : World} {b : Nat} {u v : Value} (h : PBx W b u v) (hb : Below (b + 3) W W') : PBx W' b u v :=
  ⟨(hb.block _ (by omega)).trans h.b1, (hb.block _ (by omega)).trans h.b2⟩

theorem packL_take (l : List S99) (k : Nat) : (packL (l.take k)).length ≤ (packL l).length := by
  have e := List.take_append_drop k l
  have h1 : (packL l).length = (packL (l.take k)).length + (packL (l.drop k)).length := by
    conv => lhs; rw [← e]
    rw [packL_app, List.length_append]
  omega
theorem rec_C {w : World} {A : Option Addr} {s : ByteArray} {b : List Int} (h : U8C w A (1 :: (recB 1 s b).tail)) : U8C w A (recB 1 s b) := by
  rwa [← (recB_head 1 s b).1] at h
theorem pack_own {w w' : World} {b m0 : Nat} {v : Value} {xs : List Int} (h : w.ownsRow b 5 1 v xs.length (nums8 xs)) (hm : xs.length = m0) (hb : Below w.heap.size w w') : w'.ownsRow b 5 1 v m0 (nums8 xs) :=
  hm ▸ own_step h (fun k hk => hb.block k (own_low h k hk).2)
theorem pack_after {w w' : World} {b m0 : Nat} {u v x : Value} {xs : List Value} (h : PBx w b u v) (ho : w.ownsRow (b + 3) 5 1 x m0 xs) (hg : w.grownBy w' x.ownBlock) : PBx w' b u v :=
  h.step ⟨hg.os, hg.tape, hg.output, hg.size, fun k hk => by
    by_cases hlt : k < w.heap.size
    · exact hg.block k hlt (fun e => by have := (own_low ho k e.symm).1; omega)
    · have := blk_lt h.b2; omega⟩

theorem set2_same' {w : World} {b k : Nat} {p q : Value} (h : k ≠ b) : ((w.setCell ⟨b, 0, none⟩ p).setCell ⟨b, 1, none⟩ q).heap[k]? = w.heap[k]? := by
  rw [Below.heap_setCell _ _ _ _ h, Below.heap_setCell _ _ _ _ h]
theorem pack_set {W : World} {b : Nat} {u v x : Value} (h : PBx W b u v) : PBx (W.setCell ⟨b + 1 + 1, 0, none⟩ x) b x v :=
  ⟨(Below.heap_setCell _ _ _ _ (by simp)).trans h.b1, (blk_set h.b2 0 x).trans rfl⟩

set_option maxHeartbeats 4000000 in
set_option maxRecDepth 100000 in
theorem ref_pack (A0 : Option Addr) (n0 c0 : Nat) (A1 : Option Addr) (n1 c1 : Nat) (l : List S99) (ok : Nat → Prop) (w : World) (hok : ∀ k, w.heap.size ≤ k → ok k) (hl : Kd.C k99 w A1 l.length l) (_ : l.length ≤ c1) (hn1 : Hid (n1 = l.length)) (h16 : n1 ≤ 16) (hsm : ∀ x ∈ l, x.f1.length ≤ 4096 ∧ isNameB x.f0 = true) (hpk : (packL l).length ≤ 1048576) :
    Calls Try.prog 30 #[.agg #[.slice A0 n0 c0, .slice A1 n1 c1]] w fun e w' => (∃ B d nn, e = .returned (.agg #[.slice B nn d, .slice A1 n1 c1]) ∧ nn = (packL l).length ∧ nn ≤ d ∧ Kd.F (Kd.int .u8) w' ok B (packL l).length (packL l)) ∧ Below w.heap.size w w' := by
  have HL := Lib.hid hl
  have HSM := Lib.hid hsm
  have HOK := Lib.hid hok
  have HPK := Lib.hid hpk
  clear hl hsm hok hpk
  go_enter Try.func30, Try.ntmps30
  go_wp2_with fail
  generalize hb : w.heap.size = b at *
  have HB := Lib.hid hb
  refine wp_world (fun W => PBx W b (.slice none 0 0) (.slice A1 n1 c1) ∧ Below b w W ∧ b + 3 ≤ W.heap.size) ⟨⟨?_, ?_⟩, hb ▸ start3, by simp [hb]⟩ ?_
  · rw [Below.heap_alloc _ _ _ (by simp [hb])]
    have := heap_alloc_new (w.alloc (.cells #[.slice A0 n0 c0, .slice A1 n1 c1] 29)) (.cells #[.slice none 0 0, .slice none 0 0] 29)
    simpa [hb] using this
  · have := heap_alloc_new ((w.alloc (.cells #[.slice A0 n0 c0, .slice A1 n1 c1] 29)).alloc (.cells #[.slice none 0 0, .slice none 0 0] 29)) (.cells #[.slice none 0 0, .slice A1 n1 c1] 29)
    simpa [hb] using this
  clear hb
  rintro W ⟨hpb, hbw, hsz⟩
  have HPB := Lib.hid hpb
  have HBW := Lib.hid hbw
  have HSZ := Lib.hid hsz
  clear hpb hbw hsz
  have hn9 : n1 ≤ 9223372036854775807 := by omega
  go_loopw [12] (fun i wr => ∃ (k : Nat) (v : Value), k ≤ n1 ∧ i = .int .i64 k ∧ PBx wr b v (.slice A1 n1 c1) ∧ Below b w wr ∧ b + 3 ≤ wr.heap.size ∧ wr.ownsRow (b + 3) 5 1 v (packL (l.take k)).length (nums8 (packL (l.take k)))) (fun i _ => n1 - (intOf i).toNat)
  case atStart => exact ⟨0, _, Nat.zero_le _, rfl, HPB.out, HBW.out, HSZ.out, ⟨rfl, .inl ⟨rfl, rfl⟩⟩⟩
  case round =>
    clear HPB HBW HSZ
    obtain ⟨k, v, hk, rfl, hpb, hbw, hsz, hown⟩ := hrel
    have HPB := Lib.hid hpb
    have HBW := Lib.hid hbw
    have HSZ := Lib.hid hsz
    have HOW := Lib.hid hown
    clear hpb hbw hsz hown
    by_cases hlt : k < n1
    · have hlt' : k < l.length := by rw [← hn1.out]; exact hlt
      obtain ⟨ad, Ak, ck, ea, e0, e1, hck, hCk⟩ := at_T99 (Kd.C_below HL.out (HB.out.symm ▸ HBW.out)) k (by omega) (by omega)
      have er : rd_T99 l (k : Int) = l[k] := by simp [rd_T99, hlt']
      rw [er] at e0 e1 hck hCk
      rw [Int.toNat_natCast] at e0 e1
      subst ea
      have hsmk := HSM.out _ (List.getElem_mem hlt')
      have htk : packL (l.take (k + 1)) = packL (l.take k) ++ recB 1 l[k].f0 l[k].f1 := by rw [List.take_succ_eq_append_getElem hlt', packL_app, packL_one]
      generalize hx : l[k] = x at *
      obtain ⟨nm, bs⟩ := x
      simp only at e0 e1 hck hCk hsmk htk
      obtain ⟨nx, hnx⟩ : ∃ nx, bs.length = nx := ⟨_, rfl⟩
      rw [hnx] at e1 hck
      have HNX := Lib.hid hnx.symm
      have HCK := Lib.hid hCk
      have HTK := Lib.hid htk
      have HLM := Lib.hid (show (packL (l.take k)).length + (recB 1 nm bs).length ≤ 1048576 by have h8 := packL_take l (k + 1); rw [htk, List.length_append] at h8; have := HPK.out; omega)
      have HSK := Lib.hid hsmk
      have HRL := Lib.hid (recB_len 1 nm bs)
      obtain ⟨Av, cv, ev, hcv, _⟩ := own_form HOW.out
      obtain ⟨m0, hm0⟩ : ∃ m0, (packL (l.take k)).length = m0 := ⟨_, rfl⟩
      rw [hm0] at ev hcv
      subst ev
      have HM0 := Lib.hid hm0
      clear hnx hCk htk hsmk hx er hm0
      go_wp2_with fail
      refine wp_world (fun W => PBx W b (.slice Av m0 cv) (.slice (some ad) n1 c1) ∧ Below wr.heap.size wr W ∧ W.heap[wr.heap.size]? = some (.cells #[.string nm, .slice Ak nx ck] 99 (0, 0))) ⟨HPB.out.step (start_below.mono HSZ.out), start_below, heap_alloc_new _ _⟩ ?_
      rintro W ⟨hpb, hbw, hbt⟩
      have x0 : W.cell? ⟨b + 1 + 1, 0, none⟩ = some (.slice Av m0 cv) := (blk_cell hpb.b2 0).trans rfl
      have x1 : W.cell? ⟨wr.heap.size, 0, none⟩ = some (.string nm) := (blk_cell hbt 0).trans rfl
      have x2 : W.cell? ⟨wr.heap.size, 1, none⟩ = some (.slice Ak nx ck) := (blk_cell hbt 1).trans rfl
      have x3 : W.frozen? ⟨b + 1 + 1, 0, none⟩ = false := blk_frozen hpb.b2 0
      have HPW := Lib.hid hpb
      have HBW2 := Lib.hid hbw
      have HBT := Lib.hid hbt
      clear hpb hbw hbt
      have HCW := Lib.hid (show U8C W Ak bs from Kd.C_below HCK.out HBW2.out)
      go_region_law (first
        | (go_simp; go_at_call 43; (refine (ref_record1 nm Ak ck nx bs W.drew (isNameB_size HSK.out.2) (Kd.C_drew HCW.out) HNX (by have := HSK.out.1; have := HNX.out; omega)).mono ?_; rintro e w3 ⟨⟨v3, rfl, ho3⟩, hb3⟩; obtain ⟨g3, c3, ev3, hc3, hg3, hC3⟩ := rec_form ho3; have hb30 := undrew' hb3; have hpb3 := HPW.out.step (hb30.mono (by have := HBW2.out.size; have := HSZ.out; omega)); have HPW3 := Lib.hid hpb3; have HW3 := Lib.hid hb30; obtain ⟨n3, hn3⟩ : ∃ n3, (recB 1 nm bs).length = n3 := ⟨_, rfl⟩; rw [hn3] at ev3 hc3; subst ev3; have HN3 := Lib.hid hn3.symm; have HC3 := Lib.hid (rec_C hC3); have y0 : w3.cell? ⟨b + 1 + 1, 0, none⟩ = some (.slice Av m0 cv) := (blk_cell hpb3.b2 0).trans rfl; have HOW3 := Lib.hid (pack_own HOW.out HM0.out (HBW2.out.trans (hb30.mono (by have := HBW2.out.size; omega)))); clear ho3 hb3 hb30 hpb3 hn3 hC3; dsimp only))
        | (refine step_append_u8 rfl (.tmp 17) (.tmp 22) 23 rfl (b + 3) 5 Try.underlying23 info5 _ m0 (packL (l.take k)) rfl HOW3.out (some ⟨g3, 0, none⟩) c3 n3 (recB 1 nm bs) rfl HN3.out HC3.out (m0 + n3) (by have := HN3.out; omega) (by have := HLM.out; have := HM0.out; have := HN3.out; omega) (by have := HW3.out.size; have := HBW2.out.size; have := HSZ.out; omega) ?_; intro v4 w4 ho hg hat; obtain ⟨A4, c4, ev4, hc4⟩ := own_shape ho; subst ev4; have hpb4 := pack_after HPW3.out HOW3.out hg; have x4 : w4.cell? ⟨b + 1 + 1, 0, none⟩ = some (.slice Av m0 cv) := (blk_cell hpb4.b2 0).trans rfl; have x5 : w4.frozen? ⟨b + 1 + 1, 0, none⟩ = false := blk_frozen hpb4.b2 0; have HO4 := Lib.hid ho; have HG4 := Lib.hid hg; have HPB4 := Lib.hid hpb4; clear ho hg hat hpb4))
      all_goals (
        go_wp2_with fail
        go_roundw
        case rel =>
          have hs1 := HBW2.out.size
          have hs2 := HW3.out.size
          have hs3 := HSZ.out
          have hs4 := HG4.out.size
          refine ⟨k + 1, .slice A4 (m0 + n3) c4, by omega, by go_num, pack_set HPB4.out, ?_, by simp [World.setCell]; omega, ?_⟩
          · exact ((HBW.out.trans ((HBW2.out.trans (HW3.out.mono hs1)).mono (by omega))).grown HG4.out (by omega) (fun j hj => by have := (own_low HOW3.out j hj).1; omega)).setCell (show b ≤ b + 1 + 1 by omega) _
          · have e1 : (packL (l.take (k + 1))).length = m0 + n3 := by rw [HTK.out, List.length_append]; have := HM0.out; have := HN3.out; omega
            rw [e1, HTK.out]
            exact own_step HO4.out (fun j hj => Below.heap_setCell _ _ _ _ (fun e => by have h7 := (own_low HO4.out j hj).1; have e' : j = b + 1 + 1 := e; omega))
        case measure => simp [intOf]; omega)
    · have y0 : wr.cell? ⟨b + 1 + 1, 0, none⟩ = some v := (blk_cell HPB.out.b2 0).trans rfl
      have y1 : wr.cell? ⟨b + 1 + 1, 1, none⟩ = some (.slice A1 n1 c1) := (blk_cell HPB.out.b2 1).trans rfl
      have y2 : wr.cell? ⟨b + 1, 0, none⟩ = some (.slice none 0 0) := (blk_cell HPB.out.b1 0).trans rfl
      have y3 : wr.cell? ⟨b + 1, 1, none⟩ = some (.slice none 0 0) := (blk_cell HPB.out.b1 1).trans rfl
      have f0 : wr.frozen? ⟨b + 1, 0, none⟩ = false := blk_frozen HPB.out.b1 0
      have f1 : wr.frozen? ⟨b + 1, 1, none⟩ = false := blk_frozen HPB.out.b1 1
      obtain ⟨Av, cv, ev, hcv, _⟩ := own_form HOW.out
      have e : l.take k = l := List.take_of_length_le (by have := hn1.out; omega)
      obtain ⟨nn, hnn⟩ : ∃ nn, (packL (l.take k)).length = nn := ⟨_, rfl⟩
      rw [hnn] at ev
      subst ev
      have HNN := Lib.hid (show nn = (packL l).length by rw [← hnn, e])
      have hF : Kd.F (Kd.int .u8) wr (fun k => ok k ∧ k ≠ b + 1) Av (packL l).length (packL l) := by
        have h0 := HOW.out
        rw [e] at h0
        obtain ⟨A', c', ev', hl', hc', hF', -⟩ := own_F (ok := fun k => ok k ∧ k ≠ b + 1) h0 (fun k hk => ⟨HOK.out k (by have := HB.out; omega), by omega⟩)
        injection ev' with ev1 ev2 ev3
        subst ev1
        exact hF'
      have HF := Lib.hid hF
      have HCV := Lib.hid (show nn ≤ cv by have := HNN.out; rw [e] at hcv; omega)
      clear hnn e hF hcv
      go_wp2_with fail
      have hbk := (blk_set ((blk_set HPB.out.b1 0 (.slice Av nn cv)).trans rfl) 1 (.slice A1 n1 c1)).trans rfl
      have t0 := (blk_cell hbk 0).trans rfl
      have t1 := (blk_cell hbk 1).trans rfl
      refine bodyPost_ret (by simp [results, Try.results30, go_sem, t0, t1]; try rfl) rfl ?_
      refine ⟨⟨Av, cv, nn, rfl, HNN.out, HCV.out, Kd.F_mono (Kd.F_step HF.out (fun k hk _ => set2_same' hk.2)) (fun k hk => hk.1)⟩, ?_⟩
      exact HB.out.symm ▸ (HBW.out.setCell (show b ≤ b + 1 by omega) _).setCell (show b ≤ b + 1 by omega) _

end Go.Proofs.Ytcjniogdjbplbaa
