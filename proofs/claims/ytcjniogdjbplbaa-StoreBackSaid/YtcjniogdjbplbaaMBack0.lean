/- StoreBack: whatever script and name: true; both arguments read behind the call as ahead of it. No condition. -/
import Derived.Test.YtcjniogdjbplbaaMA2
import Derived.Outline
import Derived.Test.YtcjniogdjbplbaaRows
import Derived.Test.YtcjniogdjbplbaaMA1
/-! Bk1 -/
namespace Go.Proofs.Ytcjniogdjbplbaa
open Rdr Mem Go.RowKit Go.Proofs.YtcjniogdjbplbaaW.PrintWords Go.Proofs.YtcjniogdjbplbaaW.PrintLast Go.Proofs.YtcjniogdjbplbaaW.PrintMore PStorePlays

/-- Three stores and the document's state. -/
structure Tri (q : Nat) (W : World) (g M : Nat) (vi : Value) (g2 M2 : Nat) (vi2 : Value) (g3 M3 : Nat) (vi3 : Value) (B0 : Option Addr) (d0 : Nat) (B1 : Option Addr) (d1 : Nat) (img : List Int) (l : List S99) : Prop where
  s : StAt (fun k => k = q) W g M vi img l
  t : StAt (fun _ => False) W g2 M2 vi2 img l
  p : StAt (fun _ => False) W g3 M3 vi3 (packL l) l
  rf : RefSt W (RX (fun k => k = q) g M vi) B0 d0 B1 d1 img l
  bx : W.heap[q]? = some (.cells #[.slice B0 img.length d0, .slice B1 l.length d1] 29 (0, 0))
theorem Tri.step {q : Nat} {W W' : World} {g M : Nat} {vi : Value} {g2 M2 : Nat} {vi2 : Value} {g3 M3 : Nat} {vi3 : Value} {B0 : Option Addr} {d0 : Nat} {B1 : Option Addr} {d1 : Nat} {img : List Int} {l : List S99} (h : Tri q W g M vi g2 M2 vi2 g3 M3 vi3 B0 d0 B1 d1 img l) (hb : Below W.heap.size W W') : Tri q W' g M vi g2 M2 vi2 g3 M3 vi3 B0 d0 B1 d1 img l :=
  ⟨h.s.step hb, h.t.step hb, h.p.step hb, h.rf.below hb, (hb.block q (blk_lt h.bx)).trans h.bx⟩
theorem Tri.cells {q : Nat} {W : World} {g M : Nat} {vi : Value} {g2 M2 : Nat} {vi2 : Value} {g3 M3 : Nat} {vi3 : Value} {B0 : Option Addr} {d0 : Nat} {B1 : Option Addr} {d1 : Nat} {img : List Int} {l : List S99} (h : Tri q W g M vi g2 M2 vi2 g3 M3 vi3 B0 d0 B1 d1 img l) : W.cell? ⟨q, 0, none⟩ = some (.slice B0 img.length d0) ∧ W.cell? ⟨q, 1, none⟩ = some (.slice B1 l.length d1) :=
  ⟨(blk_cell h.bx 0).trans rfl, (blk_cell h.bx 1).trans rfl⟩

/-- What a Get tells, in a row of its own. -/
def GotAt (w : World) (l : List S99) (s : ByteArray) (e : Ending) (w' : World) : Prop :=
  Below w.heap.size w w' ∧ ∃ A n c xs, e = .returned (.tuple #[.slice A n c, .int .i64 (getE l s)]) ∧ U8C w' A xs ∧ n = xs.length ∧ n ≤ c ∧ n ≤ 4096 ∧ xs = (look l s).getD []
theorem look_small {l : List S99} (hs : ∀ x ∈ l, x.f1.length ≤ 4096 ∧ isNameB x.f0 = true) {s : ByteArray} {xs : List Int} (h : look l s = some xs) : xs.length ≤ 4096 ∧ isNameB s = true := by
  induction l with
  | nil => simp [look, plc] at h
  | cons k l ih =>
    rw [look_cons] at h
    split at h
    · exact ih (fun x hx => hs x (by simp [hx])) h
    · split at h
      · rename_i e
        injection h with h
        have := hs k (by simp)
        subst h
        subst e
        exact this
      · cases h
theorem get_any (X : Nat → Prop) (g M : Nat) (vi : Value) (img : List Int) (l : List S99) (s : ByteArray) (w : World) (h : StAt X w g M vi img l) (hm : s.size ≤ maxLen) :
    Calls Try.prog 14 #[.pointer (some ⟨g, 0, none⟩), .string s] w fun e w' => GotAt w l s e w' := by
  cases hl : look l s with
  | none =>
    refine (Get_bad g M vi img l s w h hm (getE_none hl)).mono ?_
    rintro e w' ⟨rfl, ⟨m, rfl⟩⟩
    exact ⟨pw_below_drewN (Below.refl _ _) m, none, 0, 0, [], rfl, Kd.C_nil _ _, rfl, Nat.le_refl _, by omega, by rw [hl]; rfl⟩
  | some xs =>
    obtain ⟨h1, h2⟩ := look_small h.small hl
    refine (Get_ok g M vi img l s xs w h h2 hm hl (by omega)).mono ?_
    rintro e w' ⟨⟨b, rfl, _, hrow⟩, hb⟩
    have he : getE l s = 0 := by
      have h3 := look_some l s
      rw [hl] at h3
      unfold getE
      have h4 : (plc l s).2 = true := h3.symm
      simp [h2, h4]
    rw [← he]
    exact ⟨hb, _, _, _, xs, rfl, C_int_of_blk hrow (fun j x hj => u8row_at hj) (by omega), rfl, Nat.le_refl _, h1, by rw [hl]; rfl⟩

theorem names_len (l : List S99) : (l.map (fun k => Value.string k.f0)) = (l.map (·.f0)).map Value.string := by
  rw [List.map_map]; rfl
set_option maxHeartbeats 4000000 in
set_option maxRecDepth 100000 in
theorem back_walk (S : Option Addr) (m cs : Nat) (name : ByteArray) (w : World) (hs : ScrAt w S m) (hm : m * 48 ≤ 140737488355000) (hnm : name.size ≤ maxLen) :
    Calls Try.prog 8 #[.slice S m cs, .string name] w fun e w' => e = .returned (.bool true) ∧ Below w.heap.size w w' := by
  have HS := Lib.hid hs
  clear hs
  go_enter Try.func8, Try.ntmps8
  go_wp2_with fail
  refine (st_new w).mono ?_
  rintro e w1 ⟨rfl, hst, hb1⟩
  generalize hg0 : w.heap.size = g0 at *
  have HG0 := Lib.hid hg0
  obtain ⟨q, hq⟩ : ∃ q, w1.heap.size = q := ⟨_, rfl⟩
  have HQ := Lib.hid hq
  have hgq : g0 + 1 < q := by rw [← hq]; exact blk_lt hst.blk
  have hsb : Below q w1 (w1.alloc (.cells #[.slice none 0 0, .slice none 0 0] 29)) := hq ▸ start_below
  have hpr : Pair (fun k => k = q) w (w1.alloc (.cells #[.slice none 0 0, .slice none 0 0] 29)) (g0 + 1) g0 (.slice none 0 0) none 0 none 0 [] [] := by
    refine ⟨(hst.shun hsb hq rfl).less (fun k e => .inr ⟨by omega, by simp; omega⟩), refSt_nil _ _, ?_, by omega, by omega, fun k e => by simp [Value.ownBlock] at e⟩
    rw [hg0]
    exact hb1.trans (hsb.mono (by omega))
  have hbx : (w1.alloc (.cells #[.slice none 0 0, .slice none 0 0] 29)).heap[q]? = some (.cells #[.slice none 0 0, .slice none 0 0] 29 (0, 0)) := by
    have := heap_alloc_new w1 (.cells #[.slice none 0 0, .slice none 0 0] 29)
    rwa [hq] at this
  have HPR := Lib.hid hpr
  have HBX := Lib.hid hbx
  clear hst hb1 hsb hpr hbx hg0
  go_wp2_with fail
  clear hq
  go_loopw [25] (fun i wr => ∃ (k : Nat) (vi : Value) (B0 : Option Addr) (d0 : Nat) (B1 : Option Addr) (d1 : Nat) (img : List Int) (l : List S99), k ≤ m ∧ i = .int .i64 k ∧ Pair (fun k => k = q) w wr (g0 + 1) g0 vi B0 d0 B1 d1 img l ∧ wr.heap[q]? = some (.cells #[.slice B0 img.length d0, .slice B1 l.length d1] 29 (0, 0)) ∧ Good img l) (fun i _ => m - (intOf i).toNat)
  case atStart => exact ⟨0, _, none, 0, none, 0, [], [], Nat.zero_le _, rfl, HPR.out, HBX.out, Good.nil⟩
  case round =>
    clear HPR HBX
    obtain ⟨k, vi, B0, d0, B1, d1, img, l, hk, rfl, hpr, hbx, hgd⟩ := hrel
    have HPR := Lib.hid hpr
    have HBX := Lib.hid hbx
    have HGD := Lib.hid hgd
    have x0 : wr.cell? ⟨q, 0, none⟩ = some (.slice B0 img.length d0) := (blk_cell hbx 0).trans rfl
    have x1 : wr.cell? ⟨q, 1, none⟩ = some (.slice B1 l.length d1) := (blk_cell hbx 1).trans rfl
    have hql : q < wr.heap.size := blk_lt hbx
    clear hpr hbx hgd
    by_cases hlt : k < m
    · obtain ⟨ad, rfl, op, s, A2, n2, c2, bs, hit⟩ := HS.out k hlt
      have hit2 := hit.below HPR.out.bel
      have i0 := hit2.c0
      have i1 := hit2.c1
      have i2 := hit2.c2
      have HIT := Lib.hid hit
      clear hit hit2
      obtain ⟨ov, hop, hov⟩ := op_two op
      have HOV := Lib.hid hov
      clear hov
      go_wp2_with fail
      refine at_world (fun W => Pair (fun k => k = q) w W (g0 + 1) g0 vi B0 d0 B1 d1 img l ∧ W.heap[q]? = some (.cells #[.slice B0 img.length d0, .slice B1 l.length d1] 29 (0, 0))) ⟨HPR.out.below start_below, (Below.heap_alloc _ _ _ hql).trans HBX.out⟩ ?_
      rintro W ⟨hpr, hbx⟩
      have HBX2 := Lib.hid hbx
      have HRQ := Lib.hid (show Rest (g0 + 1) g0 vi q from ⟨by omega, by omega, fun e => own_ne hpr.st.own hbx (by decide) e⟩)
      refine (do_any _ _ _ vi img l s A2 n2 c2 bs B0 d0 B1 d1 w W hpr HIT.out.rd HIT.out.hn HIT.out.hc HIT.out.hc0 HIT.out.hl HIT.out.hs ov HOV.out).mono ?_
      rintro e W2 hdo
      obtain ⟨vi2, B2, d2, B3, d3, wl3, rfl, hpr2, -, hch⟩ := hpr.next hdo
      have hbx2 := (hch.block q (blk_lt hbx) (fun x => x HRQ.out)).trans hbx
      have hgd2 := HGD.out.do_ ov s bs HIT.out.hbb
      obtain ⟨o2, ho2⟩ : ∃ o2, o2 = doS ov img l s bs := ⟨_, rfl⟩
      rw [← ho2] at hpr2 hgd2
      rw [← ho2]
      have HPR2 := Lib.hid hpr2
      have HBX3 := Lib.hid hbx2
      have HGD2 := Lib.hid hgd2
      have z0 : W2.cell? ⟨q, 0, none⟩ = some (.slice B0 img.length d0) := (blk_cell hbx2 0).trans rfl
      have z1 : W2.cell? ⟨q, 1, none⟩ = some (.slice B1 l.length d1) := (blk_cell hbx2 1).trans rfl
      have f0 : W2.frozen? ⟨q, 0, none⟩ = false := blk_frozen hbx2 0
      have f1 : W2.frozen? ⟨q, 1, none⟩ = false := blk_frozen hbx2 1
      have hql2 : q < W2.heap.size := blk_lt hbx2
      clear hpr hbx hdo hpr2 hch hbx2 ho2 hgd2
      go_wp2_with fail
      go_roundw
      case rel =>
        have hg := HG0.out
        have hbx4 := (blk_set ((blk_set HBX3.out 0 (.slice B2 o2.img.length d2)).trans rfl) 1 (.slice B3 o2.l.length d3)).trans rfl
        refine ⟨k + 1, vi2, B2, d2, B3, d3, o2.img, o2.l, by omega, by go_num, ?_, (Below.heap_alloc _ _ q (by simpa [World.setCell] using hql2)).trans hbx4, HGD2.out⟩
        exact (Pair.step HPR2.out set2_chg (fun k e => ⟨by omega, by omega, by omega, fun e2 => own_ne HPR2.out.st.own HBX3.out (by decide) (e ▸ e2)⟩)).below start_below
      case measure => simp [intOf]; omega
    · have hroom := HGD.out.room
      have hpk := HGD.out.pack
      have HOS := Lib.hid (show openS img = some (l, img.length) by have := HGD.out.par.opens [] (.inl rfl); simpa using this)
      obtain ⟨n, hn⟩ : ∃ n, img.length = n := ⟨_, rfl⟩
      have HN := Lib.hid hn.symm
      obtain ⟨n3, hn3⟩ : ∃ n3, (packL l).length = n3 := ⟨_, rfl⟩
      have HN3 := Lib.hid hn3.symm
      rw [hn] at hroom x0 hpk
      rw [hn3] at hpk
      clear hn hn3 x0 x1
      go_wp2_with fail
      refine (st_image (g0 + 1) g0 vi img l n HN wr HPR.out.st).mono ?_
      rintro e w2 ⟨rfl, rfl⟩
      go_wp2_with fail
      refine (open_any (some ⟨wr.heap.size, 0, none⟩) n n img _ (u8row_C wr img (by have := HN.out; omega)) HN (Nat.le_refl _) (by omega) HGD.out.bytes).mono ?_
      rintro e w3 ⟨hb3, hres⟩
      rw [HOS.out] at hres
      obtain ⟨g2, M2, vi2, rfl, lg2, lM2, lv2, hst2⟩ := hres
      have hb03 := start_below.trans (hb3.mono (by simp))
      have HB03 := Lib.hid hb03
      have HST2 := Lib.hid hst2
      clear hb3 hst2 hb03
      go_wp2_with fail
      refine (st_pack (g0 + 1) g0 vi img l w3 (HPR.out.st.step HB03.out) HGD.out).mono ?_
      rintro e w4 ⟨g3, M3, vi3, rfl, hnew⟩
      have htri : Tri q w4 (g0 + 1) g0 vi g2 M2 vi2 g3 M3 vi3 B0 d0 B1 d1 img l := by
        have hb34 := hnew.bel
        refine ⟨(HPR.out.st.step HB03.out).step hb34, ?_, hnew.st, (HPR.out.rf.below HB03.out).below hb34, ?_⟩
        · have := HST2.out
          rw [List.take_length] at this
          exact this.step hb34
        · rw [hb34.block q (by have := HB03.out.size; omega), HB03.out.block q hql]; exact HBX.out
      have HTRI := Lib.hid htri
      have HB04 := Lib.hid (HPR.out.bel.trans ((HB03.out.trans (hnew.bel.mono HB03.out.size)).mono HPR.out.bel.size))
      have HLN := Lib.hid (names_len l)
      clear htri hnew HST2 lg2 lM2 lv2 HPR HBX HB03
      obtain ⟨xs, hxs⟩ : ∃ xs, xs = (look l name).getD [] := ⟨_, rfl⟩
      obtain ⟨ge, hge⟩ : ∃ ge, getE l name = ge := ⟨_, rfl⟩
      have HXS := Lib.hid hxs
      have HGE := Lib.hid hge
      clear hxs hge
      go_wp2_with fail
      refine (st_image g3 M3 vi3 (packL l) l n3 HN3 w4 HTRI.out.p).mono ?_
      rintro e w5 ⟨rfl, rfl⟩
      have HT5 := Lib.hid (HTRI.out.step (start_below (o := .cells (u8row (packL l)) 5)))
      go_wp2_with fail
      refine (st_image (g0 + 1) g0 vi img l n HN _ HT5.out.s).mono ?_
      rintro e w6 ⟨rfl, rfl⟩
      go_wp2_with fail
      refine at_world (fun W => Tri q W (g0 + 1) g0 vi g2 M2 vi2 g3 M3 vi3 B0 d0 B1 d1 img l ∧ Below w.heap.size w W) ⟨HT5.out.step start_below, HB04.out.trans ((start_below.trans (start_below.mono (by simp))).mono HB04.out.size)⟩ ?_
      rintro W ⟨ht, hbw⟩
      clear HTRI HT5 HB04
      refine (get_any _ _ _ vi img l name W ht.s hnm).mono ?_
      rintro e w7 ⟨hb7, A7, n7, c7, xs7, rfl, hC7, hn7, hc7, h47, hx7⟩
      rw [← HXS.out] at hx7
      subst hx7
      rw [HGE.out]
      have HT7 := Lib.hid (ht.step hb7)
      have HB7 := Lib.hid (hbw.trans (hb7.mono hbw.size))
      have HC7 := Lib.hid hC7
      have HN7 := Lib.hid hn7
      clear ht hbw hb7 hC7 hn7
      go_wp2_with fail
      refine (get_any _ _ _ vi2 img l name w7 HT7.out.t hnm).mono ?_
      rintro e w8 ⟨hb8, A8, n8, c8, xs8, rfl, hC8, hn8, hc8, h48, hx8⟩
      rw [← HXS.out] at hx8
      subst hx8
      rw [HGE.out]
      have HT8 := Lib.hid (HT7.out.step hb8)
      have HB8 := Lib.hid (HB7.out.trans (hb8.mono HB7.out.size))
      have HC78 := Lib.hid (Kd.C_below HC7.out hb8)
      have HC8 := Lib.hid hC8
      have HN8 := Lib.hid hn8
      clear hb8 hC8 hn8 HT7 HB7 HC7
      go_wp2_with fail
      refine (get_any _ _ _ vi3 (packL l) l name w8 HT8.out.p hnm).mono ?_
      rintro e w9 ⟨hb9, A9, n9, c9, xs9, rfl, hC9, hn9, hc9, h49, hx9⟩
      rw [← HXS.out] at hx9
      subst hx9
      rw [HGE.out]
      have HT9 := Lib.hid (HT8.out.step hb9)
      have HB9 := Lib.hid (HB8.out.trans (hb9.mono HB8.out.size))
      have HC79 := Lib.hid (Kd.C_below HC78.out hb9)
      have HC89 := Lib.hid (Kd.C_below HC8.out hb9)
      have HC9 := Lib.hid hC9
      have HN9 := Lib.hid hn9
      clear hb9 hC9 hn9 HT8 HB8 HC78 HC8
      go_wp2_with fail
      refine (equal_same A7 n7 c7 xs9 A8 n8 c8 w9 HC79.out HN7.out hc7 HC89.out HN8.out hc8 (by omega)).mono ?_
      rintro e wa ⟨rfl, ⟨ma, rfl⟩⟩
      go_wp2_with fail
      refine (equal_same A7 n7 c7 xs9 A9 n9 c9 (w9.drewN ma) (Kd.C_drewN HC79.out ma) HN7.out hc7 (Kd.C_drewN HC9.out ma) HN9.out hc9 (by omega)).mono ?_
      rintro e wb ⟨rfl, ⟨mb, rfl⟩⟩
      obtain ⟨y0, y1⟩ := HT9.out.cells
      rw [HN.out.symm] at y0
      go_wp2_with fail
      refine at_world (fun W => Tri q W (g0 + 1) g0 vi g2 M2 vi2 g3 M3 vi3 B0 d0 B1 d1 img l ∧ Below w.heap.size w W) ⟨HT9.out.step (pw_below_drewN (Below.refl _ _) _), pw_below_drewN HB9.out _⟩ ?_
      rintro Wa ⟨hta, hba⟩
      clear HT9 HB9 y0 y1 HC79 HC89 HC9
      refine (alike_any g2 M2 vi2 img l B0 d0 B1 d1 _ Wa hta.t hta.rf n l.length HN (Lib.hid rfl)).mono ?_
      rintro e Wb ⟨rfl, hbb⟩
      have HTb := Lib.hid (hta.step hbb)
      have HBb := Lib.hid (hba.trans (hbb.mono hba.size))
      clear hta hba hbb
      go_wp2_with fail
      refine (st_names g3 M3 vi3 (packL l) l Wb HTb.out.p).mono ?_
      rintro e Wc ⟨⟨vc, rfl, hoc⟩, hbc⟩
      rw [HLN.out] at hoc
      obtain ⟨Ac, cc, evc, hcc, _⟩ := own_form hoc
      subst evc
      have HTc := Lib.hid (HTb.out.step hbc)
      have HBc := Lib.hid (HBb.out.trans (hbc.mono HBb.out.size))
      have HOc := Lib.hid hoc
      clear hoc hbc HTb HBb
      go_wp2_with fail
      refine (st_names (g0 + 1) g0 vi img l Wc HTc.out.s).mono ?_
      rintro e Wd ⟨⟨vd, rfl, hod⟩, hbd⟩
      rw [HLN.out] at hod
      obtain ⟨Ad, cd, evd, hcd, _⟩ := own_form hod
      subst evd
      have hocd := own_step HOc.out (fun k hk => hbd.block k (own_low HOc.out k hk).2)
      have HTd := Lib.hid (HTc.out.step hbd)
      have HBd := Lib.hid (HBc.out.trans (hbd.mono HBc.out.size))
      have HEQ := Lib.hid (equal_names Ac l.length cc Ad cd (l.map (·.f0)) Wd _ _ hocd hod (by have := HTd.out.s.few; omega))
      clear hod hocd hbd HTc HBc HOc
      go_wp2_with fail
      refine HEQ.out.mono ?_
      rintro e We ⟨rfl, ⟨me, rfl⟩⟩
      obtain ⟨y0, y1⟩ := HTd.out.cells
      rw [HN.out.symm] at y0
      go_wp2_with fail
      refine at_world (fun W => Tri q W (g0 + 1) g0 vi g2 M2 vi2 g3 M3 vi3 B0 d0 B1 d1 img l ∧ Below w.heap.size w W) ⟨HTd.out.step (pw_below_drewN (Below.refl _ _) _), pw_below_drewN HBd.out _⟩ ?_
      rintro Wf ⟨htf, hbf⟩
      clear HTd HBd HEQ y0 y1
      refine (alike_any (g0 + 1) g0 vi img l B0 d0 B1 d1 _ Wf htf.s htf.rf n l.length HN (Lib.hid rfl)).mono ?_
      rintro e Wg ⟨rfl, hbg⟩
      have HBg := Lib.hid (hbf.trans (hbg.mono hbf.size))
      clear htf hbf hbg
      go_wp2_with fail
      go_ret
      exact ⟨rfl, HBg.out⟩

end Go.Proofs.Ytcjniogdjbplbaa

/-! BackRow -/
namespace Go.Proofs.Ytcjniogdjbplbaa.storeBack
open Rd Go.ChangeShapes Go.WideShapes Go.ChangeAt Go.RowKit Go.Proofs.YtcjniogdjbplbaaW.PrintWords
set_option linter.unusedVariables false
theorem own : ownKnob Try.prog.godebug = none := by kernel_rfl
theorem laidOut : laidOutB Try.prog = true := by kernel_rfl

set_option maxRecDepth 100000 in
theorem lifted (os : Os) (started : os.Started) (H : Type) (enc : TypeId × Value → H) :
    ReturnsInHanded {} Try.checked os 8 .any (Rows.storeBackSpec.pre6 enc Try.prog Try.f8 Rows.storeBackRow.domain false) (Rows.storeBackSpec.post enc Try.prog Try.f8 false true false false) := by
  refine returnsInHanded_of_change_sized (C := Try.checked) own started (by kernel_rfl) Try.func8
    (ChangeSpec.witness6 (enc := enc) (C := Try.checked) false ⟨#[], #[.slice none 0 0, .string ⟨#[]⟩], []⟩ 8 (by kernel_rfl) (by kernel_rfl) (by kernel_rfl) (by kernel_rfl)) ?_
  intro W base args ds gs before hval0 hW hcnd hsz0 _
  have hsz : (DataW.weightsEach Try.prog (Try.f8.params.toList ++ Rows.storeBackSpec.plain.varTypes Try.prog) (ds ++ gs)).all (· ≤ reachBytes) = true := hsz0
  have hval : ∀ (j : Nat) t v, Try.f8.params[j]? = some t → args[j]? = some v → Value.okWide Try.prog W .any base t v := hval0
  have hW' := hW
  obtain ⟨p, q, hA0, hV, rfl, hfz, hnd⟩ := hW
  have hA : DataW.TrodAll enc Try.prog W 0 (fun _ => true) true Try.f8.params.toList args.toList ds p := hA0
  rw [Try.params8] at hA hval hsz
  obtain ⟨v0, vs0, d0, ds0, p0, q0, hargs, rfl, rfl, h0, r0⟩ := trodAll_cons hA
  obtain ⟨v1, vs1, d1, ds1, p1, q1, rfl, rfl, rfl, h1, r1⟩ := trodAll_cons r0
  obtain ⟨rfl, rfl, rfl⟩ := trodAll_nil r1
  obtain rfl : args = #[v0, v1] := by cases args; simp_all
  obtain ⟨rfl, rfl⟩ := trodVars_none hV
  obtain ⟨a0, len0, cap0, rfl⟩ := okWide_slice Try.underlying22 (hval 0 22 v0 rfl rfl)
  have k0 := h0
  have lt0 : ∀ x ∈ p0, x.block < W.heap.size := by obtain ⟨m, hm⟩ := k0; exact DataW.trod_lt m _ _ _ hm
  obtain ⟨hs0, hm0⟩ := scr_of h0 (WOk.top hsz (j := 0) rfl rfl)
  have k1 := h1
  have lt1 : ∀ x ∈ p1, x.block < W.heap.size := by obtain ⟨m, hm⟩ := k1; exact DataW.trod_lt m _ _ _ hm
  obtain ⟨s1, rfl⟩ := okWide_string Try.underlying9 (hval 1 9 v1 rfl rfl)
  obtain ⟨fu1, hf1⟩ := h1
  obtain ⟨s1', e1, hs1, _⟩ := rd_string Try.underlying9 hf1 (WOk.top hsz (j := 1) rfl rfl)
  obtain rfl : s1 = s1' := by simpa [Value.cells] using e1
  clear hA0 hval0 hsz0 hsz
  refine (back_walk a0 len0 cap0 s1 W hs0 (by omega) hs1).mono fun e W' ⟨he, bel⟩ => ?_
  subst he
  exact ⟨_, rfl, _, _, _, [], _, [], hW', trodAll_mk1 (shut_bool Try.underlying4 _), (trodAll_cons_mk (Below.trod laidOut (by kernel_rfl) (of_decide_eq_true (by kernel_rfl)) k0 bel lt0) (trodAll_cons_mk (Below.trod laidOut (by kernel_rfl) (of_decide_eq_true (by kernel_rfl)) k1 bel lt1) trodAll_mk0)), rfl, bel.frame _, fun h => by cases h⟩
theorem over : Rows.storeBackRow.holds Try.pinned (OpenSpec.ofChange Rows.storeBackSpec) :=
  OpenClaim.holds_of_wide 8 Try.f8 rfl rfl rfl rfl rfl rfl rfl ⟨rfl, rfl, rfl, rfl, rfl⟩ rfl rfl rfl rfl rfl (by kernel_rfl) Try.func8 (by kernel_rfl)
    (of_decide_eq_true (by kernel_rfl)) (by unfold Func.isWrapper; first | (rw [if_pos (by decide +kernel)]; kernel_rfl) | (rw [if_neg (by decide +kernel)]; exact ⟨rfl, rfl⟩))
    (fun os started H enc _ => lifted os started H enc)
theorem proved : Rows.StoreBackSaid := over
#print axioms proved
end Go.Proofs.Ytcjniogdjbplbaa.storeBack
namespace Go.Proofs.Ytcjniogdjbplbaa
/-- The row, under a short name, for the claim. -/
theorem storeBack_holds : Rows.StoreBackSaid := storeBack.proved
end Go.Proofs.Ytcjniogdjbplbaa
