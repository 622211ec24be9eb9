/- The walk of WireReads. -/
import Derived.Test.YtgfjepjaccnkiaaOneI
namespace Go.Proofs.Ytgfjepjaccnkiaa
open Mem Go.RowKit Go.Proofs.YtgfjepjaccnkiaaW.PrintWords Go.Proofs.YtgfjepjaccnkiaaW.PrintLast Go.Proofs.YtgfjepjaccnkiaaW.PrintMore PWireReads

/-- What is read of the script: three numbers an element. -/
def Looks (w : World) (S : Option Addr) (m : Nat) : Prop := ∀ k, k < m → ∃ ad, S = some ad ∧ ∃ a b c : Int, w.cell? (ad.add (k * 3)) = some (.int .i64 a) ∧ w.cell? ⟨(ad.add (k * 3)).block, (ad.add (k * 3)).off + 1, none⟩ = some (.int .i64 b) ∧ w.cell? ⟨(ad.add (k * 3)).block, (ad.add (k * 3)).off + 2, none⟩ = some (.int .i64 c)

theorem untouched_c (A1 : Option Addr) (c1 : Nat) (A2 : Option Addr) (c2 : Nat) (xs : List Int) (n : Nat) (w : World) (h1 : U8C w A1 (marked xs)) (hc1 : n + 4 ≤ c1) (h2 : U8C w A2 xs) (hc2 : xs.length ≤ c2) (hm : xs.length ≤ 140737488355000) (hn : Hid (n = xs.length)) :
    Calls Try.prog 8 #[.slice A1 (n + 4) c1, .slice A2 n c2] w fun e w' => e = .returned (.bool true) ∧ Drawn0 w w' := by
  obtain ⟨k, hk⟩ := untouchedOk xs hm
  have hl : (marked xs).length = xs.length + 4 := by simp [marked]
  have := provisoplain_Untouched.calls k A1 c1 (marked xs) A2 c2 xs true w h1 (by rw [hl, ← hn.out]; exact hc1) h2 hc2 hk
  rw [hl, ← hn.out] at this
  exact this

theorem own_blk {w : World} {base n cap g : Nat} {e : TypeId} {xs : List Value} (h : w.ownsRow base e 1 (.slice (some ⟨g, 0, none⟩) n cap) n xs) :
    ∃ cur : Array Value, w.heap[g]? = some (.cells cur e (0, 0)) ∧ base ≤ g ∧ n ≤ cap ∧ cur.size = cap ∧ ∀ (j : Nat) (v : Value), xs[j]? = some v → cur[j]? = some v := by
  rcases h.2 with ⟨e, _⟩ | ⟨g', cap', cur, e, hb, hg, hnc, _, hcs, ht⟩
  · cases e
  · injection e with e1 e2 e3
    injection e1 with e1
    injection e1 with e1 _ _
    subst e1
    subst e3
    refine ⟨cur, hg, hb, hnc, by omega, fun j v hj => ?_⟩
    rw [← ht, List.getElem?_take] at hj
    split at hj
    · simpa using hj
    · cases hj

theorem old_cell {w w1 : World} (h : Below w.heap.size w w1) {a : Addr} {v : Value} (hc : w.cell? a = some v) : w1.cell? a = some v := pw_cell_below h hc

set_option maxHeartbeats 2000000 in
set_option maxRecDepth 100000 in
theorem wire_walk (A : Option Addr) (c n : Nat) (xs : List Int) (S : Option Addr) (m cs : Nat) (w : World) (hx : U8C w A xs) (hn : n = xs.length) (hc : n ≤ c) (hc0 : A = none → c = 0) (hl : n ≤ 140737488355000) (hb : ∀ x ∈ xs, 0 ≤ x ∧ x ≤ 255)
    (hs : Looks w S m) (hm : m * 24 ≤ 140737488355000) :
    Calls Try.prog 3 #[.slice A n c, .slice S m cs] w fun e w' => e = .returned (.bool true) ∧ Below w.heap.size w w' := by
  have HX := Lib.hid hx
  have HN := Lib.hid hn
  have HS := Lib.hid hs
  have HBY := Lib.hid hb
  have HC0 := Lib.hid hc0
  clear hx hn hs hb hc0
  go_enter Try.func3, Try.ntmps3
  go_wp2_with fail
  refine (roomy_any A c n xs _ HX.out HN.out HC0.out hl).mono ?_
  rintro e w1 ⟨g, cap, rfl, ho, hb1⟩
  have hcap := own_cap ho
  obtain ⟨cur, hcu, hge, _, hcs0, hcells⟩ := own_blk ho
  have hmk : ∀ (j : Nat) (x : Int), (marked xs)[j]? = some x → cur[j]? = some (.int .u8 x) := fun j x hj => hcells j _ (by simp [nums, hj])
  have hxs : ∀ (j : Nat) (x : Int), xs[j]? = some x → (marked xs)[j]? = some x := fun j x hj => by
    rw [marked, List.getElem?_append_left (List.getElem?_eq_some_iff.1 hj).1]; exact hj
  have HN' := HN.out
  have hC1 : U8C w1 (some ⟨g, 0, none⟩) xs := C_int_of_blk hcu (fun j x hj => hmk j x (hxs j x hj)) (by omega)
  have hC2 : U8C w1 (some ⟨g, 0, none⟩) (marked xs) := C_int_of_blk hcu hmk (by simp [marked]; omega)
  have hgl := blk_lt hcu
  have HC1 := Lib.hid hC1
  have HC2 := Lib.hid hC2
  have HCU := Lib.hid hcu
  have HMK := Lib.hid hmk
  have HB1 := Lib.hid hb1
  have HXA := Lib.hid (Kd.C_below HX.out hb1)
  clear ho hb1 hcells hmk hxs hC1 hC2 hcu HN' hcs0
  go_wp2_with fail
  refine (over_any _ _ n xs _ HC1.out HN.out (by omega)).mono ?_
  rintro e w2 ⟨rfl, rfl⟩
  have hov := over_rd w1 xs (Kd.C_max HX.out) HBY.out
  have HOV := Lib.hid hov
  clear hov
  go_wp2_with fail
  refine at_world (fun W => Inv1 w A xs (w1.heap.size + 1) w1.heap.size g W ∧ U8C W (some ⟨g, 0, none⟩) (marked xs)) ⟨⟨HB1.out.trans (HOV.out.2.mono HB1.out.size), HOV.out.1, Kd.C_below HXA.out HOV.out.2, ⟨cur, (HOV.out.2.block g hgl).trans HCU.out, fun j hj => ?_⟩, hge, by omega, by omega, ⟨by have := HB1.out.size; omega, HB1.out.size⟩, fun ad e hp => ?_⟩, Kd.C_below HC2.out HOV.out.2⟩ ?_
  · have : j < (marked xs).length := by simp [marked]; omega
    exact ⟨_, HMK.out j _ (List.getElem?_eq_getElem this)⟩
  · have h := HX.out
    subst e
    exact Kd.C_lt h hp (by decide)
  rintro W ⟨hi, hC⟩
  have HI := Lib.hid hi
  clear hi
  refine (untouched_c _ cap A c xs n _ hC (by omega) HI.out.arg (by have := HN.out; omega) (by have := HN.out; omega) HN).mono ?_
  rintro e W2 ⟨rfl, ⟨m2, rfl⟩⟩
  clear hC
  go_wp2_with fail
  have HI2 := Lib.hid (HI.out.drewN m2)
  clear HI HMK HCU HC2 HC1 HOV HXA HB1 hcap
  generalize w1.heap.size + 1 = r at *
  generalize w1.heap.size = a1 at *
  go_loopw [36] (fun i wr => ∃ k : Nat, k ≤ n ∧ i = .int .i64 k ∧ Inv1 w A xs r a1 g wr) (fun i _ => n - (intOf i).toNat)
  case atStart => exact ⟨0, Nat.zero_le _, rfl, HI2.out⟩
  case round =>
    clear HI2
    obtain ⟨k, hk, rfl, hi⟩ := hrel
    have HI := Lib.hid hi
    obtain ⟨cur2, hc2, hy2⟩ := hi.row
    have HC2 := Lib.hid hc2
    have HY2 := Lib.hid hy2
    clear hi hc2 hy2
    by_cases hlt : k < n
    · obtain ⟨y, hy⟩ := HY2.out k (by have := HN.out; omega)
      have ck : wr.cell? ⟨g, k, none⟩ = some (.int .u8 y) := (blk_cell HC2.out k).trans hy
      have fk : wr.frozen? ⟨g, k, none⟩ = false := blk_frozen HC2.out k
      clear hy
      go_wp2_with fail
      go_roundw
      case rel => exact ⟨k + 1, by omega, by go_num, HI.out.put k _⟩
      case measure => simp [intOf]; omega
    · have HL := Lib.hid (InvR.start HI.out (c := c) (by have := HN.out; omega) (by have := HN.out; omega))
      rw [← HN.out] at HL
      have hm2 : m ≤ 9223372036854775807 := by omega
      go_wp2_with fail
      obtain ⟨wo, rfl⟩ : ∃ wo : World, wo = wr := ⟨_, rfl⟩
      go_loopw [9, 10, 54] (fun v9 v10 i wr => ∃ (k : Nat) (K : Nat × Nat) (c9 c10 : Nat) (L : List (Nat × Nat)), k ≤ m ∧ i = .int .i64 k ∧ L ≠ [] ∧ L.length ≤ k + 1 ∧ v9 = .slice (some ⟨K.1, 0, none⟩) L.length c9 ∧ v10 = .slice (some ⟨K.2, 0, none⟩) L.length c10 ∧ InvR w K c9 c10 L L L wr) (fun _ _ i _ => m - (intOf i).toNat)
      case atStart => exact ⟨0, _, 1, 1, [(r, wo.heap.size + 1)], Nat.zero_le _, rfl, by simp, by simp, rfl, rfl, HL.out⟩
      case round =>
        obtain ⟨k2, K, c9, c10, L, hk2, rfl, hne, hll, rfl, rfl, hinv⟩ := hrel
        have HINV := Lib.hid hinv
        clear hinv
        by_cases hlt2 : k2 < m
        · obtain ⟨ad, rfl, la, lb, lc, e1, e2, e3⟩ := HS.out k2 hlt2
          have g1 := old_cell HINV.out.bel e1
          have g2 := old_cell HINV.out.bel e2
          have g3 := old_cell HINV.out.bel e3
          have hlp : 0 < L.length := by rcases L with _ | ⟨x, L⟩ <;> simp at hne ⊢
          obtain ⟨i, hi, hpk⟩ := pick_lt la L.length (by omega) (by omega)
          have HPK := Lib.hid hpk
          clear e1 e2 e3 hpk
          go_wp2_with (first | (go_at_call 9; refine (provisolaw01_pick.calls la L.length i _ HPK.out).mono ?_; rintro e w' ⟨rfl, ⟨nq, rfl⟩⟩))
          refine wp_world (fun W => InvR w K c9 c10 L L L W ∧ W.heap[wr.heap.size]? = some (.cells #[.int .i64 la, .int .i64 lb, .int .i64 lc] 35 (0, 0))) ⟨HINV.out.below start_below, local_new _ _ _ _ _⟩ ?_
          rintro W ⟨hinv, hloc⟩
          have hi' : i < L.length := by omega
          obtain ⟨A1, B1, cc, dd, zs, at0, ht0, hA1, hB1⟩ := (hinv.st.each _ (List.getElem_mem hi')).is
          obtain ⟨x, hx⟩ : ∃ x, x = L[i] := ⟨_, rfl⟩
          have hreg := hinv.reg hloc i hi'
          have HREG2 := Lib.hid (fun w' (hc : Chg2 W w' L[i].1 L[i].2) => hinv.reg2 hloc i hi' hc)
          have HLK := Lib.hid (fun rv pv w' (hl : LookRes W L[i].1 L[i].2 A1 B1 cc dd zs rv pv w') => hinv.look i hi' ht0 hA1 hB1 hl)
          rw [← hx] at hreg HREG2 HLK ht0
          obtain ⟨r1, r2, r3, r4, r5⟩ := hreg
          have HT0 := Lib.hid ht0
          clear hinv HINV g1 g2 g3 hloc hA1 hB1 hx ht0
          generalize wr.heap.size = l0 at *
          go_region_held3 (fun W' => W'.cell? ⟨K.1, i, none⟩ = some (.pointer (some ⟨x.1, 0, none⟩)) ∧ W'.cell? ⟨K.2, i, none⟩ = some (.pointer (some ⟨x.2, 0, none⟩)) ∧ W'.cell? ⟨l0, 0, none⟩ = some (.int .i64 la) ∧ W'.cell? ⟨l0, 1, none⟩ = some (.int .i64 lb) ∧ W'.cell? ⟨l0, 2, none⟩ = some (.int .i64 lc)) (first | exact ⟨r1, r2, r3, r4, r5⟩ | exact HRG.out) (first | (go_at_call 10; refine (look_any x.1 x.2 A1 B1 cc dd zs at0 la lb lc _ (HT0.out.below (drew_below W))).mono ?_; rintro e w2 ⟨rv, pv, rfl, hres⟩; have HRES := Lib.hid hres.undrew; have HRG := Lib.hid (HREG2.out w2 hres.undrew.chg); clear hres))
          obtain ⟨e1, hinv3⟩ | ⟨b, p, e1, e2, hinv3⟩ := HLK.out rv pv w2 HRES.out
          · subst e1
            have HI3 := Lib.hid hinv3
            clear hinv3
            go_wp2_with fail
            go_roundw
            case rel => exact ⟨k2 + 1, K, c9, c10, L, by omega, by go_num, hne, by omega, rfl, rfl, HI3.out⟩
            case measure => simp [intOf]; omega
          · subst e1
            subst e2
            have HI3 := Lib.hid hinv3
            clear hinv3
            have hl8 : (L.length + 1) * 8 ≤ 140737488355328 := by omega
            have hl63 : L.length + 1 ≤ maxLen := by unfold maxLen; omega
            obtain ⟨i26, h26a, h26b, h26c, h26d⟩ := info_parts info26
            obtain ⟨i30, h30a, h30b, h30c, h30d⟩ := info_parts info30
            go_wp2_with (first | (at_builtin; refine wpList_append_own_at _ rfl (.tmp 81) (.tmp 83) 29 rfl w.heap.size 26 i26 (.pointer none) 1 8 Try.underlying29 h26a h26b h26c h26d rfl (by decide) _ L.length (ptrs1 L) rfl (HI3.out.rs.alloc _) ⟨w2.heap.size, 0, none⟩ 1 1 [.pointer (some ⟨b, 0, none⟩)] rfl rfl (cell_one_new _ _ _) (one_ptr b) hl63 hl8 (rows_len HI3.out _) ?_; intro v3 w3 ho3 hg3 _ ha3; obtain ⟨g3, c3, ev3, hi4⟩ := HI3.out.push1 (b, p) ho3 hg3 ha3; have HI4 := Lib.hid hi4; have EV3 := Lib.hid ev3; clear hi4 ev3 ho3 hg3 ha3) | (at_builtin; refine wpList_append_own_at _ rfl (.tmp 85) (.tmp 87) 33 rfl w.heap.size 30 i30 (.pointer none) 1 8 Try.underlying33 h30a h30b h30c h30d rfl (by decide) _ L.length (ptrs2 L) rfl (HI4.out.ps.alloc _) ⟨w3.heap.size, 0, none⟩ 1 1 [.pointer (some ⟨p, 0, none⟩)] rfl rfl (cell_one_new _ _ _) (one_ptr p) hl63 hl8 (rows_len HI4.out _) ?_; intro v4 w4 ho4 hg4 _ ha4; obtain ⟨g4, c4, ev4, hi5⟩ := HI4.out.push2 (b, p) ho4 hg4 ha4; have HI5 := Lib.hid hi5; have EV4 := Lib.hid ev4; clear hi5 ev4 ho4 hg4 ha4))
            go_roundw
            case rel => exact ⟨k2 + 1, (g3, g4), c3, c4, L ++ [(b, p)], by omega, by go_num, by simp, by simp; omega, EV3.out, EV4.out, HI5.out⟩
            case measure => simp [intOf]; omega
        · go_wp2_with fail
          go_loopw [92] (fun i wr => ∃ k : Nat, k ≤ L.length ∧ i = .int .i64 k ∧ InvR w K c9 c10 L L L wr) (fun i _ => L.length - (intOf i).toNat)
          case atStart => exact ⟨0, Nat.zero_le _, rfl, HINV.out⟩
          case round =>
            clear HINV
            obtain ⟨k3, hk3, rfl, hinv⟩ := hrel
            have HI6 := Lib.hid hinv
            by_cases hlt3 : k3 < L.length
            · obtain ⟨A1, B1, cc, dd, zs, at0, ht0, _, _⟩ := (hinv.st.each _ (List.getElem_mem hlt3)).is
              have r1 : wr.cell? ⟨K.1, k3, none⟩ = some (.pointer (some ⟨L[k3].1, 0, none⟩)) := by rw [hinv.rs.cellAt k3 (by omega)]; simp [ptrs1, hlt3]
              have r2 : wr.cell? ⟨K.2, k3, none⟩ = some (.pointer (some ⟨L[k3].2, 0, none⟩)) := by rw [hinv.ps.cellAt k3 (by omega)]; simp [ptrs2, hlt3]
              obtain ⟨p0, p1, pf⟩ := ht0.p.cells
              obtain ⟨x, hx⟩ : ∃ x, x = L[k3] := ⟨_, rfl⟩
              rw [← hx] at r1 r2 p0 p1 pf ht0
              have hwl : IntKind.i64.wrap ((zs.length : Int) - (at0 : Int)) = (zs.length : Int) - at0 := IntWalk.i64_in _ (by have := ht0.small; have := ht0.r.atl; omega)
              have hi3 : (k3 : Int) < (L.length : Int) := by omega
              have HT := Lib.hid ht0
              clear hinv ht0 hx pf
              go_wp2_with fail
              go_quiet ((first | (go_at_call 11; exact Calls.quiet_of_same ((at_yes x.1 _ at0 _ (by exact HT.out.r.blk)).mono fun e w3 ⟨k1, k2⟩ => ⟨k1, k2.symm⟩)) | (go_at_call 12; exact Calls.quiet_of ((left_yes x.1 A1 zs.length cc at0 _ HT.out.r.atl (Kd.C_max HT.out.r.rd) (by exact HT.out.r.blk)).mono fun e w3 ⟨k1, k2⟩ => ⟨k1, k2.out⟩))))
              go_wp2_with fail
              go_roundw
              case rel => exact ⟨k3 + 1, by omega, by go_num, HI6.out.below (below_drawn ⟨⟨_, rfl⟩⟩)⟩
              case measure => simp [intOf]; omega
            · clear hinv
              go_wp2_with fail
              go_ret
              exact ⟨rfl, HI6.out.bel⟩
end Go.Proofs.Ytgfjepjaccnkiaa
