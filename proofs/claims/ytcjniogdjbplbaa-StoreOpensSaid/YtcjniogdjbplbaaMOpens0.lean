/- StoreOpens: whatever image: true; it is read behind the call as ahead of it. No condition. -/
import Derived.Test.YtcjniogdjbplbaaMA2
import Derived.Test.YtcjniogdjbplbaaMA3
import Derived.Test.YtcjniogdjbplbaaRows
import Derived.Test.YtcjniogdjbplbaaMA1
/-! Rn1 -/
namespace Go.Proofs.Ytcjniogdjbplbaa
open Rdr Mem Go.RowKit Go.Proofs.YtcjniogdjbplbaaW.PrintWords Go.Proofs.YtcjniogdjbplbaaW.PrintLast Go.Proofs.YtcjniogdjbplbaaW.PrintMore PStorePlays

theorem numI_two (l : List Int) (h : ∀ x ∈ l, 0 ≤ x ∧ x ≤ 255) (hl : l.length ≤ 1) : 0 ≤ numI l ∧ numI l ≤ 255 := by
  obtain ⟨h1, h2⟩ := numI_bd l h
  have : l.length = 0 ∨ l.length = 1 := by omega
  rcases this with e | e <;> rw [e] at h2 <;> simp at h2 <;> omega
/-- A byte that came in. -/
theorem byte_at {w : World} {A : Option Addr} {xs : List Int} (hx : U8C w A xs) (hb : ∀ x ∈ xs, 0 ≤ x ∧ x ≤ 255) (i : Nat) (h : i < xs.length) : ∃ ad, A = some ad ∧ w.cell? (ad.add i) = some (.int .u8 (rd xs i)) ∧ 0 ≤ rd xs i ∧ rd xs i ≤ 255 := by
  obtain ⟨ad, e, hc⟩ := C_int_cells hx (by omega)
  have e2 : rd xs (i : Int) = xs[i] := by simp [rd, h]
  exact ⟨ad, e, by rw [e2]; exact hc i _ (by simp [h]), rd_byte xs i hb⟩

set_option maxHeartbeats 4000000 in
set_option maxRecDepth 100000 in
theorem ref_num (T : Int × Nat × Int) (A : Option Addr) (c : Nat) (xs : List Int) (at_ n ln : Nat) (w : World) (hT : Hid (T = numRes xs at_ n)) (hx : U8C w A xs) (hln : Hid (ln = xs.length)) (hm : ln ≤ 1048576) (hb : ∀ x ∈ xs, 0 ≤ x ∧ x ≤ 255) (ha : at_ ≤ ln) (hn0 : 1 ≤ n) (hn : n ≤ 2) (z : Int) (hz : z = n) :
    Calls Try.prog 57 #[.slice A ln c, .int .i64 at_, .int .i64 z] w fun e w' => e = .returned (.tuple #[.int .i64 T.1, .int .i64 T.2.1, .int .i64 T.2.2]) ∧ Below w.heap.size w w' := by
  subst hz
  have HX := Lib.hid hx
  have HBY := Lib.hid hb
  clear hx hb
  by_cases h : ln < at_ + n
  · have hT2 : T = (0, at_, 2) := by rw [hT.out]; unfold numRes; rw [if_pos (by have := hln.out; omega)]
    subst hT2
    have hlt : (ln : Int) - at_ < n := by omega
    go_enter Try.func57, Try.ntmps57
    go_wp2_with fail
    go_ret3
    exact ⟨rfl, Below.refl _ _⟩
  · have hll := midL_len (xs := xs) (at_ := at_) (n := n) (by have := hln.out; omega)
    have hmb := midL_bytes HBY.out at_ n
    have hT2 : T = (numI (midL xs at_ n), at_ + n, 0) := by
      rw [hT.out]
      unfold numRes numOf
      rw [if_neg (by have := hln.out; omega), if_neg (by omega), num32_small _ hmb (by omega)]
    subst hT2
    have HML := Lib.hid hll
    have HMB := Lib.hid hmb
    have hlt : ¬ ((ln : Int) - at_ < n) := by omega
    have hn4 : ((n : Int) == 4) = false := by simp; omega
    clear hll hmb
    go_enter Try.func57, Try.ntmps57
    go_wp2_with fail
    go_loopw [9, 10] (fun v kk wr => ∃ k : Nat, k ≤ n ∧ v = .int .i64 (numI ((midL xs at_ n).take k)) ∧ kk = .int .i64 k ∧ Below w.heap.size w wr) (fun _ kk _ => n - (intOf kk).toNat)
    case atStart => exact ⟨0, Nat.zero_le _, rfl, rfl, Below.refl _ _⟩
    case round =>
      obtain ⟨k, hk, rfl, rfl, hbw⟩ := hrel
      have HBW := Lib.hid hbw
      clear hbw
      by_cases hkn : k < n
      · obtain ⟨ad, rfl, hcell, hy0, hy1⟩ := byte_at HX.out HBY.out (at_ + k) (by have := hln.out; omega)
        have hcell := old_cell HBW.out hcell
        have hv := numI_two ((midL xs at_ n).take k) (fun x hx => HMB.out x (List.mem_of_mem_take hx)) (by rw [List.length_take]; omega)
        have hsn := numI_snoc (midL xs at_ n) k (by have := HML.out; omega)
        rw [midL_rd hkn] at hsn
        have e1 : ((at_ : Int) + k) = ((at_ + k : Nat) : Int) := by omega
        rw [e1] at hsn
        generalize numI ((midL xs at_ n).take k) = v at *
        generalize rd xs ((at_ + k : Nat) : Int) = y at *
        have HSN := Lib.hid hsn
        have hnat : ((at_ : Int) + (k : Int)).toNat = at_ + k := by omega
        clear hsn e1
        go_wp2_with fail
        go_roundw
        case rel => exact ⟨k + 1, by omega, by rw [HSN.out], by go_num, HBW.out⟩
        case measure => simp [intOf]; omega
      · have e : k = n := by omega
        subst e
        have e2 : (midL xs at_ k).take k = midL xs at_ k := List.take_of_length_le (by have := HML.out; omega)
        rw [e2]
        obtain ⟨v, hv⟩ : ∃ v, numI (midL xs at_ k) = v := ⟨_, rfl⟩
        rw [hv]
        have HV := Lib.hid hv
        clear hv e2
        go_wp2_with fail
        go_ret3
        exact ⟨by simp [HV.out], HBW.out⟩

set_option maxHeartbeats 4000000 in
set_option maxRecDepth 100000 in
theorem ref_take (T : List Int × Nat × Int) (A : Option Addr) (c : Nat) (xs : List Int) (at_ n ln : Nat) (w : World) (hT : Hid (T = takeOf xs at_ n)) (hx : U8C w A xs) (hln : Hid (ln = xs.length)) (hm : ln ≤ 1048576) (hb : ∀ x ∈ xs, 0 ≤ x ∧ x ≤ 255) (ha : at_ ≤ ln) (hn : n ≤ 65535) (z : Int) (hz : z = n) :
    Calls Try.prog 58 #[.slice A ln c, .int .i64 at_, .int .i64 z] w fun e w' => (∃ v, e = .returned (.tuple #[v, .int .i64 T.2.1, .int .i64 T.2.2]) ∧ w'.ownsRow w.heap.size 5 1 v T.1.length (nums8 T.1)) ∧ Below w.heap.size w w' := by
  subst hz
  have HX := Lib.hid hx
  have HBY := Lib.hid hb
  clear hx hb
  by_cases h : ln < at_ + n
  · have hT2 : T = ([], at_, 2) := by rw [hT.out]; unfold takeOf; rw [if_neg (by omega), if_pos (by have := hln.out; omega)]
    subst hT2
    have hlt : (ln : Int) - at_ < n := by omega
    go_enter Try.func58, Try.ntmps58
    go_wp2_with fail
    go_ret3
    exact ⟨⟨_, rfl, World.ownsRow_nil _ _ _ _⟩, Below.refl _ _⟩
  · have hT2 : T = (midL xs at_ n, at_ + n, 0) := by rw [hT.out]; unfold takeOf; rw [if_neg (by omega), if_neg (by have := hln.out; omega), Int.toNat_natCast]
    subst hT2
    have HML := Lib.hid (midL_len (xs := xs) (at_ := at_) (n := n) (by have := hln.out; omega))
    have hlt : ¬ ((ln : Int) - at_ < n) := by omega
    go_enter Try.func58, Try.ntmps58
    go_wp2_with fail
    go_loopw [9, 10] (fun v kk wr => ∃ (k : Nat) (Av : Option Addr) (cv : Nat), k ≤ n ∧ v = .slice Av k cv ∧ kk = .int .i64 k ∧ wr.ownsRow w.heap.size 5 1 (.slice Av k cv) k (nums8 ((midL xs at_ n).take k)) ∧ Below w.heap.size w wr) (fun _ kk _ => n - (intOf kk).toNat)
    case atStart => exact ⟨0, _, _, Nat.zero_le _, rfl, rfl, own_row_at w w.heap.size _ 5 [] 0 rfl rfl (Nat.le_refl _) (by omega), start_below⟩
    case round =>
      obtain ⟨k, Av, cv, hk, rfl, rfl, hown, hbw⟩ := hrel
      have HO := Lib.hid hown
      have HBW := Lib.hid hbw
      clear hown hbw
      by_cases hkn : k < n
      · obtain ⟨ad, rfl, hcell, hy0, hy1⟩ := byte_at HX.out HBY.out (at_ + k) (by have := hln.out; omega)
        have hcell := old_cell HBW.out hcell
        have hsn : (midL xs at_ n).take (k + 1) = (midL xs at_ n).take k ++ [rd xs ((at_ + k : Nat) : Int)] := by
          have hl : k < (midL xs at_ n).length := by rw [HML.out]; exact hkn
          rw [List.take_succ_eq_append_getElem hl]
          have e1 := midL_rd (xs := xs) (at_ := at_) hkn
          have e2 : rd (midL xs at_ n) (k : Int) = (midL xs at_ n)[k] := by simp [rd, hl]
          rw [← e2, e1]
          simp
        generalize rd xs ((at_ + k : Nat) : Int) = y at *
        have HSN := Lib.hid hsn
        have hnat : ((at_ : Int) + (k : Int)).toNat = at_ + k := by omega
        clear hsn
        go_wp2_with (first | (at_builtin; refine wpList_append_u8n rfl (.tmp 27) (.tmp 34) 23 rfl w.heap.size 5 Try.underlying23 info5 _ k _ rfl (own_step HO.out (fun q hq => Below.heap_alloc _ _ _ (own_low HO.out q hq).2)) _ _ _ [y] rfl rfl (C_row_at wr _ 5 [y] rfl (by simp)) (k + 1) rfl (by omega) (by have := HBW.out.size; simp; omega) ?_; intro v4 w4 ho hg hat; obtain ⟨A4, c4, ev4, hc4⟩ := own_shape ho; subst ev4; have HO4 := Lib.hid ho; have HG4 := Lib.hid hg; clear ho hg hat))
        go_roundw
        case rel => exact ⟨k + 1, A4, c4, by omega, rfl, by go_num, by rw [HSN.out]; exact HO4.out, (HBW.out.alloc HBW.out.size _).grown HG4.out (by have := HBW.out.size; simp; omega) (fun q hq => (own_low HO.out q hq).1)⟩
        case measure => simp [intOf]; omega
      · have e : k = n := by omega
        subst e
        have e2 : (midL xs at_ k).take k = midL xs at_ k := List.take_of_length_le (by have := HML.out; omega)
        have h9 := HO.out
        rw [e2] at h9
        have HO9 := Lib.hid h9
        clear h9 e2
        go_wp2_with fail
        go_ret3
        exact ⟨⟨.slice Av k cv, by simp, by rw [HML.out]; exact HO9.out⟩, HBW.out⟩

end Go.Proofs.Ytcjniogdjbplbaa

/-! Rn2 -/
namespace Go.Proofs.Ytcjniogdjbplbaa
open Rdr Mem Go.RowKit Go.Proofs.YtcjniogdjbplbaaW.PrintWords Go.Proofs.YtcjniogdjbplbaaW.PrintLast Go.Proofs.YtcjniogdjbplbaaW.PrintMore PStorePlays

set_option maxRecDepth 100000 in
theorem own_string {w : World} {base n : Nat} {A : Option Addr} {c : Nat} {ys : List Int} (h : w.ownsRow base 5 1 (.slice A n c) n (nums8 ys)) (m : Nat) : (convert 23 9 (.slice A n c)).run Try.prog (w.drewN m) = .ok (.string (strOfNums ys)) (w.drewN m) := by
  obtain ⟨A', c', ev, hn, hc, _, hC⟩ := own_C8 h
  injection ev with e1 e2 e3
  subst e1
  subst e3
  rw [hn]
  exact Kd.C_string Try.underlying23 Try.underlying5 Try.underlying9 (Kd.C_drewN hC m)

set_option maxHeartbeats 4000000 in
set_option maxRecDepth 100000 in
theorem ref_name (T : ByteArray × Nat × Int) (A : Option Addr) (c : Nat) (xs : List Int) (at_ ln : Nat) (w : World) (hT : Hid (T = nameOf xs at_)) (hx : U8C w A xs) (hln : Hid (ln = xs.length)) (hm : ln ≤ 1048576) (hb : ∀ x ∈ xs, 0 ≤ x ∧ x ≤ 255) (ha : at_ ≤ ln) (z : Int) (hz : z = at_) :
    Calls Try.prog 55 #[.slice A ln c, .int .i64 z] w fun e w' => e = .returned (.tuple #[.string T.1, .int .i64 T.2.1, .int .i64 T.2.2]) ∧ Below w.heap.size w w' := by
  subst hz
  have HX := Lib.hid hx
  have HBY := Lib.hid hb
  clear hx hb
  by_cases h : ln ≤ at_
  · have hT2 : T = (⟨#[]⟩, at_, 2) := by rw [hT.out]; unfold nameOf; rw [if_pos (by have := hln.out; omega)]
    have HT1 := Lib.hid (show ((0 : Int), at_, (2 : Int)) = numRes xs at_ 1 by unfold numRes; rw [if_pos (by have := hln.out; omega)])
    subst hT2
    go_enter Try.func55, Try.ntmps55
    go_wp2_with (first | (go_at_call 57; refine (ref_num _ A c xs at_ 1 ln _ HT1 HX.out hln hm HBY.out ha (by omega) (by omega) 1 rfl).mono ?_; rintro e w2 ⟨rfl, hb2⟩; have HB2 := Lib.hid hb2; clear hb2))
    go_ret3
    exact ⟨rfl, HB2.out⟩
  · have HT1 := Lib.hid (show (rd xs at_, at_ + 1, (0 : Int)) = numRes xs at_ 1 by
      unfold numRes numOf
      rw [if_neg (by have := hln.out; omega), if_neg (by omega), num32_one xs at_ HBY.out (by have := hln.out; omega)])
    have hv := rd_byte xs at_ HBY.out
    have hT0 : T = if rd xs at_ = 0 ∨ 24 < rd xs at_ then (⟨#[]⟩, at_, 6) else if ln < at_ + 1 + (rd xs at_).toNat then (⟨#[]⟩, at_, 2)
        else if isNameB (strOfNums (midL xs (at_ + 1) (rd xs at_).toNat)) = true then (strOfNums (midL xs (at_ + 1) (rd xs at_).toNat), at_ + 1 + (rd xs at_).toNat, 0) else (⟨#[]⟩, at_, 6) := by
      rw [hT.out]; unfold nameOf; rw [if_neg (by have := hln.out; omega), ← hln.out]
    obtain ⟨v, ev⟩ : ∃ v : Nat, rd xs at_ = v := ⟨(rd xs at_).toNat, by omega⟩
    rw [ev] at HT1 hv hT0
    rw [Int.toNat_natCast] at hT0
    clear ev
    by_cases h1 : (v : Int) = 0 ∨ 24 < (v : Int)
    · rw [if_pos h1] at hT0
      subst hT0
      rcases h1 with h1 | h1
      · have hv0 : ((v : Int) == 0) = true := by simp; omega
        go_enter Try.func55, Try.ntmps55
        go_wp2_with (first | (go_at_call 57; refine (ref_num _ A c xs at_ 1 ln _ HT1 HX.out hln hm HBY.out ha (by omega) (by omega) 1 rfl).mono ?_; rintro e w2 ⟨rfl, hb2⟩; have HB2 := Lib.hid hb2; clear hb2))
        go_ret3
        exact ⟨rfl, HB2.out⟩
      · have hv0 : ((v : Int) == 0) = false := by simp; omega
        go_enter Try.func55, Try.ntmps55
        go_wp2_with (first | (go_at_call 57; refine (ref_num _ A c xs at_ 1 ln _ HT1 HX.out hln hm HBY.out ha (by omega) (by omega) 1 rfl).mono ?_; rintro e w2 ⟨rfl, hb2⟩; have HB2 := Lib.hid hb2; clear hb2))
        go_ret3
        exact ⟨rfl, HB2.out⟩
    · rw [if_neg h1] at hT0
      have hv0 : ((v : Int) == 0) = false := by simp; omega
      have hv24 : (v : Int) ≤ 24 := by omega
      clear h1
      by_cases h2 : ln < at_ + 1 + v
      · rw [if_pos h2] at hT0
        subst hT0
        have HT2 := Lib.hid (show (([] : List Int), at_ + 1, (2 : Int)) = takeOf xs (at_ + 1) v by unfold takeOf; rw [if_neg (by omega), if_pos (by have := hln.out; omega)])
        go_enter Try.func55, Try.ntmps55
        go_wp2_with (first
          | (go_at_call 57; refine (ref_num _ A c xs at_ 1 ln _ HT1 HX.out hln hm HBY.out ha (by omega) (by omega) 1 rfl).mono ?_; rintro e w2 ⟨rfl, hb2⟩; have HB2 := Lib.hid hb2; clear hb2)
          | (go_at_call 58; refine (ref_take _ A c xs (at_ + 1) v ln _ HT2 (Kd.C_below HX.out HB2.out) hln hm HBY.out (by omega) (by omega) _ rfl).mono ?_; rintro e w3 ⟨⟨v3, rfl, ho3⟩, hb3⟩; have HB3 := Lib.hid (HB2.out.trans (hb3.mono HB2.out.size)); clear ho3 hb3))
        go_ret3
        exact ⟨rfl, HB3.out⟩
      · rw [if_neg h2] at hT0
        have HT2 := Lib.hid (show (midL xs (at_ + 1) v, at_ + 1 + v, (0 : Int)) = takeOf xs (at_ + 1) v by unfold takeOf; rw [if_neg (by omega), if_neg (by have := hln.out; omega), Int.toNat_natCast])
        have hml := midL_len (xs := xs) (at_ := at_ + 1) (n := v) (by have := hln.out; omega)
        generalize midL xs (at_ + 1) v = ms at *
        obtain ⟨st, est⟩ : ∃ st, st = strOfNums ms := ⟨_, rfl⟩
        rw [← est] at hT0
        have EST := Lib.hid est
        have HML := Lib.hid hml
        clear est hml
        obtain ⟨b, hib⟩ : ∃ b, isNameB st = b := ⟨_, rfl⟩
        rw [hib] at hT0
        have HB := Lib.hid hib
        clear hib
        cases b with
        | true =>
          rw [if_pos rfl] at hT0
          subst hT0
          go_enter Try.func55, Try.ntmps55
          go_wp2_with (first
            | (go_at_call 57; refine (ref_num _ A c xs at_ 1 ln _ HT1 HX.out hln hm HBY.out ha (by omega) (by omega) 1 rfl).mono ?_; rintro e w2 ⟨rfl, hb2⟩; have HB2 := Lib.hid hb2; clear hb2)
            | (go_at_call 58; refine (ref_take _ A c xs (at_ + 1) v ln _ HT2 (Kd.C_below HX.out HB2.out) hln hm HBY.out (by omega) (by omega) _ rfl).mono ?_; rintro e w3 ⟨⟨v3, rfl, ho3⟩, hb3⟩; have HB3 := Lib.hid (HB2.out.trans (hb3.mono HB2.out.size)); rw [HML.out] at ho3; obtain ⟨A3, c3, ev3, _, _⟩ := own_form ho3; subst ev3; have hcv := own_string ho3; rw [← EST.out] at hcv; have hcv0 := hcv 0; have e0 : w3.drewN 0 = w3 := rfl; rw [e0] at hcv0; clear e0 ho3 hb3)
            | (go_at_call 39; refine (ref_isName_calls st _).mono ?_; rw [HB.out]; rintro e w4 ⟨rfl, ⟨nq2, rfl⟩⟩))
          go_ret3
          exact ⟨rfl, pw_below_drewN HB3.out _⟩
        | false =>
          rw [if_neg (by simp)] at hT0
          subst hT0
          go_enter Try.func55, Try.ntmps55
          go_wp2_with (first
            | (go_at_call 57; refine (ref_num _ A c xs at_ 1 ln _ HT1 HX.out hln hm HBY.out ha (by omega) (by omega) 1 rfl).mono ?_; rintro e w2 ⟨rfl, hb2⟩; have HB2 := Lib.hid hb2; clear hb2)
            | (go_at_call 58; refine (ref_take _ A c xs (at_ + 1) v ln _ HT2 (Kd.C_below HX.out HB2.out) hln hm HBY.out (by omega) (by omega) _ rfl).mono ?_; rintro e w3 ⟨⟨v3, rfl, ho3⟩, hb3⟩; have HB3 := Lib.hid (HB2.out.trans (hb3.mono HB2.out.size)); rw [HML.out] at ho3; obtain ⟨A3, c3, ev3, _, _⟩ := own_form ho3; subst ev3; have hcv := own_string ho3; rw [← EST.out] at hcv; have hcv0 := hcv 0; have e0 : w3.drewN 0 = w3 := rfl; rw [e0] at hcv0; clear e0 ho3 hb3)
            | (go_at_call 39; refine (ref_isName_calls st _).mono ?_; rw [HB.out]; rintro e w4 ⟨rfl, ⟨nq2, rfl⟩⟩))
          go_ret3
          exact ⟨rfl, pw_below_drewN HB3.out _⟩

end Go.Proofs.Ytcjniogdjbplbaa

/-! Ro1 -/
namespace Go.Proofs.Ytcjniogdjbplbaa
open Rdr Mem Go.RowKit Go.Proofs.YtcjniogdjbplbaaW.PrintWords Go.Proofs.YtcjniogdjbplbaaW.PrintLast Go.Proofs.YtcjniogdjbplbaaW.PrintMore PStorePlays

def RefOpen (w : World) (ok : Nat → Prop) (xs : List Int) (r : Option (List S99 × Nat)) (e : Ending) (w' : World) : Prop :=
  Below w.heap.size w w' ∧ match r with
  | none => e = .returned (.tuple #[.agg #[.slice none 0 0, .slice none 0 0], .bool false])
  | some (l, at_) => ∃ B0 d0 B1 d1, e = .returned (.tuple #[.agg #[.slice B0 at_ d0, .slice B1 l.length d1], .bool true]) ∧ at_ ≤ xs.length ∧ RefSt w' ok B0 d0 B1 d1 (xs.take at_) l

theorem num_bd (xs : List Int) (at_ : Nat) (hb : ∀ x ∈ xs, 0 ≤ x ∧ x ≤ 255) : 0 ≤ (numRes xs at_ 2).1 ∧ (numRes xs at_ 2).1 ≤ 65535 := by
  unfold numRes
  split
  · simp
  · unfold numOf
    rw [if_neg (by omega)]
    have hl : (midL xs at_ 2).length = 2 := midL_len (by omega)
    have hm := midL_bytes hb at_ 2
    rw [num32_small _ hm (by omega)]
    have h := numI_bd _ hm
    rw [hl] at h
    simp at h
    simp only
    omega

/-- The boxes: the result, none, the state. -/
structure Ho (w W : World) (b : Nat) (ok : Nat → Prop) (A1 : Option Addr) (n1 c1 : Nat) (l : List S99) : Prop where
  b0 : W.heap[b]? = some (.cells #[.slice none 0 0, .slice none 0 0] 29 (0, 0))
  b1 : W.heap[b + 1]? = some (.cells #[.slice none 0 0, .slice none 0 0] 29 (0, 0))
  b2 : W.heap[b + 1 + 1]? = some (.cells #[.slice none 0 0, .slice A1 n1 c1] 29 (0, 0))
  fl : Kd.F k99 W (fun k => ok k ∧ k ≠ b ∧ k ≠ b + 1 + 1) A1 l.length l
  cl : l.length ≤ c1
  hn : n1 = l.length
  bel : Below b w W
theorem Ho.lt {w W : World} {b : Nat} {ok : Nat → Prop} {A1 : Option Addr} {n1 c1 : Nat} {l : List S99} (h : Ho w W b ok A1 n1 c1 l) : b + 1 + 1 < W.heap.size := blk_lt h.b2
theorem Ho.step {w W W' : World} {b : Nat} {ok : Nat → Prop} {A1 : Option Addr} {n1 c1 : Nat} {l : List S99} (h : Ho w W b ok A1 n1 c1 l) (hb : Below W.heap.size W W') : Ho w W' b ok A1 n1 c1 l :=
  ⟨(hb.block _ (blk_lt h.b0)).trans h.b0, (hb.block _ (blk_lt h.b1)).trans h.b1, (hb.block _ (blk_lt h.b2)).trans h.b2, Kd.F_below h.fl hb, h.cl, h.hn, h.bel.trans (hb.mono (by have := h.lt; omega))⟩
theorem Ho.cells {w W : World} {b : Nat} {ok : Nat → Prop} {A1 : Option Addr} {n1 c1 : Nat} {l : List S99} (h : Ho w W b ok A1 n1 c1 l) :
    W.cell? ⟨b + 1, 0, none⟩ = some (.slice none 0 0) ∧ W.cell? ⟨b + 1, 1, none⟩ = some (.slice none 0 0) ∧ W.cell? ⟨b + 1 + 1, 0, none⟩ = some (.slice none 0 0) ∧ W.cell? ⟨b + 1 + 1, 1, none⟩ = some (.slice A1 n1 c1) ∧ W.cell? ⟨b, 0, none⟩ = some (.slice none 0 0) ∧ W.cell? ⟨b, 1, none⟩ = some (.slice none 0 0) ∧ W.frozen? ⟨b, 0, none⟩ = false ∧ W.frozen? ⟨b, 1, none⟩ = false ∧ W.frozen? ⟨b + 1 + 1, 0, none⟩ = false ∧ W.frozen? ⟨b + 1 + 1, 1, none⟩ = false :=
  ⟨(blk_cell h.b1 0).trans rfl, (blk_cell h.b1 1).trans rfl, (blk_cell h.b2 0).trans rfl, (blk_cell h.b2 1).trans rfl, (blk_cell h.b0 0).trans rfl, (blk_cell h.b0 1).trans rfl, blk_frozen h.b0 0, blk_frozen h.b0 1, blk_frozen h.b2 0, blk_frozen h.b2 1⟩
theorem Ho.put {w W : World} {b : Nat} {ok : Nat → Prop} {A1 : Option Addr} {n1 c1 : Nat} {l : List S99} (h : Ho w W b ok A1 n1 c1 l) {B : Option Addr} {mi d : Nat} {l' : List S99} (hF : Kd.F k99 W (fun k => ok k ∧ k ≠ b ∧ k ≠ b + 1 + 1) B l'.length l') (hd : mi ≤ d) (hm : mi = l'.length) : Ho w (W.setCell ⟨b + 1 + 1, 1, none⟩ (.slice B mi d)) b ok B mi d l' := by
  have hs : ∀ k, k ≠ b + 1 + 1 → (W.setCell ⟨b + 1 + 1, 1, none⟩ (.slice B mi d)).heap[k]? = W.heap[k]? := fun k hk => Below.heap_setCell _ _ _ _ hk
  exact ⟨(hs b (by omega)).trans h.b0, (hs (b + 1) (by omega)).trans h.b1, (blk_set h.b2 1 _).trans rfl, Kd.F_step hF (fun k ho _ => hs k ho.2.2), by omega, hm, h.bel.setCell (show b ≤ b + 1 + 1 by omega) _⟩
theorem Ho.empty {w W : World} {b : Nat} {ok : Nat → Prop} {A1 : Option Addr} {n1 c1 : Nat} {l : List S99} (h : Ho w W b ok A1 n1 c1 l) : ((W.setCell ⟨b, 0, none⟩ (.slice none 0 0)).setCell ⟨b, 1, none⟩ (.slice none 0 0)).cell? ⟨b, 0, none⟩ = some (.slice none 0 0) ∧ ((W.setCell ⟨b, 0, none⟩ (.slice none 0 0)).setCell ⟨b, 1, none⟩ (.slice none 0 0)).cell? ⟨b, 1, none⟩ = some (.slice none 0 0) ∧ Below b w ((W.setCell ⟨b, 0, none⟩ (.slice none 0 0)).setCell ⟨b, 1, none⟩ (.slice none 0 0)) := by
  have hbk := (blk_set ((blk_set h.b0 0 (.slice none 0 0)).trans rfl) 1 (.slice none 0 0)).trans rfl
  exact ⟨(blk_cell hbk 0).trans rfl, (blk_cell hbk 1).trans rfl, (h.bel.setCell (show b ≤ b by omega) _).setCell (show b ≤ b by omega) _⟩

theorem Ho.done {w W : World} {b : Nat} {ok : Nat → Prop} {A1 : Option Addr} {n1 c1 : Nat} {l : List S99} (h : Ho w W b ok A1 n1 c1 l) (u v : Value) :
    (((W.setCell ⟨b + 1 + 1, 0, none⟩ u).setCell ⟨b, 0, none⟩ u).setCell ⟨b, 1, none⟩ v).cell? ⟨b, 0, none⟩ = some u ∧ (((W.setCell ⟨b + 1 + 1, 0, none⟩ u).setCell ⟨b, 0, none⟩ u).setCell ⟨b, 1, none⟩ v).cell? ⟨b, 1, none⟩ = some v ∧ Below b w (((W.setCell ⟨b + 1 + 1, 0, none⟩ u).setCell ⟨b, 0, none⟩ u).setCell ⟨b, 1, none⟩ v) ∧ ∀ k, k ≠ b → k ≠ b + 1 + 1 → (((W.setCell ⟨b + 1 + 1, 0, none⟩ u).setCell ⟨b, 0, none⟩ u).setCell ⟨b, 1, none⟩ v).heap[k]? = W.heap[k]? := by
  have hb0 : (W.setCell ⟨b + 1 + 1, 0, none⟩ u).heap[b]? = some (.cells #[.slice none 0 0, .slice none 0 0] 29 (0, 0)) := (Below.heap_setCell _ _ _ _ (by simp; omega)).trans h.b0
  have hbk := (blk_set ((blk_set hb0 0 u).trans rfl) 1 v).trans rfl
  refine ⟨(blk_cell hbk 0).trans rfl, (blk_cell hbk 1).trans rfl, ((h.bel.setCell (show b ≤ b + 1 + 1 by omega) _).setCell (show b ≤ b by omega) _).setCell (show b ≤ b by omega) _, fun k h1 h2 => ?_⟩
  rw [Below.heap_setCell _ _ _ _ h1, Below.heap_setCell _ _ _ _ h1, Below.heap_setCell _ _ _ _ h2]

set_option maxHeartbeats 4000000 in
set_option maxRecDepth 100000 in
theorem ref_open_long (A : Option Addr) (n c : Nat) (xs : List Int) (ok : Nat → Prop) (w : World) (hn : 1048576 < n) : Calls Try.prog 25 #[.slice A n c] w fun e w' => RefOpen w ok xs none e w' := by
  go_enter Try.func25, Try.ntmps25
  go_wp2_with fail
  refine bodyPost_ret (by simp [results, Try.results25, go_sem]; try rfl) rfl ?_
  refine ⟨?_, rfl⟩
  exact (start_below (w := w)).trans (start_below.mono (by simp))

set_option maxHeartbeats 8000000 in
set_option maxRecDepth 100000 in
theorem ref_open (A : Option Addr) (ln c : Nat) (xs : List Int) (ok : Nat → Prop) (w : World) (hok : ∀ k, w.heap.size ≤ k → ok k) (hx : U8C w A xs) (hln : Hid (ln = xs.length)) (hc : ln ≤ c) (hm : ln ≤ 1048576) (hb : ∀ x ∈ xs, 0 ≤ x ∧ x ≤ 255) :
    Calls Try.prog 25 #[.slice A ln c] w fun e w' => RefOpen w ok xs (openS xs) e w' := by
  have HX := Lib.hid hx
  have HBY := Lib.hid hb
  have HOK := Lib.hid hok
  clear hx hb hok
  go_enter Try.func25, Try.ntmps25
  go_wp2_with fail
  generalize hb0 : w.heap.size = b at *
  have HB := Lib.hid hb0
  refine wp_world (fun W => Ho w W b ok none 0 0 []) ⟨?_, ?_, ?_, fun _ _ => Kd.C_nil _ _, Nat.le_refl _, rfl, ?_⟩ ?_
  · have hz : Obj.cells #[.slice none 0 0, .slice none 0 0] 29 = Obj.cells #[.slice none 0 0, .slice none 0 0] 29 := rfl
    rw [Below.heap_alloc _ _ _ (by first | (simp [hb0]; done) | (simp [hb0]; omega)), Below.heap_alloc _ _ _ (by first | (simp [hb0]; done) | (simp [hb0]; omega))]
    have := heap_alloc_new w (.cells #[.slice none 0 0, .slice none 0 0] 29)
    simpa [hb0] using this
  · rw [Below.heap_alloc _ _ _ (by first | (simp [hb0]; done) | (simp [hb0]; omega))]
    have := heap_alloc_new (w.alloc (.cells #[.slice none 0 0, .slice none 0 0] 29)) (.cells #[.slice none 0 0, .slice none 0 0] 29)
    simpa [hb0] using this
  · have := heap_alloc_new ((w.alloc (.cells #[.slice none 0 0, .slice none 0 0] 29)).alloc (.cells #[.slice none 0 0, .slice none 0 0] 29)) (.cells #[.slice none 0 0, .slice none 0 0] 29)
    simpa [hb0] using this
  · exact hb0 ▸ start3
  clear hb0
  rintro W hho
  have HHO := Lib.hid hho
  clear hho
  go_loopg [6] (xs.length + 1) (fun k t wr => ∃ (at_ n1 c1 : Nat) (l : List S99) (A1 : Option Addr), t = .int .i64 at_ ∧ xs.length - at_ < k ∧ openF k xs at_ l = openS xs ∧ at_ ≤ ln ∧ l.length ≤ 16 ∧ Ho w wr b ok A1 n1 c1 l)
  case atStart => exact ⟨0, 0, 0, [], none, rfl, by omega, rfl, Nat.zero_le _, by simp, HHO.out⟩
  case round =>
    clear HHO
    obtain ⟨at_, n1, c1, l, A1, rfl, hk, hop, hatl, hl16, hho⟩ := hrel
    have HHO := Lib.hid hho
    have HOP := Lib.hid hop
    have HK := Lib.hid hk
    have HN1 := Lib.hid hho.hn
    have hn16 : n1 ≤ 16 := by rw [hho.hn]; exact hl16
    clear hho hop hk hl16
    have hz0 := HHO.out.cells
    obtain ⟨z1, z2, z3, z4, z5, z6, f1, f2, f3, f4⟩ := hz0
    by_cases hco : at_ < xs.length ∧ rd xs at_ ≠ 0
    · obtain ⟨hlt, hz⟩ := hco
      obtain ⟨ad, rfl, hcell, hy0, hy1⟩ := byte_at HX.out HBY.out at_ hlt
      have hcell := old_cell (HB.out.symm ▸ HHO.out.bel) hcell
      have hnum : numRes xs at_ 1 = (rd xs at_, at_ + 1, 0) := by
        unfold numRes numOf
        rw [if_neg (by omega), if_neg (by omega), num32_one xs at_ HBY.out (by omega)]
      have hop := HOP.out
      have hkk := HK.out
      obtain ⟨f, rfl⟩ : ∃ f, gk = f + 1 := ⟨gk - 1, by omega⟩
      rw [openF, if_pos ⟨hlt, hz⟩] at hop
      unfold recS at hop
      rw [hnum] at hop
      simp only at hop
      obtain ⟨y, hy⟩ : ∃ y, rd xs at_ = y := ⟨_, rfl⟩
      rw [hy] at hcell hy0 hy1 hz hop
      have hyz : (y != 0) = true := by simp [hz]
      have hlt2 : (at_ : Int) < ln := by have := hln.out; omega
      have hle1 := nameOf_le (xs := xs) (at_ := at_ + 1) (by omega)
      have hgt1 := nameOf_gt xs (at_ + 1)
      obtain ⟨T1, hT1⟩ : ∃ T1, T1 = nameOf xs (at_ + 1) := ⟨_, rfl⟩
      rw [← hT1] at hop hle1 hgt1
      have HT1 := Lib.hid hT1
      obtain ⟨nm, nx, er⟩ := T1
      simp only at hop hle1 hgt1
      have hy2' : 1 ≤ y := by omega
      clear hy hT1 hnum hz HOP HK
      by_cases hk2 : 2 < y
      · have hop : openS xs = none := by
          rw [← hop]
          split
          · rfl
          · rw [if_neg (by omega), if_pos (by omega)]; rfl
        have HOP := Lib.hid hop
        have HKK := Lib.hid hkk
        clear hop hkk hle1 hgt1
        go_wp2_with (first
          | (go_at_call 55; refine (ref_name _ _ c xs (at_ + 1) ln _ HT1 (Kd.C_below HX.out (HB.out.symm ▸ HHO.out.bel)) hln hm HBY.out (by omega) _ (by omega)).mono ?_; rintro e w2 ⟨rfl, hb2⟩; have HHO2 := Lib.hid (HHO.out.step hb2); obtain ⟨y1, y2, y3, y4, y5, y6, g1, g2, g3, g4⟩ := HHO2.out.cells; clear hb2))
        obtain ⟨t0, t1, tb⟩ := HHO2.out.empty
        refine bodyPost_ret (by simp [results, Try.results25, go_sem, t0, t1]; try rfl) rfl ?_
        rw [HOP.out]
        exact ⟨HB.out.symm ▸ tb, rfl⟩
      · by_cases her : er ≠ 0
        · rw [if_pos her] at hop
          have HOP := Lib.hid (show openS xs = none from hop.symm)
          have HKK := Lib.hid hkk
          have herb : (er != 0) = true := by simp [her]
          clear hop hkk hle1 hgt1
          go_wp2_with (first
            | (go_at_call 55; refine (ref_name _ _ c xs (at_ + 1) ln _ HT1 (Kd.C_below HX.out (HB.out.symm ▸ HHO.out.bel)) hln hm HBY.out (by omega) _ (by omega)).mono ?_; rintro e w2 ⟨rfl, hb2⟩; have HHO2 := Lib.hid (HHO.out.step hb2); obtain ⟨y1, y2, y3, y4, y5, y6, g1, g2, g3, g4⟩ := HHO2.out.cells; clear hb2))
          obtain ⟨t0, t1, tb⟩ := HHO2.out.empty
          refine bodyPost_ret (by simp [results, Try.results25, go_sem, t0, t1]; try rfl) rfl ?_
          rw [HOP.out]
          exact ⟨HB.out.symm ▸ tb, rfl⟩
        · have her0 : er = 0 := Decidable.byContradiction her
          subst her0
          rw [if_neg her] at hop
          have hgt1 := hgt1 rfl
          have hnx : nx ≤ ln := by have := hln.out; omega
          have HP := fun (W : World) (h : Kd.C k99 W A1 l.length l) => place_any A1 c1 l nm W h HHO.out.cl n1 HN1 (by omega)
          obtain ⟨t, ht⟩ : ∃ t, (plc l nm).2 = t := ⟨_, rfl⟩
          simp only [ht] at HP hop
          have HT := Lib.hid ht
          have HOKB := Lib.hid (show ∀ W : World, b + 1 + 1 < W.heap.size → ∀ k, W.heap.size ≤ k → ok k ∧ k ≠ b ∧ k ≠ b + 1 + 1 from fun W hW k hk => ⟨HOK.out k (by omega), by omega, by omega⟩)
          have hil := ins_len' l nm
          have hrl := rem_len' l nm
          rw [ht] at hil hrl
          have HIL := Lib.hid hil
          have HRL := Lib.hid hrl
          have HKK := Lib.hid (show xs.length - nx < f by omega)
          have HNX := Lib.hid (show at_ < nx by omega)
          clear hkk hle1 hgt1 her ht hil hrl
          by_cases hy2 : y = 2
          · subst hy2
            cases t with
            | false =>
              rw [if_neg (by simp), if_pos (by omega)] at hop
              have HOP := Lib.hid (show openS xs = none from hop.symm)
              clear hop
              go_wp2_with (first
                | (go_at_call 55; refine (ref_name _ _ c xs (at_ + 1) ln _ HT1 (Kd.C_below HX.out (HB.out.symm ▸ HHO.out.bel)) hln hm HBY.out (by omega) _ (by omega)).mono ?_; rintro e w2 ⟨rfl, hb2⟩; have HHO2 := Lib.hid (HHO.out.step hb2); obtain ⟨y1, y2, y3, y4, y5, y6, g1, g2, g3, g4⟩ := HHO2.out.cells; clear hb2)
                | (go_at_call 40; refine (HP _ (Kd.F_now HHO2.out.fl)).mono ?_; rintro e w3 ⟨rfl, ⟨np, rfl⟩⟩; have HHO3 := Lib.hid (HHO2.out.step (pw_below_drewN (Below.refl _ _) np)); obtain ⟨y1, y2, y3, y4, y5, y6, g1, g2, g3, g4⟩ := HHO3.out.cells))
              obtain ⟨t0, t1, tb⟩ := HHO3.out.empty
              refine bodyPost_ret (by simp [results, Try.results25, go_sem, t0, t1]; try rfl) rfl ?_
              rw [HOP.out]
              exact ⟨HB.out.symm ▸ tb, rfl⟩
            | true =>
              rw [if_pos ⟨rfl, rfl⟩] at hop
              have HOP := Lib.hid (show openF f xs nx (rem l nm) = openS xs from hop)
              obtain ⟨mi, hmi⟩ : ∃ mi, mi = (rem l nm).length := ⟨_, rfl⟩
              have HMI := Lib.hid hmi
              clear hop hmi
              go_wp2_with (first
                | (go_at_call 55; refine (ref_name _ _ c xs (at_ + 1) ln _ HT1 (Kd.C_below HX.out (HB.out.symm ▸ HHO.out.bel)) hln hm HBY.out (by omega) _ (by omega)).mono ?_; rintro e w2 ⟨rfl, hb2⟩; have HHO2 := Lib.hid (HHO.out.step hb2); obtain ⟨y1, y2, y3, y4, y5, y6, g1, g2, g3, g4⟩ := HHO2.out.cells; clear hb2)
                | (go_at_call 40; refine (HP _ (Kd.F_now HHO2.out.fl)).mono ?_; rintro e w3 ⟨rfl, ⟨np, rfl⟩⟩; have HHO3 := Lib.hid (HHO2.out.step (pw_below_drewN (Below.refl _ _) np)); obtain ⟨y1, y2, y3, y4, y5, y6, g1, g2, g3, g4⟩ := HHO3.out.cells)
                | (go_at_call 56; refine (without_any A1 c1 l n1 nm _ _ (HOKB.out _ HHO3.out.lt) HHO3.out.fl HHO3.out.cl HN1 (by omega) mi HMI).mono ?_; rintro e w4 ⟨⟨B5, d5, rfl, hd5, hF5⟩, hb4⟩; have HHO4 := Lib.hid (HHO3.out.step hb4); have HF5 := Lib.hid hF5; obtain ⟨y1, y2, y3, y4, y5, y6, g1, g2, g3, g4⟩ := HHO4.out.cells; clear hb4 hF5))
              go_roundg f
              case rel => exact ⟨nx, mi, d5, rem l nm, B5, rfl, HKK.out, HOP.out, hnx, by have h8 := HRL.out; have h9 := HN1.out; simp only [if_true] at h8; omega, HHO4.out.put HF5.out hd5 HMI.out⟩
              case measure => omega
          · have hy1' : y = 1 := by omega
            subst hy1'
            rw [if_neg (show ¬ ((1 : Int) = 2 ∧ t = true) by simp), if_neg (show ¬ ((1 : Int) ≠ 1) by simp)] at hop
            have hv2 := num_bd xs nx HBY.out
            have hle2 := numRes_le (xs := xs) (at_ := nx) (n := 2) (by have := hln.out; omega)
            have hge2 := numRes_ge xs nx 2
            obtain ⟨T2, hT2⟩ : ∃ T2, T2 = numRes xs nx 2 := ⟨_, rfl⟩
            rw [← hT2] at hop hv2 hle2 hge2
            obtain ⟨v2, nx2, er2⟩ := T2
            simp only at hop hv2 hle2 hge2
            obtain ⟨v, rfl⟩ : ∃ v : Nat, v2 = v := ⟨v2.toNat, by omega⟩
            have HT2 := Lib.hid hT2
            have hnx2 : nx2 ≤ ln := by have := hln.out; omega
            clear hT2 hle2
            by_cases he2 : er2 ≠ 0 ∨ 4096 < (v : Int)
            · rw [if_pos he2] at hop
              have HOP := Lib.hid (show openS xs = none from hop.symm)
              clear hop
              by_cases he3 : er2 = 0
              · subst he3
                have hv4 : 4096 < (v : Int) := he2.elim (fun e => absurd rfl e) id
                clear he2
                cases t with
                | false =>
                  go_wp2_with (first
                    | (go_at_call 55; refine (ref_name _ _ c xs (at_ + 1) ln _ HT1 (Kd.C_below HX.out (HB.out.symm ▸ HHO.out.bel)) hln hm HBY.out (by omega) _ (by omega)).mono ?_; rintro e w2 ⟨rfl, hb2⟩; have HHO2 := Lib.hid (HHO.out.step hb2); obtain ⟨y1, y2, y3, y4, y5, y6, g1, g2, g3, g4⟩ := HHO2.out.cells; clear hb2)
                    | (go_at_call 40; refine (HP _ (Kd.F_now HHO2.out.fl)).mono ?_; rintro e w3 ⟨rfl, ⟨np, rfl⟩⟩; have HHO3 := Lib.hid (HHO2.out.step (pw_below_drewN (Below.refl _ _) np)); obtain ⟨y1, y2, y3, y4, y5, y6, g1, g2, g3, g4⟩ := HHO3.out.cells)
                    | (go_at_call 57; refine (ref_num _ (some ad) c xs nx 2 ln _ HT2 (Kd.C_below HX.out (HB.out.symm ▸ HHO3.out.bel)) hln hm HBY.out hnx (by omega) (by omega) _ (by omega)).mono ?_; rintro e w4 ⟨rfl, hb4⟩; have HHO4 := Lib.hid (HHO3.out.step hb4); obtain ⟨y1, y2, y3, y4, y5, y6, g1, g2, g3, g4⟩ := HHO4.out.cells; clear hb4))
                  obtain ⟨t0, t1, tb⟩ := HHO4.out.empty
                  refine bodyPost_ret (by simp [results, Try.results25, go_sem, t0, t1]; try rfl) rfl ?_
                  rw [HOP.out]
                  exact ⟨HB.out.symm ▸ tb, rfl⟩
                | true =>
                  go_wp2_with (first
                    | (go_at_call 55; refine (ref_name _ _ c xs (at_ + 1) ln _ HT1 (Kd.C_below HX.out (HB.out.symm ▸ HHO.out.bel)) hln hm HBY.out (by omega) _ (by omega)).mono ?_; rintro e w2 ⟨rfl, hb2⟩; have HHO2 := Lib.hid (HHO.out.step hb2); obtain ⟨y1, y2, y3, y4, y5, y6, g1, g2, g3, g4⟩ := HHO2.out.cells; clear hb2)
                    | (go_at_call 40; refine (HP _ (Kd.F_now HHO2.out.fl)).mono ?_; rintro e w3 ⟨rfl, ⟨np, rfl⟩⟩; have HHO3 := Lib.hid (HHO2.out.step (pw_below_drewN (Below.refl _ _) np)); obtain ⟨y1, y2, y3, y4, y5, y6, g1, g2, g3, g4⟩ := HHO3.out.cells)
                    | (go_at_call 57; refine (ref_num _ (some ad) c xs nx 2 ln _ HT2 (Kd.C_below HX.out (HB.out.symm ▸ HHO3.out.bel)) hln hm HBY.out hnx (by omega) (by omega) _ (by omega)).mono ?_; rintro e w4 ⟨rfl, hb4⟩; have HHO4 := Lib.hid (HHO3.out.step hb4); obtain ⟨y1, y2, y3, y4, y5, y6, g1, g2, g3, g4⟩ := HHO4.out.cells; clear hb4))
                  obtain ⟨t0, t1, tb⟩ := HHO4.out.empty
                  refine bodyPost_ret (by simp [results, Try.results25, go_sem, t0, t1]; try rfl) rfl ?_
                  rw [HOP.out]
                  exact ⟨HB.out.symm ▸ tb, rfl⟩
              · have heb : (er2 != 0) = true := by simp [he3]
                clear he2
                cases t with
                | false =>
                  go_wp2_with (first
                    | (go_at_call 55; refine (ref_name _ _ c xs (at_ + 1) ln _ HT1 (Kd.C_below HX.out (HB.out.symm ▸ HHO.out.bel)) hln hm HBY.out (by omega) _ (by omega)).mono ?_; rintro e w2 ⟨rfl, hb2⟩; have HHO2 := Lib.hid (HHO.out.step hb2); obtain ⟨y1, y2, y3, y4, y5, y6, g1, g2, g3, g4⟩ := HHO2.out.cells; clear hb2)
                    | (go_at_call 40; refine (HP _ (Kd.F_now HHO2.out.fl)).mono ?_; rintro e w3 ⟨rfl, ⟨np, rfl⟩⟩; have HHO3 := Lib.hid (HHO2.out.step (pw_below_drewN (Below.refl _ _) np)); obtain ⟨y1, y2, y3, y4, y5, y6, g1, g2, g3, g4⟩ := HHO3.out.cells)
                    | (go_at_call 57; refine (ref_num _ (some ad) c xs nx 2 ln _ HT2 (Kd.C_below HX.out (HB.out.symm ▸ HHO3.out.bel)) hln hm HBY.out hnx (by omega) (by omega) _ (by omega)).mono ?_; rintro e w4 ⟨rfl, hb4⟩; have HHO4 := Lib.hid (HHO3.out.step hb4); obtain ⟨y1, y2, y3, y4, y5, y6, g1, g2, g3, g4⟩ := HHO4.out.cells; clear hb4))
                  obtain ⟨t0, t1, tb⟩ := HHO4.out.empty
                  refine bodyPost_ret (by simp [results, Try.results25, go_sem, t0, t1]; try rfl) rfl ?_
                  rw [HOP.out]
                  exact ⟨HB.out.symm ▸ tb, rfl⟩
                | true =>
                  go_wp2_with (first
                    | (go_at_call 55; refine (ref_name _ _ c xs (at_ + 1) ln _ HT1 (Kd.C_below HX.out (HB.out.symm ▸ HHO.out.bel)) hln hm HBY.out (by omega) _ (by omega)).mono ?_; rintro e w2 ⟨rfl, hb2⟩; have HHO2 := Lib.hid (HHO.out.step hb2); obtain ⟨y1, y2, y3, y4, y5, y6, g1, g2, g3, g4⟩ := HHO2.out.cells; clear hb2)
                    | (go_at_call 40; refine (HP _ (Kd.F_now HHO2.out.fl)).mono ?_; rintro e w3 ⟨rfl, ⟨np, rfl⟩⟩; have HHO3 := Lib.hid (HHO2.out.step (pw_below_drewN (Below.refl _ _) np)); obtain ⟨y1, y2, y3, y4, y5, y6, g1, g2, g3, g4⟩ := HHO3.out.cells)
                    | (go_at_call 57; refine (ref_num _ (some ad) c xs nx 2 ln _ HT2 (Kd.C_below HX.out (HB.out.symm ▸ HHO3.out.bel)) hln hm HBY.out hnx (by omega) (by omega) _ (by omega)).mono ?_; rintro e w4 ⟨rfl, hb4⟩; have HHO4 := Lib.hid (HHO3.out.step hb4); obtain ⟨y1, y2, y3, y4, y5, y6, g1, g2, g3, g4⟩ := HHO4.out.cells; clear hb4))
                  obtain ⟨t0, t1, tb⟩ := HHO4.out.empty
                  refine bodyPost_ret (by simp [results, Try.results25, go_sem, t0, t1]; try rfl) rfl ?_
                  rw [HOP.out]
                  exact ⟨HB.out.symm ▸ tb, rfl⟩
            · rw [if_neg he2] at hop
              have he3 : er2 = 0 := Decidable.byContradiction (fun e => he2 (.inl e))
              subst he3
              have hv4 : ¬ 4096 < (v : Int) := fun e => he2 (.inr e)
              have hle3 := takeOf_le (xs := xs) (at_ := nx2) (n := v) (by have := hln.out; omega)
              have hge3 := takeOf_ge xs nx2 v
              obtain ⟨T3, hT3⟩ : ∃ T3, T3 = takeOf xs nx2 v := ⟨_, rfl⟩
              rw [← hT3] at hop hle3 hge3
              obtain ⟨bs, nx3, er3⟩ := T3
              simp only at hop hle3 hge3
              have HT3 := Lib.hid hT3
              have hnx3 : nx3 ≤ ln := by have := hln.out; omega
              have HGE := Lib.hid (show nx ≤ nx3 by omega)
              clear hT3 he2 hle3 hge3 hge2 hv2
              by_cases he4 : er3 ≠ 0
              · rw [if_pos he4] at hop
                have HOP := Lib.hid (show openS xs = none from hop.symm)
                have heb : (er3 != 0) = true := by simp [he4]
                clear hop he4
                cases t with
                | false =>
                  go_wp2_with (first
                    | (go_at_call 55; refine (ref_name _ _ c xs (at_ + 1) ln _ HT1 (Kd.C_below HX.out (HB.out.symm ▸ HHO.out.bel)) hln hm HBY.out (by omega) _ (by omega)).mono ?_; rintro e w2 ⟨rfl, hb2⟩; have HHO2 := Lib.hid (HHO.out.step hb2); obtain ⟨y1, y2, y3, y4, y5, y6, g1, g2, g3, g4⟩ := HHO2.out.cells; clear hb2)
                    | (go_at_call 40; refine (HP _ (Kd.F_now HHO2.out.fl)).mono ?_; rintro e w3 ⟨rfl, ⟨np, rfl⟩⟩; have HHO3 := Lib.hid (HHO2.out.step (pw_below_drewN (Below.refl _ _) np)); obtain ⟨y1, y2, y3, y4, y5, y6, g1, g2, g3, g4⟩ := HHO3.out.cells)
                    | (go_at_call 57; refine (ref_num _ (some ad) c xs nx 2 ln _ HT2 (Kd.C_below HX.out (HB.out.symm ▸ HHO3.out.bel)) hln hm HBY.out hnx (by omega) (by omega) _ (by omega)).mono ?_; rintro e w4 ⟨rfl, hb4⟩; have HHO4 := Lib.hid (HHO3.out.step hb4); obtain ⟨y1, y2, y3, y4, y5, y6, g1, g2, g3, g4⟩ := HHO4.out.cells; clear hb4)
                    | (go_at_call 58; refine (ref_take _ (some ad) c xs nx2 v ln _ HT3 (Kd.C_below HX.out (HB.out.symm ▸ HHO4.out.bel)) hln hm HBY.out hnx2 (by omega) _ (by omega)).mono ?_; rintro e w5 ⟨⟨v5, rfl, ho5⟩, hb5⟩; have HHO5 := Lib.hid (HHO4.out.step hb5); have ht5 := own_F ho5 (HOKB.out _ HHO4.out.lt); obtain ⟨A5, c5, ev5, -, hc5, hF5, -⟩ := ht5; subst ev5; obtain ⟨y1, y2, y3, y4, y5, y6, g1, g2, g3, g4⟩ := HHO5.out.cells; have HF5 := Lib.hid hF5; have HC5 := Lib.hid hc5; clear hb5 ho5 hF5 hc5))
                  obtain ⟨t0, t1, tb⟩ := HHO5.out.empty
                  refine bodyPost_ret (by simp [results, Try.results25, go_sem, t0, t1]; try rfl) rfl ?_
                  rw [HOP.out]
                  exact ⟨HB.out.symm ▸ tb, rfl⟩
                | true =>
                  go_wp2_with (first
                    | (go_at_call 55; refine (ref_name _ _ c xs (at_ + 1) ln _ HT1 (Kd.C_below HX.out (HB.out.symm ▸ HHO.out.bel)) hln hm HBY.out (by omega) _ (by omega)).mono ?_; rintro e w2 ⟨rfl, hb2⟩; have HHO2 := Lib.hid (HHO.out.step hb2); obtain ⟨y1, y2, y3, y4, y5, y6, g1, g2, g3, g4⟩ := HHO2.out.cells; clear hb2)
                    | (go_at_call 40; refine (HP _ (Kd.F_now HHO2.out.fl)).mono ?_; rintro e w3 ⟨rfl, ⟨np, rfl⟩⟩; have HHO3 := Lib.hid (HHO2.out.step (pw_below_drewN (Below.refl _ _) np)); obtain ⟨y1, y2, y3, y4, y5, y6, g1, g2, g3, g4⟩ := HHO3.out.cells)
                    | (go_at_call 57; refine (ref_num _ (some ad) c xs nx 2 ln _ HT2 (Kd.C_below HX.out (HB.out.symm ▸ HHO3.out.bel)) hln hm HBY.out hnx (by omega) (by omega) _ (by omega)).mono ?_; rintro e w4 ⟨rfl, hb4⟩; have HHO4 := Lib.hid (HHO3.out.step hb4); obtain ⟨y1, y2, y3, y4, y5, y6, g1, g2, g3, g4⟩ := HHO4.out.cells; clear hb4)
                    | (go_at_call 58; refine (ref_take _ (some ad) c xs nx2 v ln _ HT3 (Kd.C_below HX.out (HB.out.symm ▸ HHO4.out.bel)) hln hm HBY.out hnx2 (by omega) _ (by omega)).mono ?_; rintro e w5 ⟨⟨v5, rfl, ho5⟩, hb5⟩; have HHO5 := Lib.hid (HHO4.out.step hb5); have ht5 := own_F ho5 (HOKB.out _ HHO4.out.lt); obtain ⟨A5, c5, ev5, -, hc5, hF5, -⟩ := ht5; subst ev5; obtain ⟨y1, y2, y3, y4, y5, y6, g1, g2, g3, g4⟩ := HHO5.out.cells; have HF5 := Lib.hid hF5; have HC5 := Lib.hid hc5; clear hb5 ho5 hF5 hc5))
                  obtain ⟨t0, t1, tb⟩ := HHO5.out.empty
                  refine bodyPost_ret (by simp [results, Try.results25, go_sem, t0, t1]; try rfl) rfl ?_
                  rw [HOP.out]
                  exact ⟨HB.out.symm ▸ tb, rfl⟩
              · have he5 : er3 = 0 := Decidable.byContradiction he4
                subst he5
                rw [if_neg he4] at hop
                clear he4
                have hil := HIL.out bs
                obtain ⟨nb, hnb⟩ : ∃ nb, bs.length = nb := ⟨_, rfl⟩
                have HNB := Lib.hid hnb.symm
                clear hnb
                cases t with
                | false =>
                  simp only [Bool.false_eq_true, if_false] at hil
                  by_cases h16 : n1 = 16
                  · rw [if_neg (by have := HN1.out; omega)] at hop
                    have HOP := Lib.hid (show openS xs = none from hop.symm)
                    clear hop hil
                    subst h16
                    go_wp2_with (first
                      | (go_at_call 55; refine (ref_name _ _ c xs (at_ + 1) ln _ HT1 (Kd.C_below HX.out (HB.out.symm ▸ HHO.out.bel)) hln hm HBY.out (by omega) _ (by omega)).mono ?_; rintro e w2 ⟨rfl, hb2⟩; have HHO2 := Lib.hid (HHO.out.step hb2); obtain ⟨y1, y2, y3, y4, y5, y6, g1, g2, g3, g4⟩ := HHO2.out.cells; clear hb2)
                      | (go_at_call 40; refine (HP _ (Kd.F_now HHO2.out.fl)).mono ?_; rintro e w3 ⟨rfl, ⟨np, rfl⟩⟩; have HHO3 := Lib.hid (HHO2.out.step (pw_below_drewN (Below.refl _ _) np)); obtain ⟨y1, y2, y3, y4, y5, y6, g1, g2, g3, g4⟩ := HHO3.out.cells)
                      | (go_at_call 57; refine (ref_num _ (some ad) c xs nx 2 ln _ HT2 (Kd.C_below HX.out (HB.out.symm ▸ HHO3.out.bel)) hln hm HBY.out hnx (by omega) (by omega) _ (by omega)).mono ?_; rintro e w4 ⟨rfl, hb4⟩; have HHO4 := Lib.hid (HHO3.out.step hb4); obtain ⟨y1, y2, y3, y4, y5, y6, g1, g2, g3, g4⟩ := HHO4.out.cells; clear hb4)
                      | (go_at_call 58; refine (ref_take _ (some ad) c xs nx2 v ln _ HT3 (Kd.C_below HX.out (HB.out.symm ▸ HHO4.out.bel)) hln hm HBY.out hnx2 (by omega) _ (by omega)).mono ?_; rintro e w5 ⟨⟨v5, rfl, ho5⟩, hb5⟩; have HHO5 := Lib.hid (HHO4.out.step hb5); have ht5 := own_F ho5 (HOKB.out _ HHO4.out.lt); obtain ⟨A5, c5, ev5, -, hc5, hF5, -⟩ := ht5; subst ev5; obtain ⟨y1, y2, y3, y4, y5, y6, g1, g2, g3, g4⟩ := HHO5.out.cells; have HF5 := Lib.hid hF5; have HC5 := Lib.hid hc5; clear hb5 ho5 hF5 hc5))
                    obtain ⟨t0, t1, tb⟩ := HHO5.out.empty
                    refine bodyPost_ret (by simp [results, Try.results25, go_sem, t0, t1]; try rfl) rfl ?_
                    rw [HOP.out]
                    exact ⟨HB.out.symm ▸ tb, rfl⟩
                  · have h16' : ((n1 : Int) == 16) = false := by simp; omega
                    rw [if_pos (by have := HN1.out; omega)] at hop
                    have HOP := Lib.hid (show openF f xs nx3 (ins l nm bs) = openS xs from hop)
                    have HLE := Lib.hid (show (ins l nm bs).length ≤ 16 by have := HN1.out; omega)
                    obtain ⟨mi, hmi⟩ : ∃ mi, mi = (ins l nm bs).length := ⟨_, rfl⟩
                    have HMI := Lib.hid hmi
                    clear hop hil hmi
                    go_wp2_with (first
                      | (go_at_call 55; refine (ref_name _ _ c xs (at_ + 1) ln _ HT1 (Kd.C_below HX.out (HB.out.symm ▸ HHO.out.bel)) hln hm HBY.out (by omega) _ (by omega)).mono ?_; rintro e w2 ⟨rfl, hb2⟩; have HHO2 := Lib.hid (HHO.out.step hb2); obtain ⟨y1, y2, y3, y4, y5, y6, g1, g2, g3, g4⟩ := HHO2.out.cells; clear hb2)
                      | (go_at_call 40; refine (HP _ (Kd.F_now HHO2.out.fl)).mono ?_; rintro e w3 ⟨rfl, ⟨np, rfl⟩⟩; have HHO3 := Lib.hid (HHO2.out.step (pw_below_drewN (Below.refl _ _) np)); obtain ⟨y1, y2, y3, y4, y5, y6, g1, g2, g3, g4⟩ := HHO3.out.cells)
                      | (go_at_call 57; refine (ref_num _ (some ad) c xs nx 2 ln _ HT2 (Kd.C_below HX.out (HB.out.symm ▸ HHO3.out.bel)) hln hm HBY.out hnx (by omega) (by omega) _ (by omega)).mono ?_; rintro e w4 ⟨rfl, hb4⟩; have HHO4 := Lib.hid (HHO3.out.step hb4); obtain ⟨y1, y2, y3, y4, y5, y6, g1, g2, g3, g4⟩ := HHO4.out.cells; clear hb4)
                      | (go_at_call 58; refine (ref_take _ (some ad) c xs nx2 v ln _ HT3 (Kd.C_below HX.out (HB.out.symm ▸ HHO4.out.bel)) hln hm HBY.out hnx2 (by omega) _ (by omega)).mono ?_; rintro e w5 ⟨⟨v5, rfl, ho5⟩, hb5⟩; rw [← HNB.out] at ho5; have HHO5 := Lib.hid (HHO4.out.step hb5); have ht5 := own_F ho5 (HOKB.out _ HHO4.out.lt); obtain ⟨A5, c5, ev5, -, hc5, hF5, -⟩ := ht5; subst ev5; obtain ⟨y1, y2, y3, y4, y5, y6, g1, g2, g3, g4⟩ := HHO5.out.cells; have HF5 := Lib.hid hF5; have HC5 := Lib.hid hc5; clear hb5 ho5 hF5 hc5)
                      | (go_at_call 42; refine (with_any A1 c1 l n1 nm A5 c5 nb bs _ _ (HOKB.out _ HHO5.out.lt) HHO5.out.fl HHO5.out.cl HN1 (by omega) HF5.out HC5.out HNB mi HMI).mono ?_; rintro e w6 ⟨⟨B6, d6, rfl, hd6, hF6⟩, hb6⟩; have HHO6 := Lib.hid (HHO5.out.step hb6); have HF6 := Lib.hid hF6; obtain ⟨y1, y2, y3, y4, y5, y6, g1, g2, g3, g4⟩ := HHO6.out.cells; clear hb6 hF6))
                    go_roundg f
                    case rel => exact ⟨nx3, mi, d6, ins l nm bs, B6, rfl, by have := HKK.out; have := HGE.out; omega, HOP.out, hnx3, HLE.out, HHO6.out.put HF6.out hd6 HMI.out⟩
                    case measure => omega
                | true =>
                  simp only [if_true] at hil
                  rw [if_pos (by have := HN1.out; omega)] at hop
                  have HOP := Lib.hid (show openF f xs nx3 (ins l nm bs) = openS xs from hop)
                  have HLE := Lib.hid (show (ins l nm bs).length ≤ 16 by have := HN1.out; omega)
                  obtain ⟨mi, hmi⟩ : ∃ mi, mi = (ins l nm bs).length := ⟨_, rfl⟩
                  have HMI := Lib.hid hmi
                  clear hop hil hmi
                  go_wp2_with (first
                    | (go_at_call 55; refine (ref_name _ _ c xs (at_ + 1) ln _ HT1 (Kd.C_below HX.out (HB.out.symm ▸ HHO.out.bel)) hln hm HBY.out (by omega) _ (by omega)).mono ?_; rintro e w2 ⟨rfl, hb2⟩; have HHO2 := Lib.hid (HHO.out.step hb2); obtain ⟨y1, y2, y3, y4, y5, y6, g1, g2, g3, g4⟩ := HHO2.out.cells; clear hb2)
                    | (go_at_call 40; refine (HP _ (Kd.F_now HHO2.out.fl)).mono ?_; rintro e w3 ⟨rfl, ⟨np, rfl⟩⟩; have HHO3 := Lib.hid (HHO2.out.step (pw_below_drewN (Below.refl _ _) np)); obtain ⟨y1, y2, y3, y4, y5, y6, g1, g2, g3, g4⟩ := HHO3.out.cells)
                    | (go_at_call 57; refine (ref_num _ (some ad) c xs nx 2 ln _ HT2 (Kd.C_below HX.out (HB.out.symm ▸ HHO3.out.bel)) hln hm HBY.out hnx (by omega) (by omega) _ (by omega)).mono ?_; rintro e w4 ⟨rfl, hb4⟩; have HHO4 := Lib.hid (HHO3.out.step hb4); obtain ⟨y1, y2, y3, y4, y5, y6, g1, g2, g3, g4⟩ := HHO4.out.cells; clear hb4)
                    | (go_at_call 58; refine (ref_take _ (some ad) c xs nx2 v ln _ HT3 (Kd.C_below HX.out (HB.out.symm ▸ HHO4.out.bel)) hln hm HBY.out hnx2 (by omega) _ (by omega)).mono ?_; rintro e w5 ⟨⟨v5, rfl, ho5⟩, hb5⟩; rw [← HNB.out] at ho5; have HHO5 := Lib.hid (HHO4.out.step hb5); have ht5 := own_F ho5 (HOKB.out _ HHO4.out.lt); obtain ⟨A5, c5, ev5, -, hc5, hF5, -⟩ := ht5; subst ev5; obtain ⟨y1, y2, y3, y4, y5, y6, g1, g2, g3, g4⟩ := HHO5.out.cells; have HF5 := Lib.hid hF5; have HC5 := Lib.hid hc5; clear hb5 ho5 hF5 hc5)
                    | (go_at_call 42; refine (with_any A1 c1 l n1 nm A5 c5 nb bs _ _ (HOKB.out _ HHO5.out.lt) HHO5.out.fl HHO5.out.cl HN1 (by omega) HF5.out HC5.out HNB mi HMI).mono ?_; rintro e w6 ⟨⟨B6, d6, rfl, hd6, hF6⟩, hb6⟩; have HHO6 := Lib.hid (HHO5.out.step hb6); have HF6 := Lib.hid hF6; obtain ⟨y1, y2, y3, y4, y5, y6, g1, g2, g3, g4⟩ := HHO6.out.cells; clear hb6 hF6))
                  go_roundg f
                  case rel => exact ⟨nx3, mi, d6, ins l nm bs, B6, rfl, by have := HKK.out; have := HGE.out; omega, HOP.out, hnx3, HLE.out, HHO6.out.put HF6.out hd6 HMI.out⟩
                  case measure => omega
    · have hop := HOP.out
      obtain ⟨f, rfl⟩ : ∃ f, gk = f + 1 := ⟨gk - 1, by have := HK.out; omega⟩
      rw [openF, if_neg hco] at hop
      have HOP2 := Lib.hid hop.symm
      have hcut : ∀ W : World, (Instr.slice 23 (.slice A ln c) none (some (.int .i64 at_)) none).run Try.prog W = .ok (.slice A at_ c) W := by
        obtain ⟨i0, hi0, hz0, hz1, hz2⟩ := info_parts info5
        intro W
        have := cut_to (P := Try.prog) 23 5 .i64 Try.underlying23 hi0 A ln c (at_ : Int) (by omega) (by omega) hc W
        simpa using this
      have HTK := Lib.hid (show at_ = (xs.take at_).length by rw [List.length_take]; have := hln.out; omega)
      have HCT := Lib.hid (show U8C wr A (xs.take at_) from Kd.C_take (Kd.C_below HX.out (HB.out.symm ▸ HHO.out.bel)) (by have := hln.out; omega))
      clear hop HOP HK
      by_cases hlt : at_ < ln
      · obtain ⟨ad, rfl, hcell, hy0, hy1⟩ := byte_at HX.out HBY.out at_ (by have := hln.out; omega)
        have hcell := old_cell (HB.out.symm ▸ HHO.out.bel) hcell
        have hz : rd xs at_ = 0 := Decidable.byContradiction (fun e => hco ⟨by have := hln.out; omega, e⟩)
        rw [hz] at hcell
        clear hco hz hy0 hy1
        go_wp2_with (first
          | (at_builtin; refine wpList_append_u8n rfl (.tmp 110) (.tmp 113) 23 rfl wr.heap.size 5 Try.underlying23 info5 _ 0 [] rfl (own_row_at wr wr.heap.size _ 5 [] 0 rfl rfl (Nat.le_refl _) (by omega)) _ c at_ (xs.take at_) rfl HTK.out (Kd.C_below HCT.out start_below) at_ (by have := HTK.out; omega) (by omega) (by simp) ?_; intro v4 w4 ho hg hat; have hb4 := (start_below (w := wr) (o := .cells #[] 5)).grown hg (by simp) (fun j hj => by injection hj with hj; subst hj; exact Nat.le_refl _); have HHO4 := Lib.hid (HHO.out.step hb4); obtain ⟨y1, y2, y3, y4, y5, y6, g1, g2, g3, g4⟩ := HHO4.out.cells; have ht4 := own_F (ok := fun k => ok k ∧ k ≠ b ∧ k ≠ b + 1 + 1) ho (fun k hk => ⟨HOK.out k (by have := HHO.out.lt; omega), by have := HHO.out.lt; omega, by have := HHO.out.lt; omega⟩); obtain ⟨A4, c4, ev4, -, hc4, hF4, -⟩ := ht4; subst ev4; have HF4 := Lib.hid hF4; have HC4 := Lib.hid hc4; clear ho hg hat hb4 hF4 hc4))
        obtain ⟨t0, t1, tb, ts⟩ := HHO4.out.done (.slice A4 at_ c4) (.slice A1 n1 c1)
        refine bodyPost_ret (by simp [results, Try.results25, go_sem, t0, t1]; try rfl) rfl ?_
        rw [HOP2.out]
        refine ⟨HB.out.symm ▸ tb, A4, c4, A1, c1, by rw [← HHO4.out.hn], by have := hln.out; omega, ?_⟩
        exact ⟨Kd.F_mono (Kd.F_step HF4.out (fun k ho _ => ts k ho.2.1 ho.2.2)) (fun _ h => h.1), HC4.out, Kd.F_mono (Kd.F_step HHO4.out.fl (fun k ho _ => ts k ho.2.1 ho.2.2)) (fun _ h => h.1), HHO4.out.cl⟩
      · clear hco
        go_wp2_with (first
          | (at_builtin; refine wpList_append_u8n rfl (.tmp 110) (.tmp 113) 23 rfl wr.heap.size 5 Try.underlying23 info5 _ 0 [] rfl (own_row_at wr wr.heap.size _ 5 [] 0 rfl rfl (Nat.le_refl _) (by omega)) _ c at_ (xs.take at_) rfl HTK.out (Kd.C_below HCT.out start_below) at_ (by have := HTK.out; omega) (by omega) (by simp) ?_; intro v4 w4 ho hg hat; have hb4 := (start_below (w := wr) (o := .cells #[] 5)).grown hg (by simp) (fun j hj => by injection hj with hj; subst hj; exact Nat.le_refl _); have HHO4 := Lib.hid (HHO.out.step hb4); obtain ⟨y1, y2, y3, y4, y5, y6, g1, g2, g3, g4⟩ := HHO4.out.cells; have ht4 := own_F (ok := fun k => ok k ∧ k ≠ b ∧ k ≠ b + 1 + 1) ho (fun k hk => ⟨HOK.out k (by have := HHO.out.lt; omega), by have := HHO.out.lt; omega, by have := HHO.out.lt; omega⟩); obtain ⟨A4, c4, ev4, -, hc4, hF4, -⟩ := ht4; subst ev4; have HF4 := Lib.hid hF4; have HC4 := Lib.hid hc4; clear ho hg hat hb4 hF4 hc4))
        obtain ⟨t0, t1, tb, ts⟩ := HHO4.out.done (.slice A4 at_ c4) (.slice A1 n1 c1)
        refine bodyPost_ret (by simp [results, Try.results25, go_sem, t0, t1]; try rfl) rfl ?_
        rw [HOP2.out]
        refine ⟨HB.out.symm ▸ tb, A4, c4, A1, c1, by rw [← HHO4.out.hn], by have := hln.out; omega, ?_⟩
        exact ⟨Kd.F_mono (Kd.F_step HF4.out (fun k ho _ => ts k ho.2.1 ho.2.2)) (fun _ h => h.1), HC4.out, Kd.F_mono (Kd.F_step HHO4.out.fl (fun k ho _ => ts k ho.2.1 ho.2.2)) (fun _ h => h.1), HHO4.out.cl⟩
end Go.Proofs.Ytcjniogdjbplbaa

/-! Py1 -/
namespace Go.Proofs.Ytcjniogdjbplbaa
open Rdr Mem Go.RowKit Go.Proofs.YtcjniogdjbplbaaW.PrintWords Go.Proofs.YtcjniogdjbplbaaW.PrintLast Go.Proofs.YtcjniogdjbplbaaW.PrintMore PStorePlays

theorem op_six (op : Int) : ∃ v, wrap64 ((IntKind.u64.wrap op).tmod 6) = v ∧ (v = 0 ∨ v = 1 ∨ v = 2 ∨ v = 3 ∨ v = 4 ∨ v = 5) := by
  have h0 : 0 ≤ IntKind.u64.wrap op := by unfold IntKind.wrap; simp [IntKind.signed, IntKind.bits]; omega
  have h1 := Int.tmod_eq_emod_of_nonneg (b := 6) h0
  refine ⟨IntKind.u64.wrap op % 6, by rw [h1]; unfold wrap64; omega, by omega⟩

/-- Where the box of the document's state lies. -/
theorem StAt.box {X : Nat → Prop} {w : World} {g M q : Nat} {vi : Value} {img : List Int} {l : List S99} {u v : Value} (h : StAt X w g M vi img l) (hb : w.heap[q]? = some (.cells #[u, v] 29 (0, 0))) : Rest g M vi q := by
  refine ⟨fun e => ?_, h.map.ne hb, own_ne h.own hb (by decide)⟩
  subst e
  have := h.blk.symm.trans hb
  injection this with this
  injection this with _ h2
  cases h2

/-- The pair and the box. -/
structure Pb (q : Nat) (w W : World) (g M : Nat) (vi : Value) (B0 : Option Addr) (d0 : Nat) (B1 : Option Addr) (d1 : Nat) (img : List Int) (l : List S99) : Prop where
  pr : Pair (fun k => k = q) w W g M vi B0 d0 B1 d1 img l
  bx : W.heap[q]? = some (.cells #[.slice B0 img.length d0, .slice B1 l.length d1] 29 (0, 0))
  gd : Good img l
  hq : w.heap.size ≤ q
theorem Pb.below {q : Nat} {w W W' : World} {g M : Nat} {vi : Value} {B0 : Option Addr} {d0 : Nat} {B1 : Option Addr} {d1 : Nat} {img : List Int} {l : List S99} (h : Pb q w W g M vi B0 d0 B1 d1 img l) (hb : Below W.heap.size W W') : Pb q w W' g M vi B0 d0 B1 d1 img l :=
  ⟨h.pr.below hb, (hb.block q (blk_lt h.bx)).trans h.bx, h.gd, h.hq⟩
/-- .. where a new state is put into the box. -/
theorem Pb.put {q : Nat} {w W : World} {g M : Nat} {vi : Value} {B0 : Option Addr} {d0 : Nat} {B1 : Option Addr} {d1 : Nat} {img : List Int} {l : List S99} {u v : Value} (h : Pair (fun k => k = q) w W g M vi B0 d0 B1 d1 img l) (hb : W.heap[q]? = some (.cells #[u, v] 29 (0, 0))) (hg : Good img l) (hq : w.heap.size ≤ q) :
    Pb q w ((W.setCell ⟨q, 0, none⟩ (.slice B0 img.length d0)).setCell ⟨q, 1, none⟩ (.slice B1 l.length d1)) g M vi B0 d0 B1 d1 img l :=
  ⟨h.step set2_chg (fun k e => by subst e; exact ⟨hq, h.st.box hb⟩), (blk_set ((blk_set hb 0 (.slice B0 img.length d0)).trans rfl) 1 (.slice B1 l.length d1)).trans rfl, hg, hq⟩

set_option maxHeartbeats 4000000 in
set_option maxRecDepth 100000 in
theorem plays_walk (S : Option Addr) (m cs : Nat) (w : World) (hs : ScrAt w S m) (hm : m * 48 ≤ 140737488355000) :
    Calls Try.prog 7 #[.slice S m cs] w fun e w' => e = .returned (.bool true) ∧ Below w.heap.size w w' := by
  have HS := Lib.hid hs
  clear hs
  go_enter Try.func7, Try.ntmps7
  go_wp2_with fail
  refine (st_new w).mono ?_
  rintro e w1 ⟨rfl, hst, hb1⟩
  generalize hg0 : w.heap.size = g0 at *
  have HG0 := Lib.hid hg0
  obtain ⟨q, hq⟩ : ∃ q, w1.heap.size = q := ⟨_, rfl⟩
  have hgq : g0 + 1 < q := by rw [← hq]; exact blk_lt hst.blk
  have hsb : Below q w1 (w1.alloc (.cells #[.slice none 0 0, .slice none 0 0] 29)) := hq ▸ start_below
  have hpr : Pair (fun k => k = q) w (w1.alloc (.cells #[.slice none 0 0, .slice none 0 0] 29)) (g0 + 1) g0 (.slice none 0 0) none 0 none 0 [] [] := by
    refine ⟨(hst.shun hsb hq rfl).less (fun k e => .inr ⟨by omega, by simp; omega⟩), refSt_nil _ _, ?_, by omega, by omega, fun k e => by simp [Value.ownBlock] at e⟩
    rw [hg0]
    exact hb1.trans (hsb.mono (by omega))
  have hbx : (w1.alloc (.cells #[.slice none 0 0, .slice none 0 0] 29)).heap[q]? = some (.cells #[.slice none 0 0, .slice none 0 0] 29 (0, 0)) := by
    have := heap_alloc_new w1 (.cells #[.slice none 0 0, .slice none 0 0] 29)
    rwa [hq] at this
  have HPB := Lib.hid (show Pb q w (w1.alloc (.cells #[.slice none 0 0, .slice none 0 0] 29)) (g0 + 1) g0 (.slice none 0 0) none 0 none 0 [] [] from ⟨hpr, hbx, Good.nil, by omega⟩)
  clear hst hb1 hsb hpr hbx hg0
  go_wp2_with fail
  clear hq
  refine (alike_any (g0 + 1) g0 (.slice none 0 0) [] [] none 0 none 0 _ _ HPB.out.pr.st HPB.out.pr.rf 0 0 (Lib.hid rfl) (Lib.hid rfl)).mono ?_
  rintro e w2 ⟨rfl, hb2⟩
  have HPB2 := Lib.hid (HPB.out.below hb2)
  clear HPB hb2
  go_wp2_with fail
  go_loopw [3, 24] (fun s i wr => ∃ (k g M : Nat) (vi : Value) (B0 : Option Addr) (d0 : Nat) (B1 : Option Addr) (d1 : Nat) (img : List Int) (l : List S99), k ≤ m ∧ i = .int .i64 k ∧ s = .pointer (some ⟨g, 0, none⟩) ∧ Pb q w wr g M vi B0 d0 B1 d1 img l) (fun _ i _ => m - (intOf i).toNat)
  case atStart => exact ⟨0, g0 + 1, g0, _, none, 0, none, 0, [], [], Nat.zero_le _, rfl, rfl, HPB2.out⟩
  case round =>
    clear HPB2
    obtain ⟨k, g, M, vi, B0, d0, B1, d1, img, l, hk, rfl, rfl, hpb⟩ := hrel
    have HPB := Lib.hid hpb
    have x0 : wr.cell? ⟨q, 0, none⟩ = some (.slice B0 img.length d0) := (blk_cell hpb.bx 0).trans rfl
    have x1 : wr.cell? ⟨q, 1, none⟩ = some (.slice B1 l.length d1) := (blk_cell hpb.bx 1).trans rfl
    have hql : q < wr.heap.size := blk_lt hpb.bx
    clear hpb
    by_cases hlt : k < m
    · obtain ⟨ad, rfl, op, s, A2, n2, c2, bs, hit⟩ := HS.out k hlt
      have hit2 := hit.below HPB.out.pr.bel
      have i0 := hit2.c0
      have i1 := hit2.c1
      have i2 := hit2.c2
      have HIT := Lib.hid hit
      clear hit hit2
      obtain ⟨ov, hop, hov⟩ := op_six op
      rcases hov with h | h | h | h | h | h <;> subst h
      · go_wp2_with fail
        refine at_world (fun W => Pb q w W g M vi B0 d0 B1 d1 img l) (HPB.out.below start_below) ?_
        rintro W hpb
        have hrq := hpb.pr.st.box hpb.bx
        refine (do_any _ _ _ vi img l s A2 n2 c2 bs B0 d0 B1 d1 w W hpb.pr HIT.out.rd HIT.out.hn HIT.out.hc HIT.out.hc0 HIT.out.hl HIT.out.hs 0 (.inl rfl)).mono ?_
        rintro e W2 hdo
        obtain ⟨vi2, B2, d2, B3, d3, wl3, rfl, hpr2, -, hch⟩ := hpb.pr.next hdo
        have hbx2 := (hch.block q (blk_lt hpb.bx) (fun x => x hrq)).trans hpb.bx
        have hgd2 := hpb.gd.do_ 0 s bs HIT.out.hbb
        have hqq := hpb.hq
        obtain ⟨o2, ho2⟩ : ∃ o2, o2 = doS 0 img l s bs := ⟨_, rfl⟩
        rw [← ho2] at hpr2 hgd2
        rw [← ho2]
        have HPR2 := Lib.hid hpr2
        have HBX3 := Lib.hid hbx2
        have HGD2 := Lib.hid hgd2
        have z0 : W2.cell? ⟨q, 0, none⟩ = some (.slice B0 img.length d0) := (blk_cell hbx2 0).trans rfl
        have z1 : W2.cell? ⟨q, 1, none⟩ = some (.slice B1 l.length d1) := (blk_cell hbx2 1).trans rfl
        have f0 : W2.frozen? ⟨q, 0, none⟩ = false := blk_frozen hbx2 0
        have f1 : W2.frozen? ⟨q, 1, none⟩ = false := blk_frozen hbx2 1
        have hql2 : q < W2.heap.size := blk_lt hbx2
        clear hpb hdo hpr2 hch hbx2 ho2 hgd2 hrq
        go_wp2_with fail
        go_roundw
        case rel => exact ⟨k + 1, g, M, vi2, B2, d2, B3, d3, o2.img, o2.l, by omega, by go_num, rfl, (Pb.put HPR2.out HBX3.out HGD2.out hqq).below start_below⟩
        case measure => simp [intOf]; omega
      · go_wp2_with fail
        refine at_world (fun W => Pb q w W g M vi B0 d0 B1 d1 img l) (HPB.out.below start_below) ?_
        rintro W hpb
        have hrq := hpb.pr.st.box hpb.bx
        refine (do_any _ _ _ vi img l s A2 n2 c2 bs B0 d0 B1 d1 w W hpb.pr HIT.out.rd HIT.out.hn HIT.out.hc HIT.out.hc0 HIT.out.hl HIT.out.hs 1 (.inr rfl)).mono ?_
        rintro e W2 hdo
        obtain ⟨vi2, B2, d2, B3, d3, wl3, rfl, hpr2, -, hch⟩ := hpb.pr.next hdo
        have hbx2 := (hch.block q (blk_lt hpb.bx) (fun x => x hrq)).trans hpb.bx
        have hgd2 := hpb.gd.do_ 1 s bs HIT.out.hbb
        have hqq := hpb.hq
        obtain ⟨o2, ho2⟩ : ∃ o2, o2 = doS 1 img l s bs := ⟨_, rfl⟩
        rw [← ho2] at hpr2 hgd2
        rw [← ho2]
        have HPR2 := Lib.hid hpr2
        have HBX3 := Lib.hid hbx2
        have HGD2 := Lib.hid hgd2
        have z0 : W2.cell? ⟨q, 0, none⟩ = some (.slice B0 img.length d0) := (blk_cell hbx2 0).trans rfl
        have z1 : W2.cell? ⟨q, 1, none⟩ = some (.slice B1 l.length d1) := (blk_cell hbx2 1).trans rfl
        have f0 : W2.frozen? ⟨q, 0, none⟩ = false := blk_frozen hbx2 0
        have f1 : W2.frozen? ⟨q, 1, none⟩ = false := blk_frozen hbx2 1
        have hql2 : q < W2.heap.size := blk_lt hbx2
        clear hpb hdo hpr2 hch hbx2 ho2 hgd2 hrq
        go_wp2_with fail
        go_roundw
        case rel => exact ⟨k + 1, g, M, vi2, B2, d2, B3, d3, o2.img, o2.l, by omega, by go_num, rfl, (Pb.put HPR2.out HBX3.out HGD2.out hqq).below start_below⟩
        case measure => simp [intOf]; omega
      · go_wp2_with fail
        refine at_world (fun W => Pb q w W g M vi B0 d0 B1 d1 img l ∧ W.heap[wr.heap.size]? = some (.cells #[.int .i64 op, .string s, .slice A2 n2 c2] 37 (0, 0))) ⟨HPB.out.below start_below, heap_alloc_new _ _⟩ ?_
        rintro W ⟨hpb, hbt⟩
        refine (get_any _ g M vi img l s W hpb.pr.st HIT.out.hs).mono ?_
        rintro e w7 ⟨hb7, A7, n7, c7, xs7, rfl, hC7, hn7, hc7, h47, hx7⟩
        have hpb7 := hpb.below hb7
        have hbt7 := (hb7.block _ (blk_lt hbt)).trans hbt
        have y0 : w7.cell? ⟨q, 0, none⟩ = some (.slice B0 img.length d0) := (blk_cell hpb7.bx 0).trans rfl
        have y1 : w7.cell? ⟨q, 1, none⟩ = some (.slice B1 l.length d1) := (blk_cell hpb7.bx 1).trans rfl
        have y2 : w7.cell? ⟨wr.heap.size, 1, none⟩ = some (.string s) := (blk_cell hbt7 1).trans rfl
        obtain ⟨ge, hge⟩ : ∃ ge, getE l s = ge := ⟨_, rfl⟩
        have HGE := Lib.hid hge
        rw [hge]
        have HPB7 := Lib.hid hpb7
        have HC7 := Lib.hid hC7
        have HN7 := Lib.hid hn7
        have HX7 := Lib.hid hx7
        clear hpb hbt hb7 hpb7 hbt7 hge hC7 hn7 hx7
        go_wp2_with fail
        refine (ref_get B0 img.length d0 B1 l.length d1 l s w7 (Kd.F_now HPB7.out.pr.rf.fl) HPB7.out.pr.rf.cl (Lib.hid rfl) HPB7.out.gd.few HPB7.out.gd.small).mono ?_
        rintro e w8 ⟨hb8, A8, n8, c8, xs8, rfl, hC8, hn8, hc8, h48, hx8⟩
        rw [← HX7.out] at hx8
        subst hx8
        rw [HGE.out]
        have HPB8 := Lib.hid (HPB7.out.below hb8)
        have HC78 := Lib.hid (Kd.C_below HC7.out hb8)
        have HC8 := Lib.hid hC8
        have HN8 := Lib.hid hn8
        clear hb8 hC8 hn8 HPB7 HC7
        go_wp2_with fail
        refine (equal_same A7 n7 c7 xs8 A8 n8 c8 w8 HC78.out HN7.out hc7 HC8.out HN8.out hc8 (by omega)).mono ?_
        rintro e wa ⟨rfl, ⟨ma, rfl⟩⟩
        go_wp2_with fail
        go_roundw
        case rel => exact ⟨k + 1, g, M, vi, B0, d0, B1, d1, img, l, by omega, by go_num, rfl, HPB8.out.below (pw_below_drewN (Below.refl _ _) _)⟩
        case measure => simp [intOf]; omega
      · go_wp2_with fail
        refine at_world (fun W => Pb q w W g M vi B0 d0 B1 d1 img l) (HPB.out.below start_below) ?_
        rintro W hpb
        refine (st_pack g M vi img l W hpb.pr.st hpb.gd).mono ?_
        rintro e w4 ⟨g3, M3, vi3, rfl, hnew⟩
        have hpb4 := hpb.below hnew.bel
        have hrf := hpb.pr.rf.swap hnew.bel hnew.lg hnew.lM hnew.lv
        have hqW := blk_lt hpb.bx
        have HST4 := Lib.hid (hnew.st.less (Y := fun k => k = q) (fun k e => by subst e; exact hqW))
        have hlw := hpb.pr.bel.size
        have HLW := Lib.hid (show w.heap.size ≤ g3 ∧ w.heap.size ≤ M3 ∧ ∀ k, vi3.ownBlock = some k → w.heap.size ≤ k from ⟨Nat.le_trans hlw hnew.lg, Nat.le_trans hlw hnew.lM, fun k e => Nat.le_trans hlw (hnew.lv k e)⟩)
        have HPB4 := Lib.hid hpb4
        have HRF := Lib.hid hrf
        have y0 : w4.cell? ⟨q, 0, none⟩ = some (.slice B0 img.length d0) := (blk_cell hpb4.bx 0).trans rfl
        have y1 : w4.cell? ⟨q, 1, none⟩ = some (.slice B1 l.length d1) := (blk_cell hpb4.bx 1).trans rfl
        have hql4 : q < w4.heap.size := blk_lt hpb4.bx
        have HOK := Lib.hid (show ∀ k, w4.heap.size ≤ k → RX (fun k => k = q) g3 M3 vi3 k from fun k hk => ⟨⟨by have := blk_lt HST4.out.blk; omega, by have := HST4.out.map.lt; omega, fun e => by have := (own_low HST4.out.own k e).2; omega⟩, by omega⟩)
        clear hpb hnew hpb4 hrf hqW hlw
        go_wp2_with fail
        refine (ref_pack B0 img.length d0 B1 l.length d1 l _ w4 HOK.out (Kd.F_now HRF.out.fl) HRF.out.cl (Lib.hid rfl) HPB4.out.gd.few HPB4.out.gd.small (by have := HPB4.out.gd.pack; have := HPB4.out.gd.room; omega)).mono ?_
        rintro e w5 ⟨⟨B5, d5, nn, rfl, hnn, hd5, hF5⟩, hb5⟩
        subst hnn
        have hpr5 : Pair (fun k => k = q) w w5 g3 M3 vi3 B5 d5 B1 d1 (packL l) l := ⟨HST4.out.step hb5, ⟨hF5, hd5, (HRF.out.below hb5).fl, HRF.out.cl⟩, (HPB4.out.below hb5).pr.bel, HLW.out.1, HLW.out.2.1, HLW.out.2.2⟩
        have hbx5 := (HPB4.out.below hb5).bx
        have HPR5 := Lib.hid hpr5
        have HBX5 := Lib.hid hbx5
        have HGD5 := Lib.hid HPB4.out.gd.packed
        have hqq := HPB4.out.hq
        have z0 : w5.cell? ⟨q, 0, none⟩ = some (.slice B0 img.length d0) := (blk_cell hbx5 0).trans rfl
        have z1 : w5.cell? ⟨q, 1, none⟩ = some (.slice B1 l.length d1) := (blk_cell hbx5 1).trans rfl
        have f0 : w5.frozen? ⟨q, 0, none⟩ = false := blk_frozen hbx5 0
        have f1 : w5.frozen? ⟨q, 1, none⟩ = false := blk_frozen hbx5 1
        have hql5 : q < w5.heap.size := blk_lt hbx5
        clear hpr5 hbx5 hb5 hF5
        go_wp2_with fail
        go_roundw
        case rel => exact ⟨k + 1, g3, M3, vi3, B5, d5, B1, d1, packL l, l, by omega, by go_num, rfl, (Pb.put HPR5.out HBX5.out HGD5.out hqq)⟩
        case measure => simp [intOf]; omega
      · obtain ⟨n, hn⟩ : ∃ n, img.length = n := ⟨_, rfl⟩
        have HN := Lib.hid hn.symm
        have hroom := HPB.out.gd.room
        rw [hn] at hroom
        clear hn
        go_wp2_with fail
        refine at_world (fun W => Pb q w W g M vi B0 d0 B1 d1 img l) (HPB.out.below start_below) ?_
        rintro W hpb
        refine (st_image g M vi img l n HN W hpb.pr.st).mono ?_
        rintro e w2 ⟨rfl, rfl⟩
        have HPBW := Lib.hid hpb
        clear hpb
        go_wp2_with fail
        refine (open_any (some ⟨W.heap.size, 0, none⟩) n n img _ (u8row_C W img (by have := HN.out; omega)) HN (Nat.le_refl _) (by omega) HPBW.out.gd.bytes).mono ?_
        rintro e w3 ⟨hb3, hres⟩
        have hos : openS img = some (l, img.length) := by have := HPBW.out.gd.par.opens [] (.inl rfl); simpa using this
        rw [hos] at hres
        obtain ⟨g2, M2, vi2, rfl, lg2, lM2, lv2, hst2⟩ := hres
        rw [List.take_length] at hst2
        have hpb1 := HPBW.out.below (start_below (o := .cells (u8row img) 5))
        have hqW := blk_lt hpb1.bx
        have hlw := hpb1.pr.bel.size
        have hpr3 : Pair (fun k => k = q) w w3 g2 M2 vi2 B0 d0 B1 d1 img l := ⟨hst2.less (fun k e => by subst e; exact hqW), hpb1.pr.rf.swap hb3 lg2 lM2 lv2, (hpb1.below hb3).pr.bel, Nat.le_trans hlw lg2, Nat.le_trans hlw lM2, fun k e => Nat.le_trans hlw (lv2 k e)⟩
        have HPB3 := Lib.hid (show Pb q w w3 g2 M2 vi2 B0 d0 B1 d1 img l from ⟨hpr3, (hpb1.below hb3).bx, hpb1.gd, hpb1.hq⟩)
        clear hb3 hos lg2 lM2 lv2 hst2 hpb1 hqW hlw hpr3
        go_wp2_with fail
        go_roundw
        case rel => exact ⟨k + 1, g2, M2, vi2, B0, d0, B1, d1, img, l, by omega, by go_num, rfl, HPB3.out⟩
        case measure => simp [intOf]; omega
      · go_wp2_with fail
        refine at_world (fun W => Pb q w W g M vi B0 d0 B1 d1 img l) (HPB.out.below start_below) ?_
        rintro W hpb
        refine (alike_any g M vi img l B0 d0 B1 d1 _ W hpb.pr.st hpb.pr.rf _ _ (Lib.hid rfl) (Lib.hid rfl)).mono ?_
        rintro e W2 ⟨rfl, hb2⟩
        have HPB2 := Lib.hid (hpb.below hb2)
        clear hpb hb2
        go_wp2_with fail
        go_roundw
        case rel => exact ⟨k + 1, g, M, vi, B0, d0, B1, d1, img, l, by omega, by go_num, rfl, HPB2.out⟩
        case measure => simp [intOf]; omega
    · go_wp2_with fail
      refine (alike_any g M vi img l B0 d0 B1 d1 _ wr HPB.out.pr.st HPB.out.pr.rf _ _ (Lib.hid rfl) (Lib.hid rfl)).mono ?_
      rintro e W2 ⟨rfl, hb2⟩
      have HB2 := Lib.hid (HPB.out.pr.bel.trans (hb2.mono HPB.out.pr.bel.size))
      clear hb2
      go_wp2_with fail
      go_ret
      exact ⟨rfl, HB2.out⟩

end Go.Proofs.Ytcjniogdjbplbaa

/-! Os1 -/
namespace Go.Proofs.Ytcjniogdjbplbaa
open Rdr Mem Go.RowKit Go.Proofs.YtcjniogdjbplbaaW.PrintWords Go.Proofs.YtcjniogdjbplbaaW.PrintLast Go.Proofs.YtcjniogdjbplbaaW.PrintMore PStorePlays


theorem below_chg {B g1 : Nat} {w W2 W : World} (h : Below B w W2) (hc : Chg (fun k => k = g1) W2 W) (hg : B ≤ g1) (hB : B ≤ W2.heap.size) : Below B w W := h.trans (hc.below hB (fun k hk e => by omega))

set_option maxHeartbeats 8000000 in
set_option maxRecDepth 100000 in
theorem opens_walk (A : Option Addr) (n c : Nat) (xs : List Int) (w : World) (hx : U8C w A xs) (hn : Hid (n = xs.length)) (hc : n ≤ c) (hc0 : A = none → c = 0) (hl : n ≤ 140737488355000) (hb : ∀ x ∈ xs, 0 ≤ x ∧ x ≤ 255) :
    Calls Try.prog 5 #[.slice A n c] w fun e w' => e = .returned (.bool true) ∧ Below w.heap.size w w' := by
  have HX := Lib.hid hx
  have HBY := Lib.hid hb
  have HRO := Lib.hid (roomy_any A c n xs w hx hn.out hc0 hl)
  clear hx hb hc0
  go_enter Try.func5, Try.ntmps5
  go_wp2_with fail
  refine HRO.out.mono ?_
  rintro e w1 ⟨g1, cap, rfl, ho, hb1⟩
  have hcap := own_cap ho
  obtain ⟨cur, hcu, hge, _, hcs0, hcells⟩ := own_blk ho
  have hmk : ∀ (j : Nat) (x : Int), (marked xs)[j]? = some x → cur[j]? = some (.int .u8 x) := fun j x hj => hcells j _ (by simp [nums, hj])
  have hxs : ∀ (j : Nat) (x : Int), xs[j]? = some x → (marked xs)[j]? = some x := fun j x hj => by
    rw [marked, List.getElem?_append_left (List.getElem?_eq_some_iff.1 hj).1]; exact hj
  have HF := Lib.hid (show U8C w1 (some ⟨g1, 0, none⟩) xs from C_int_of_blk (t := 5) (fr := (0, 0)) hcu (fun j x hj => hmk j x (hxs j x hj)) (by have := hn.out; omega))
  have HMC := Lib.hid (show U8C w1 (some ⟨g1, 0, none⟩) (marked xs) from C_int_of_blk (t := 5) (fr := (0, 0)) hcu hmk (by have := hn.out; simp [marked]; omega))
  have HCX := Lib.hid (show ∀ j, j < n → ∃ x, cur[j]? = some (.int .u8 x) from fun j hj => ⟨_, hmk j _ (List.getElem?_eq_getElem (show j < (marked xs).length by have := hn.out; simp [marked]; omega))⟩)
  have HCU := Lib.hid hcu
  have HGL := Lib.hid (blk_lt hcu)
  have HG1 := Lib.hid hge
  have HB1 := Lib.hid hb1
  clear HRO ho hb1 hcu hge hcs0 hcells hmk hxs
  go_wp2_with fail
  by_cases hbig : 1048576 < n
  · refine (open_long (some ⟨g1, 0, none⟩) n cap xs w1 hbig).mono ?_
    rintro e w2 ⟨hb2, hres⟩
    simp only at hres
    subst hres
    have HB2 := Lib.hid hb2
    have hcu2 := (hb2.block g1 HGL.out).trans HCU.out
    have HCU2 := Lib.hid hcu2
    have HMK2 := Lib.hid (Kd.C_below HMC.out hb2)
    have HX2 := Lib.hid (Kd.C_below HX.out (HB1.out.trans (hb2.mono HB1.out.size)))
    clear hb2 hcu2
    go_wp2_with fail
    refine (untouched_c (some ⟨g1, 0, none⟩) cap A c xs n w2 HMK2.out (by omega) HX2.out (by have := hn.out; omega) (by have := hn.out; omega) hn).mono ?_
    rintro e w3 ⟨rfl, ⟨m3, rfl⟩⟩
    go_wp2_with fail
    go_loopw [26] (fun i wr => ∃ k : Nat, k ≤ n ∧ i = .int .i64 k ∧ Chg (fun k => k = g1) w2 wr ∧ ∃ cur, wr.heap[g1]? = some (.cells cur 5 (0, 0)) ∧ ∀ j, j < n → ∃ x, cur[j]? = some (.int .u8 x)) (fun i _ => n - (intOf i).toNat)
    case atStart => exact ⟨0, Nat.zero_le _, rfl, Chg.of_below (pw_below_drewN (Below.refl _ _) _), _, HCU2.out, HCX.out⟩
    case round =>
      obtain ⟨k, hk, rfl, hch, cur2, hc2, hy2⟩ := hrel
      have HCH := Lib.hid hch
      have HC2 := Lib.hid hc2
      have HY2 := Lib.hid hy2
      clear hch hc2 hy2
      by_cases hlt : k < n
      · obtain ⟨y, hy⟩ := HY2.out k hlt
        have ck : wr.cell? ⟨g1, k, none⟩ = some (.int .u8 y) := (blk_cell HC2.out k).trans hy
        have fk : wr.frozen? ⟨g1, k, none⟩ = false := blk_frozen HC2.out k
        clear hy
        go_wp2_with fail
        go_roundw
        case rel =>
          refine ⟨k + 1, by omega, by go_num, HCH.out.trans (Chg.set _ _ _ rfl), _, blk_set HC2.out k _, fun j hj => ?_⟩
          obtain ⟨x, hx⟩ := HY2.out j hj
          by_cases e : j = k
          · subst e
            exact ⟨_, by rw [Array.getElem?_setIfInBounds_self_of_lt (Array.getElem?_eq_some_iff.1 hx).1]⟩
          · exact ⟨x, by rw [Array.getElem?_setIfInBounds_ne (by omega)]; exact hx⟩
        case measure => simp [intOf]; omega
      · have HBW := Lib.hid (show Below w.heap.size w wr from below_chg (HB1.out.trans (HB2.out.mono HB1.out.size)) HCH.out HG1.out (Nat.le_trans HB1.out.size HB2.out.size))
        clear HC2 HY2
        go_wp2_with fail
        refine (ref_open_long A n c xs (fun _ => True) wr hbig).mono ?_
        rintro e w5 ⟨hb5, hres5⟩
        simp only at hres5
        subst hres5
        have HB5 := Lib.hid (HBW.out.trans (hb5.mono HBW.out.size))
        clear hb5
        go_wp2_with fail
        go_ret
        exact ⟨rfl, HB5.out.trans (start_below.mono HB5.out.size)⟩
  · cases hos : openS xs with
    | none =>
      have HOS := Lib.hid hos
      clear hos
      refine (open_any (some ⟨g1, 0, none⟩) n cap xs w1 HF.out hn (by omega) (by omega) HBY.out).mono ?_
      rintro e w2 ⟨hb2, hres⟩
      rw [HOS.out] at hres
      simp only at hres
      subst hres
      have HB2 := Lib.hid hb2
      have hcu2 := (hb2.block g1 HGL.out).trans HCU.out
      have HCU2 := Lib.hid hcu2
      have HMK2 := Lib.hid (Kd.C_below HMC.out hb2)
      have HX2 := Lib.hid (Kd.C_below HX.out (HB1.out.trans (hb2.mono HB1.out.size)))
      clear hb2 hcu2
      go_wp2_with fail
      refine (untouched_c (some ⟨g1, 0, none⟩) cap A c xs n w2 HMK2.out (by omega) HX2.out (by have := hn.out; omega) (by have := hn.out; omega) hn).mono ?_
      rintro e w3 ⟨rfl, ⟨m3, rfl⟩⟩
      go_wp2_with fail
      go_loopw [26] (fun i wr => ∃ k : Nat, k ≤ n ∧ i = .int .i64 k ∧ Chg (fun k => k = g1) w2 wr ∧ ∃ cur, wr.heap[g1]? = some (.cells cur 5 (0, 0)) ∧ ∀ j, j < n → ∃ x, cur[j]? = some (.int .u8 x)) (fun i _ => n - (intOf i).toNat)
      case atStart => exact ⟨0, Nat.zero_le _, rfl, Chg.of_below (pw_below_drewN (Below.refl _ _) _), _, HCU2.out, HCX.out⟩
      case round =>
        obtain ⟨k, hk, rfl, hch, cur2, hc2, hy2⟩ := hrel
        have HCH := Lib.hid hch
        have HC2 := Lib.hid hc2
        have HY2 := Lib.hid hy2
        clear hch hc2 hy2
        by_cases hlt : k < n
        · obtain ⟨y, hy⟩ := HY2.out k hlt
          have ck : wr.cell? ⟨g1, k, none⟩ = some (.int .u8 y) := (blk_cell HC2.out k).trans hy
          have fk : wr.frozen? ⟨g1, k, none⟩ = false := blk_frozen HC2.out k
          clear hy
          go_wp2_with fail
          go_roundw
          case rel =>
            refine ⟨k + 1, by omega, by go_num, HCH.out.trans (Chg.set _ _ _ rfl), _, blk_set HC2.out k _, fun j hj => ?_⟩
            obtain ⟨x, hx⟩ := HY2.out j hj
            by_cases e : j = k
            · subst e
              exact ⟨_, by rw [Array.getElem?_setIfInBounds_self_of_lt (Array.getElem?_eq_some_iff.1 hx).1]⟩
            · exact ⟨x, by rw [Array.getElem?_setIfInBounds_ne (by omega)]; exact hx⟩
          case measure => simp [intOf]; omega
        · have HBW := Lib.hid (show Below w.heap.size w wr from below_chg (HB1.out.trans (HB2.out.mono HB1.out.size)) HCH.out HG1.out (Nat.le_trans HB1.out.size HB2.out.size))
          clear HC2 HY2
          go_wp2_with fail
          refine (ref_open A n c xs (fun _ => True) wr (fun _ _ => trivial) (Kd.C_below HX.out HBW.out) hn hc (by omega) HBY.out).mono ?_
          rintro e w5 ⟨hb5, hres5⟩
          rw [HOS.out] at hres5
          simp only at hres5
          subst hres5
          have HB5 := Lib.hid (HBW.out.trans (hb5.mono HBW.out.size))
          clear hb5
          go_wp2_with fail
          go_ret
          exact ⟨rfl, HB5.out.trans (start_below.mono HB5.out.size)⟩
    | some p =>
      obtain ⟨l, at_⟩ := p
      have HOS := Lib.hid hos
      clear hos
      refine (open_any (some ⟨g1, 0, none⟩) n cap xs w1 HF.out hn (by omega) (by omega) HBY.out).mono ?_
      rintro e w2 ⟨hb2, hres⟩
      rw [HOS.out] at hres
      obtain ⟨g, M, vi, rfl, lg, lM, lv, hst⟩ := hres
      have HST := Lib.hid (hst.less (Y := fun k => k = g1) (fun k e => by subst e; exact HGL.out))
      have HLV := Lib.hid (show w1.heap.size ≤ g ∧ w1.heap.size ≤ M ∧ ∀ k, vi.ownBlock = some k → w1.heap.size ≤ k from ⟨lg, lM, lv⟩)
      clear lg lM lv hst
      have HB2 := Lib.hid hb2
      have hcu2 := (hb2.block g1 HGL.out).trans HCU.out
      have HCU2 := Lib.hid hcu2
      have HMK2 := Lib.hid (Kd.C_below HMC.out hb2)
      have HX2 := Lib.hid (Kd.C_below HX.out (HB1.out.trans (hb2.mono HB1.out.size)))
      clear hb2 hcu2
      go_wp2_with fail
      refine (untouched_c (some ⟨g1, 0, none⟩) cap A c xs n w2 HMK2.out (by omega) HX2.out (by have := hn.out; omega) (by have := hn.out; omega) hn).mono ?_
      rintro e w3 ⟨rfl, ⟨m3, rfl⟩⟩
      go_wp2_with fail
      go_loopw [26] (fun i wr => ∃ k : Nat, k ≤ n ∧ i = .int .i64 k ∧ Chg (fun k => k = g1) w2 wr ∧ ∃ cur, wr.heap[g1]? = some (.cells cur 5 (0, 0)) ∧ ∀ j, j < n → ∃ x, cur[j]? = some (.int .u8 x)) (fun i _ => n - (intOf i).toNat)
      case atStart => exact ⟨0, Nat.zero_le _, rfl, Chg.of_below (pw_below_drewN (Below.refl _ _) _), _, HCU2.out, HCX.out⟩
      case round =>
        obtain ⟨k, hk, rfl, hch, cur2, hc2, hy2⟩ := hrel
        have HCH := Lib.hid hch
        have HC2 := Lib.hid hc2
        have HY2 := Lib.hid hy2
        clear hch hc2 hy2
        by_cases hlt : k < n
        · obtain ⟨y, hy⟩ := HY2.out k hlt
          have ck : wr.cell? ⟨g1, k, none⟩ = some (.int .u8 y) := (blk_cell HC2.out k).trans hy
          have fk : wr.frozen? ⟨g1, k, none⟩ = false := blk_frozen HC2.out k
          clear hy
          go_wp2_with fail
          go_roundw
          case rel =>
            refine ⟨k + 1, by omega, by go_num, HCH.out.trans (Chg.set _ _ _ rfl), _, blk_set HC2.out k _, fun j hj => ?_⟩
            obtain ⟨x, hx⟩ := HY2.out j hj
            by_cases e : j = k
            · subst e
              exact ⟨_, by rw [Array.getElem?_setIfInBounds_self_of_lt (Array.getElem?_eq_some_iff.1 hx).1]⟩
            · exact ⟨x, by rw [Array.getElem?_setIfInBounds_ne (by omega)]; exact hx⟩
          case measure => simp [intOf]; omega
        · have HBW := Lib.hid (show Below w.heap.size w wr from below_chg (HB1.out.trans (HB2.out.mono HB1.out.size)) HCH.out HG1.out (Nat.le_trans HB1.out.size HB2.out.size))
          clear HC2 HY2
          go_wp2_with fail
          have hst4 := HST.out.turn HCH.out (fun k e => ⟨by have := HLV.out.1; have := HGL.out; omega, by have := HLV.out.2.1; have := HGL.out; omega, fun e2 => by have := HLV.out.2.2 _ e2; have := HGL.out; omega⟩)
          have HST4 := Lib.hid (hst4.less (Y := fun _ => False) (fun _ e => e.elim))
          clear hst4
          refine (ref_open A n c xs (RX (fun _ => False) g M vi) wr (fun k hk => ⟨⟨by have := blk_lt HST4.out.blk; omega, by have := HST4.out.map.lt; omega, fun e => by have := (own_low HST4.out.own k e).2; omega⟩, fun e => e⟩) (Kd.C_below HX.out HBW.out) hn hc (by omega) HBY.out).mono ?_
          rintro e w5 ⟨hb5, hres5⟩
          rw [HOS.out] at hres5
          obtain ⟨B0, d0, B1, d1, rfl, hat, hrf⟩ := hres5
          have HST5 := Lib.hid (HST4.out.step hb5)
          have HRF := Lib.hid hrf
          have HAT := Lib.hid (show at_ = (xs.take at_).length by rw [List.length_take]; omega)
          clear hrf hat
          have HB5 := Lib.hid (HBW.out.trans (hb5.mono HBW.out.size))
          clear hb5
          go_wp2_with fail
          refine at_world (fun W => StAt (fun _ => False) W g M vi (xs.take at_) l ∧ RefSt W (RX (fun _ => False) g M vi) B0 d0 B1 d1 (xs.take at_) l ∧ Below w.heap.size w W) ⟨HST5.out.step start_below, HRF.out.below start_below, HB5.out.trans (start_below.mono HB5.out.size)⟩ ?_
          rintro W ⟨hs, hr, hbw⟩
          refine (alike_any g M vi (xs.take at_) l B0 d0 B1 d1 _ W hs hr at_ l.length HAT (Lib.hid rfl)).mono ?_
          rintro e W6 ⟨rfl, hb6⟩
          have HB6 := Lib.hid (hbw.trans (hb6.mono hbw.size))
          clear hs hr hbw hb6
          go_wp2_with fail
          go_ret
          exact ⟨rfl, HB6.out⟩

end Go.Proofs.Ytcjniogdjbplbaa

/-! OpensRow -/
namespace Go.Proofs.Ytcjniogdjbplbaa.storeOpens
open Rd Go.ChangeShapes Go.WideShapes Go.ChangeAt Go.RowKit Go.Proofs.YtcjniogdjbplbaaW.PrintWords
set_option linter.unusedVariables false
theorem own : ownKnob Try.prog.godebug = none := by kernel_rfl
theorem laidOut : laidOutB Try.prog = true := by kernel_rfl

set_option maxRecDepth 100000 in
theorem lifted (os : Os) (started : os.Started) (H : Type) (enc : TypeId × Value → H) :
    ReturnsInHanded {} Try.checked os 5 .any (Rows.storeOpensSpec.pre6 enc Try.prog Try.f5 Rows.storeOpensRow.domain false) (Rows.storeOpensSpec.post enc Try.prog Try.f5 false true false false) := by
  refine returnsInHanded_of_change_sized (C := Try.checked) own started (by kernel_rfl) Try.func5
    (ChangeSpec.witness6 (enc := enc) (C := Try.checked) false ⟨#[], #[.slice none 0 0], []⟩ 8 (by kernel_rfl) (by kernel_rfl) (by kernel_rfl) (by kernel_rfl)) ?_
  intro W base args ds gs before hval0 hW hcnd hsz0 _
  have hsz : (DataW.weightsEach Try.prog (Try.f5.params.toList ++ Rows.storeOpensSpec.plain.varTypes Try.prog) (ds ++ gs)).all (· ≤ reachBytes) = true := hsz0
  have hval : ∀ (j : Nat) t v, Try.f5.params[j]? = some t → args[j]? = some v → Value.okWide Try.prog W .any base t v := hval0
  have hW' := hW
  obtain ⟨p, q, hA0, hV, rfl, hfz, hnd⟩ := hW
  have hA : DataW.TrodAll enc Try.prog W 0 (fun _ => true) true Try.f5.params.toList args.toList ds p := hA0
  rw [Try.params5] at hA hval hsz
  obtain ⟨v0, vs0, d0, ds0, p0, q0, hargs, rfl, rfl, h0, r0⟩ := trodAll_cons hA
  obtain ⟨rfl, rfl, rfl⟩ := trodAll_nil r0
  obtain rfl : args = #[v0] := by cases args; simp_all
  obtain ⟨rfl, rfl⟩ := trodVars_none hV
  obtain ⟨a0, len0, cap0, rfl⟩ := okWide_slice Try.underlying23 (hval 0 23 v0 rfl rfl)
  have k0 := h0
  have lt0 : ∀ x ∈ p0, x.block < W.heap.size := by obtain ⟨m, hm⟩ := k0; exact DataW.trod_lt m _ _ _ hm
  obtain ⟨xs0, hn0, hc0, hz0, hl0, hC0, hwf0⟩ := top_ints Try.underlying23 Try.underlying5 cells5 bytes5 h0 (WOk.top hsz (j := 0) rfl rfl)
  clear hA0 hval0 hsz0 hsz
  refine (opens_walk a0 len0 cap0 xs0 W hC0 (Lib.hid hn0) hc0 hz0 (by omega) (wf_byte hwf0)).mono fun e W' ⟨he, bel⟩ => ?_
  subst he
  exact ⟨_, rfl, _, _, _, [], _, [], hW', trodAll_mk1 (shut_bool Try.underlying4 _), (trodAll_cons_mk (Below.trod laidOut (by kernel_rfl) (of_decide_eq_true (by kernel_rfl)) k0 bel lt0) trodAll_mk0), rfl, bel.frame _, fun h => by cases h⟩
theorem over : Rows.storeOpensRow.holds Try.pinned (OpenSpec.ofChange Rows.storeOpensSpec) :=
  OpenClaim.holds_of_wide 5 Try.f5 rfl rfl rfl rfl rfl rfl rfl ⟨rfl, rfl, rfl, rfl, rfl⟩ rfl rfl rfl rfl rfl (by kernel_rfl) Try.func5 (by kernel_rfl)
    (of_decide_eq_true (by kernel_rfl)) (by unfold Func.isWrapper; first | (rw [if_pos (by decide +kernel)]; kernel_rfl) | (rw [if_neg (by decide +kernel)]; exact ⟨rfl, rfl⟩))
    (fun os started H enc _ => lifted os started H enc)
theorem proved : Rows.StoreOpensSaid := over
#print axioms proved
end Go.Proofs.Ytcjniogdjbplbaa.storeOpens
namespace Go.Proofs.Ytcjniogdjbplbaa
/-- The row, under a short name, for the claim. -/
theorem storeOpens_holds : Rows.StoreOpensSaid := storeOpens.proved
end Go.Proofs.Ytcjniogdjbplbaa
