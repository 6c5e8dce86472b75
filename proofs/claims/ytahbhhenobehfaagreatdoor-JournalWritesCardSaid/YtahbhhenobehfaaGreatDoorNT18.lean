/-
  The walk of Payloads of the reference.
-/
import Derived.Test.YtahbhhenobehfaaGreatDoorM9
import Derived.Test.YtahbhhenobehfaaGreatDoorNT17
import Derived.Deep.RegionHeld3
namespace Go.Proofs.YtahbhhenobehfaaGreatDoor
open Go.ChangeShapes Go.WideShapes Go.ChangeAt Go.RowKit

theorem rescape_str (x : List UInt8) (w : World) (hs : x.length ≤ 10000000) :
    Calls Tryz.prog 32 #[.string (str x)] w fun e w' => e = .returned (.string (str (escL x))) ∧ Below w.heap.size w w' := by
  have h := rescape_any (str x) w (by rw [str_size]; exact hs)
  rw [str_list] at h
  exact h
set_option maxRecDepth 100000 in
set_option maxHeartbeats 16000000 in
theorem rpay_any (r : Rec) (ar : Option Addr) (nr cr : Nat) (ag : Option Addr) (ng cg : Nat) (ae : Option Addr) (ne ce : Nat) (w : World) (h : RecAt w r ar nr cr ag ng cg ae ne ce) (hf : RecFine r) :
    Calls Tryz.prog 8 #[.agg #[.string r.name, .string r.text, .int .u64 r.seed, .int .i64 r.start, .int .i64 r.clock, .slice ar nr cr, .bool r.ended, .slice ag ng cg, .slice ae ne ce]] w fun e w' => ∃ v, e = .returned v ∧ OwnL StrC w.heap.size 9 w' v (payL r) ∧ Below w.heap.size w w' := by
  obtain ⟨i0, hi, hz0, hz1, hz2⟩ := info_parts info_string
  obtain ⟨name, text, seed, start, clock, rounds, ended, goals, excl⟩ := r
  have hseed := hf.seed
  have hstart := hf.start
  have hclock := hf.clock
  have htext := hf.text
  have hname := hf.name
  have hrounds := h.rounds
  have hgoals := h.goals
  simp only at hseed hstart hclock htext hrounds hgoals hname ⊢
  obtain ⟨NM, rfl⟩ : ∃ NM, name = str NM := ⟨_, (str_eta _).symm⟩
  obtain ⟨SD, rfl⟩ : ∃ SD : Nat, seed = SD := ⟨seed.toNat, by omega⟩
  have hSDc := hid (show SD < 18446744073709551616 by omega)
  have Hf := hid hf
  obtain ⟨H, eH⟩ : ∃ H, H = payHead ⟨str NM, text, SD, start, clock, rounds, ended, goals, excl⟩ := ⟨_, rfl⟩
  have EH := hid eH
  have hNMl : NM.length ≤ 1000 := by rw [str_size] at hname; exact hname
  have hTL := hid (show text.data.toList.length ≤ 10000000 by rw [blen]; exact htext)
  obtain ⟨TX, rfl⟩ : ∃ TX, text = str TX := ⟨_, (str_eta _).symm⟩
  rw [str_list] at hTL
  obtain ⟨D1, eD1⟩ : ∃ D1, D1 = Lib.decDigits SD := ⟨_, rfl⟩
  obtain ⟨D2, eD2⟩ : ∃ D2, D2 = Lib.decDigits start.toNat := ⟨_, rfl⟩
  obtain ⟨D3, eD3⟩ : ∃ D3, D3 = Lib.decDigits clock.toNat := ⟨_, rfl⟩
  obtain ⟨D4, eD4⟩ : ∃ D4, D4 = escL TX := ⟨_, rfl⟩
  have hD1 := hid eD1.symm
  have hD2 := hid eD2.symm
  have hD3 := hid eD3.symm
  have hD4 := hid eD4.symm
  have l1 : D1.length ≤ 20 := by rw [eD1]; exact dec_len 19 SD (by have := hSDc.out; omega)
  have l2 : D2.length ≤ 20 := by rw [eD2]; exact dec_len 19 start.toNat (by omega)
  have l3 : D3.length ≤ 20 := by rw [eD3]; exact dec_len 19 clock.toNat (by omega)
  have l4 : D4.length ≤ 30000001 := by rw [eD4]; have := recL_len TX; have := hTL.out; omega
  have e0 : H = [109, 97, 116, 99, 104, 32] ++ NM ++ [32] ++ D1 ++ [32] ++ D2 ++ [32] ++ D3 ++ [32] ++ D4 := by rw [eH, eD1, eD2, eD3, eD4]; simp only [payHead, str_list, numT, Int.toNat_natCast]
  clear eD1 eD2 eD3 eD4
  have a1 := add_lit_str NM ⟨#[109, 97, 116, 99, 104, 32]⟩ [109, 97, 116, 99, 104, 32] rfl (by simp only [List.length_cons, List.length_nil]; omega)
  obtain ⟨B1, eB1⟩ : ∃ B1, B1 = [109, 97, 116, 99, 104, 32] ++ NM := ⟨_, rfl⟩
  rw [← eB1] at a1 e0
  have n1 : B1.length ≤ 1006 := by rw [eB1, List.length_append]; simp only [List.length_cons, List.length_nil]; omega
  have a2 := add_str_lit B1 ⟨#[32]⟩ [32] rfl (by simp only [List.length_cons, List.length_nil]; omega)
  obtain ⟨B2, eB2⟩ : ∃ B2, B2 = B1 ++ [32] := ⟨_, rfl⟩
  rw [← eB2] at a2 e0
  have n2 : B2.length ≤ 1007 := by rw [eB2, List.length_append]; simp only [List.length_cons, List.length_nil]; omega
  have a3 := add_str B2 D1 (by omega)
  obtain ⟨B3, eB3⟩ : ∃ B3, B3 = B2 ++ D1 := ⟨_, rfl⟩
  rw [← eB3] at a3 e0
  have n3 : B3.length ≤ 1027 := by rw [eB3, List.length_append]; omega
  have a4 := add_str_lit B3 ⟨#[32]⟩ [32] rfl (by simp only [List.length_cons, List.length_nil]; omega)
  obtain ⟨B4, eB4⟩ : ∃ B4, B4 = B3 ++ [32] := ⟨_, rfl⟩
  rw [← eB4] at a4 e0
  have n4 : B4.length ≤ 1028 := by rw [eB4, List.length_append]; simp only [List.length_cons, List.length_nil]; omega
  have a5 := add_str B4 D2 (by omega)
  obtain ⟨B5, eB5⟩ : ∃ B5, B5 = B4 ++ D2 := ⟨_, rfl⟩
  rw [← eB5] at a5 e0
  have n5 : B5.length ≤ 1048 := by rw [eB5, List.length_append]; omega
  have a6 := add_str_lit B5 ⟨#[32]⟩ [32] rfl (by simp only [List.length_cons, List.length_nil]; omega)
  obtain ⟨B6, eB6⟩ : ∃ B6, B6 = B5 ++ [32] := ⟨_, rfl⟩
  rw [← eB6] at a6 e0
  have n6 : B6.length ≤ 1049 := by rw [eB6, List.length_append]; simp only [List.length_cons, List.length_nil]; omega
  have a7 := add_str B6 D3 (by omega)
  obtain ⟨B7, eB7⟩ : ∃ B7, B7 = B6 ++ D3 := ⟨_, rfl⟩
  rw [← eB7] at a7 e0
  have n7 : B7.length ≤ 1069 := by rw [eB7, List.length_append]; omega
  have a8 := add_str_lit B7 ⟨#[32]⟩ [32] rfl (by simp only [List.length_cons, List.length_nil]; omega)
  obtain ⟨B8, eB8⟩ : ∃ B8, B8 = B7 ++ [32] := ⟨_, rfl⟩
  rw [← eB8] at a8 e0
  have n8 : B8.length ≤ 1070 := by rw [eB8, List.length_append]; simp only [List.length_cons, List.length_nil]; omega
  have a9 := add_str B8 D4 (by omega)
  obtain ⟨B9, eB9⟩ : ∃ B9, B9 = B8 ++ D4 := ⟨_, rfl⟩
  rw [← eB9] at a9 e0
  have n9 : B9.length ≤ 30001071 := by rw [eB9, List.length_append]; omega
  have HB9 := hid e0.symm
  clear e0 eB1 eB2 eB3 eB4 eB5 eB6 eB7 eB8 eB9 n1 n2 n3 n4 n5 n6 n7 n8 n9 l1 l2 l3 l4 hNMl
  clear h eH hf hseed hname
  have b0 : Below w.heap.size w (w.alloc (.cells #[.string (str NM), .string (str TX), .int .u64 SD, .int .i64 start, .int .i64 clock, .slice ar nr cr, .bool ended, .slice ag ng cg, .slice ae ne ce] 27)) := (Below.refl _ _).alloc (Nat.le_refl _) _
  have H0 : Has (w.alloc (.cells #[.string (str NM), .string (str TX), .int .u64 SD, .int .i64 start, .int .i64 clock, .slice ar nr cr, .bool ended, .slice ag ng cg, .slice ae ne ce] 27)) w.heap.size #[.string (str NM), .string (str TX), .int .u64 SD, .int .i64 start, .int .i64 clock, .slice ar nr cr, .bool ended, .slice ag ng cg, .slice ae ne ce] 27 := Has.new _ _ _
  go_enter Tryz.func8, Tryz.ntmps8
  go_wp2
  obtain ⟨w0, ew0⟩ : ∃ w0, w0 = w.alloc (.cells #[.string (str NM), .string (str TX), .int .u64 SD, .int .i64 start, .int .i64 clock, .slice ar nr cr, .bool ended, .slice ag ng cg, .slice ae ne ce] 27) := ⟨_, rfl⟩
  rw [← ew0] at b0 H0
  rw [← ew0]
  have hz : w.heap.size < w0.heap.size := H0.lt
  have HB := hid (show ∀ w', Below w0.heap.size w0 w' → w'.cell? ⟨w.heap.size, 0, none⟩ = some (.string (str NM)) ∧ w'.cell? ⟨w.heap.size, 1, none⟩ = some (.string (str TX)) ∧ w'.cell? ⟨w.heap.size, 2, none⟩ = some (.int .u64 SD) ∧ w'.cell? ⟨w.heap.size, 3, none⟩ = some (.int .i64 start) ∧ w'.cell? ⟨w.heap.size, 4, none⟩ = some (.int .i64 clock) from fun w' hb => by
    have H' := H0.below hb hz
    exact ⟨H'.cell (j := 0) rfl, H'.cell (j := 1) rfl, H'.cell (j := 2) rfl, H'.cell (j := 3) rfl, H'.cell (j := 4) rfl⟩)
  have HB2 := hid (show ∀ w', Below w0.heap.size w0 w' → w'.cell? ⟨w.heap.size, 5, none⟩ = some (.slice ar nr cr) ∧ w'.cell? ⟨w.heap.size, 6, none⟩ = some (.bool ended) ∧ w'.cell? ⟨w.heap.size, 7, none⟩ = some (.slice ag ng cg) from fun w' hb => by
    have H' := H0.below hb hz
    exact ⟨H'.cell (j := 5) rfl, H'.cell (j := 6) rfl, H'.cell (j := 7) rfl⟩)
  clear ew0 H0
  have k0 := HB.out w0 (Below.refl _ _)
  go_region_held3 (fun wx => wx.cell? ⟨w.heap.size, 0, none⟩ = some (.string (str NM)) ∧ wx.cell? ⟨w.heap.size, 1, none⟩ = some (.string (str TX)) ∧ wx.cell? ⟨w.heap.size, 2, none⟩ = some (.int .u64 SD) ∧ wx.cell? ⟨w.heap.size, 3, none⟩ = some (.int .i64 start) ∧ wx.cell? ⟨w.heap.size, 4, none⟩ = some (.int .i64 clock))
    (first | exact k0 | exact k5 | exact k6)
    (first
      | (go_at_call 30; ((with_reducible refine (number_any SD _ (by omega) (by have := hSDc.out; omega)).mono ?_); rintro e w1 ⟨rfl, rfl⟩; rw [Int.toNat_natCast, hD1.out]))
      | (go_at_call 31; ((with_reducible refine (dec_any start _ hstart.1 hstart.2).mono ?_); rintro e w2 ⟨rfl, rfl⟩; rw [hD2.out]))
      | (go_at_call 31; ((with_reducible refine (dec_any clock _ hclock.1 hclock.2).mono ?_); rintro e w3 ⟨rfl, rfl⟩; rw [hD3.out]))
      | (go_at_call 32; ((with_reducible refine (rescape_str TX _ hTL.out).mono ?_); rintro e w5 ⟨rfl, o5⟩; rw [hD4.out]; have o5 : Below w0.heap.size w0 w5 := ⟨o5.os, o5.tape, o5.output, o5.size, o5.block⟩; have k5 := HB.out _ o5; have k6 := HB.out _ (o5.alloc o5.size (.cells #[.string (str B9)] 9)))))
  have own1 : OwnL StrC w0.heap.size 9 (w5.alloc (.cells #[.string (str B9)] 9)) (.slice (some ⟨w5.heap.size, 0, none⟩) 1 1) [B9] :=
    OwnL.lit (l := [B9]) (Has.new w5 _ _) (by have := o5.size; omega) rfl rfl (by rw [maxLen_eq]; omega) (fun i hi => by
      simp at hi
      subst hi
      exact ⟨_, rfl, Rests.str _ _ _⟩)
  have b1 := b0.trans ((o5.alloc o5.size (.cells #[.string (str B9)] 9)).mono b0.size)
  have k6b := HB2.out _ (o5.alloc o5.size (.cells #[.string (str B9)] 9))
  have o6 := o5.alloc o5.size (.cells #[.string (str B9)] 9)
  obtain ⟨w6, ew6⟩ : ∃ w6, w6 = w5.alloc (.cells #[.string (str B9)] 9) := ⟨_, rfl⟩
  rw [← ew6] at own1 b1 k6b o6
  rw [← ew6]
  clear k0 k5 k6
  obtain ⟨q5, q6, q7⟩ := k6b
  have o6s := o6.size
  obtain ⟨g1, eg1⟩ : ∃ g1, g1 = w5.heap.size := ⟨_, rfl⟩
  rw [← eg1] at own1
  rw [← eg1]
  clear ew6 eg1 o5
  have hrl := hid hrounds.len
  have hrle := hrounds.le
  have hrmx := hrounds.max
  have hrn := hid (show nr ≤ 1000 by rw [← hrl.out]; exact Hf.out.rounds)
  have hHl := hid EH.out
  obtain ⟨J, eJ⟩ : ∃ J, J = H :: rounds.map payRound := ⟨_, rfl⟩
  have EJ := hid eJ
  have hJt := hid (show J.take 1 = [B9] by rw [eJ, ← HB9.out]; rfl)
  rw [← hJt.out] at own1
  clear eJ
  go_wp2
  go_loopw [3, 32] (fun v i wr => ∃ k : Nat, k ≤ nr ∧ i = .int .i64 k ∧ OwnL StrC w0.heap.size 9 wr v (J.take (k + 1)) ∧ Below w0.heap.size w0 wr) (fun _ i _ => nr - (intOf i).toNat)
  case atStart => exact ⟨0, Nat.zero_le _, rfl, own1, o6⟩
  case round =>
    clear own1 q5 q6 q7 o6
    obtain ⟨k, hk, rfl, own, hb⟩ := hrel
    have hbT := b0.trans (hb.mono b0.size)
    by_cases hlt : k < nr
    · have hw := hrounds.below hbT (Nat.le_refl _)
      obtain ⟨b', o', rfl⟩ := hw.head (by omega)
      obtain ⟨aj, nj, cj, af, nf, cf, d0, d1, hjt, hft⟩ := hw.at' k (by rw [hrl.out]; exact hlt)
      have hk0 : (0 : Int) ≤ k := by omega
      have hkn : (k : Int) < nr := by omega
      have hxm : rounds[k]'(by rw [hrl.out]; exact hlt) ∈ rounds := List.getElem_mem _
      have hj1 := Hf.out.joint _ hxm
      have hf1 := Hf.out.faults _ hxm
      have hYk := hid (show J.take (k + 1 + 1) = J.take (k + 1) ++ [payRound (rounds[k]'(by rw [hrl.out]; exact hlt))] by
        rw [EJ.out]
        show H :: (rounds.map payRound).take (k + 1) = (H :: (rounds.map payRound).take k) ++ [_]
        rw [List.take_succ_eq_append_getElem (by rw [List.length_map, hrl.out]; exact hlt), List.getElem_map]; rfl)
      obtain ⟨x, ex⟩ : ∃ x, x = rounds[k]'(by rw [hrl.out]; exact hlt) := ⟨_, rfl⟩
      rw [← ex] at hjt hft hj1 hf1 hYk
      have hnj : nj ≤ 1000 := by rw [← hjt.len]; exact hj1.1
      have hnf : nf ≤ 1000 := by rw [← hft.len]; exact hf1.1
      have hfr := hid (show ∀ i, i < nf → 0 ≤ x.faults.getD i 0 ∧ x.faults.getD i 0 ≤ 9223372036854775807 from fun i hi => mem_getD hf1.2 i (by rw [hft.len]; exact hi))
      have htl := hid hj1.2
      have hfl := hid (show (listL x.faults []).length ≤ 1000000 by
        have h1 := listL_len x.faults [] hf1.2
        have h2 : x.faults.length * (20 + ([] : List UInt8).length) ≤ 1000 * 20 := Nat.mul_le_mul hf1.1 (by simp)
        omega)
      clear ex hxm hw hj1 hf1
      have bs := hb.size
      have bsT := hbT.size
      obtain ⟨E, eE⟩ : ∃ E, E = escL (termsL x.joint) := ⟨_, rfl⟩
      obtain ⟨L, eL⟩ : ∃ L, L = listL x.faults [] := ⟨_, rfl⟩
      have HE := hid eE.symm
      have HL := hid eL.symm
      have hEl := hid (show E.length ≤ 4000000 by rw [eE]; have h1 := recL_len (termsL x.joint); have h2 := htl.out; omega)
      have hLl := hid (show L.length ≤ 1000000 by rw [eL]; exact hfl.out)
      have add1 := add_lit_str E ⟨#[114, 111, 117, 110, 100, 32]⟩ [114, 111, 117, 110, 100, 32] rfl (by have := hEl.out; simp only [List.length_cons, List.length_nil]; omega)
      obtain ⟨A1, eA1⟩ : ∃ A1, A1 = [114, 111, 117, 110, 100, 32] ++ E := ⟨_, rfl⟩
      rw [← eA1] at add1
      have hA1 := hid (show A1.length ≤ 4000006 by rw [eA1, List.length_append]; have := hEl.out; simp only [List.length_cons, List.length_nil]; omega)
      have add2 := add_str_lit A1 ⟨#[32]⟩ [32] rfl (by have := hA1.out; simp only [List.length_cons, List.length_nil]; omega)
      obtain ⟨A2, eA2⟩ : ∃ A2, A2 = A1 ++ [32] := ⟨_, rfl⟩
      rw [← eA2] at add2
      have add3 := add_str A2 L (by rw [eA2, List.length_append]; have := hA1.out; have := hLl.out; simp only [List.length_cons, List.length_nil]; omega)
      obtain ⟨A3, eA3⟩ : ∃ A3, A3 = A2 ++ L := ⟨_, rfl⟩
      rw [← eA3] at add3
      have hA3 := hid (show payRound x = A3 by rw [eA3, eA2, eA1, eE, eL]; rfl)
      have hJn := hid (show (J.take (k + 1)).length ≤ 1001 by have h1 := List.length_take_le (k + 1) J; have h2 := hrn.out; omega)
      clear eE eL eA1 eA2 eA3
      have hno : _ ≠ some wr.heap.size := fun e => Nat.lt_irrefl _ (own.lt _ e).2
      have q5 := (HB2.out _ hb).1
      have keep := hid (show ∀ w', Below wr.heap.size wr w' → w'.cell? ⟨w.heap.size, 5, none⟩ = some (.slice (some ⟨b', o', none⟩) nr cr) ∧ w'.cell? ⟨b', o' + k * 2, none⟩ = some (.slice aj nj cj) ∧ w'.cell? ⟨b', o' + k * 2 + 1, none⟩ = some (.slice af nf cf) from fun w' h =>
        ⟨(h.cell (p := ⟨w.heap.size, 5, none⟩) (Nat.lt_of_lt_of_le hz bs)).trans q5, (h.cell (p := ⟨b', o' + k * 2, none⟩) (lt_of_cell d0)).trans d0, (h.cell (p := ⟨b', o' + k * 2 + 1, none⟩) (lt_of_cell d1)).trans d1⟩)
      have hno2 : _ ≠ some w.heap.size := fun e => Nat.lt_irrefl _ (Nat.lt_of_lt_of_le hz (own.lt _ e).1)
      have hlb := hid (show b' < w.heap.size from by
        obtain ⟨_, _, _, _, _, _, c0, _⟩ := hrounds.at' k (by rw [hrl.out]; exact hlt)
        exact lt_of_cell c0)
      have hno3 : _ ≠ some b' := fun e => Nat.lt_irrefl _ (Nat.lt_of_lt_of_le (Nat.lt_trans hlb.out hz) (own.lt _ e).1)
      have m0 := keep.out wr (Below.refl _ _)
      have hjd := hjt.below ((Below.refl wr.heap.size wr).drew) (Nat.le_refl _)
      clear hno d0 d1 q5
      go_wp2
      go_region_held3 (fun wx => wx.cell? ⟨w.heap.size, 5, none⟩ = some (.slice (some ⟨b', o', none⟩) nr cr) ∧ wx.cell? ⟨b', o' + k * 2, none⟩ = some (.slice aj nj cj) ∧ wx.cell? ⟨b', o' + k * 2 + 1, none⟩ = some (.slice af nf cf))
        (first | exact m0 | exact m1 | exact m2 | exact m4 | exact m5)
        (first
          | (go_at_call 33; ((with_reducible refine (rterms_any aj nj cj x.joint _ ?_ ?_).mono ?_); (first | exact hjt | exact hjd); (have := htl.out; omega); rintro e w1 ⟨rfl, p1⟩; have p1 : Below wr.heap.size wr w1 := ⟨p1.os, p1.tape, p1.output, p1.size, p1.block⟩; have m1 := keep.out _ p1))
          | (go_at_call 32; ((with_reducible refine (rescape_str (termsL x.joint) _ ?_).mono ?_); (have := htl.out; omega); rintro e w2 ⟨rfl, p2⟩; rw [HE.out]; have p2 : Below wr.heap.size wr w2 := p1.trans (Below.mono ⟨p2.os, p2.tape, p2.output, p2.size, p2.block⟩ p1.size); have m2 := keep.out _ p2; have hf2 := hft.below p2 (Nat.le_refl _)))
          | (go_at_call 34; refine (rlist_any af nf cf x.faults [] _ hf2 hfr.out (by have := hfl.out; omega) (by simp)).mono ?_; rintro e w3 ⟨rfl, rfl⟩; rw [HL.out]; have p4 := p2.alloc p2.size (.cells #[.string (str A3)] 9); have m4 := keep.out _ p4)
          | (refine step_append_run rfl (.tmp 35) (.tmp 54) 32 rfl _ _ (by rfl) (by rfl) (run_append1 _ w0.heap.size 32 _ 9 i0 _ 16 Tryz.underlying32 hi hz0 hz1 hz2 rfl _ (J.take (k + 1)) (own.below p4 (Nat.le_refl _)) w2.heap.size 1 (.string (str A3)) A3 ((Has.new w2 #[.string (str A3)] 9).cell (j := 0) rfl) rfl (Rests.str _ _ _) (by rw [maxLen_eq]; have := hJn.out; omega) (by have := hJn.out; omega) (by have := p4.size; omega)) ?_; rintro v5 w5 ⟨own5, b5, hA5, _⟩; have m5 : w5.cell? ⟨w.heap.size, 5, none⟩ = some (.slice (some ⟨b', o', none⟩) nr cr) ∧ w5.cell? ⟨b', o' + k * 2, none⟩ = some (.slice aj nj cj) ∧ w5.cell? ⟨b', o' + k * 2 + 1, none⟩ = some (.slice af nf cf) := ⟨hA5.cell m4.1 hno2, hA5.cell m4.2.1 hno3, hA5.cell m4.2.2 hno3⟩))
      have p4s := p4.size
      go_wp2
      go_roundw
      case rel => exact ⟨k + 1, by omega, by go_num, by rw [hYk.out, hA3.out]; exact own5, hb.trans ((p4.mono hb.size).trans (b5.mono (by omega)))⟩
      case measure => simp [intOf]; omega
    · obtain rfl : nr = k := by omega
      have hbT := b0.trans (hb.mono b0.size)
      obtain ⟨q5, q6, q7⟩ := HB2.out _ hb
      have hJa := hid (show J.take (nr + 1) = J by rw [EJ.out, ← hrl.out]; exact List.take_of_length_le (by simp))
      rw [hJa.out] at own
      have bs := hb.size
      cases ended with
      | false =>
        have hfin := hid (show payL ⟨str NM, str TX, SD, start, clock, rounds, false, goals, excl⟩ = J by rw [EJ.out, EH.out]; simp [payL, payHead])
        go_wp2
        go_ret
        exact ⟨_, rfl, by rw [hfin.out]; exact own.rebase (by omega), hbT⟩
      | true =>
        have hg := hgoals.below hbT (Nat.le_refl _)
        have hg1 := Hf.out.goals
        have hgl : ng ≤ 1000 := by rw [← hgoals.len]; exact hg1.1
        have hgr := hid (show ∀ i, i < ng → 0 ≤ goals.getD i 0 ∧ goals.getD i 0 ≤ 9223372036854775807 from fun i hi => mem_getD hg1.2 i (by rw [hgoals.len]; exact hi))
        have hgL := hid (show (listL goals [44]).length ≤ 1000000 by
          have h1 := listL_len goals [44] hg1.2
          have h2 : goals.length * (20 + ([44] : List UInt8).length) ≤ 1000 * 21 := Nat.mul_le_mul hg1.1 (by simp)
          omega)
        obtain ⟨L, eL⟩ : ∃ L, L = listL goals [44] := ⟨_, rfl⟩
        have HL := hid eL.symm
        have add1 := add_lit_str L ⟨#[111, 118, 101, 114, 32]⟩ [111, 118, 101, 114, 32] rfl (by rw [eL]; have := hgL.out; simp only [List.length_cons, List.length_nil]; omega)
        obtain ⟨A1, eA1⟩ : ∃ A1, A1 = [111, 118, 101, 114, 32] ++ L := ⟨_, rfl⟩
        rw [← eA1] at add1
        have hfin := hid (show payL ⟨str NM, str TX, SD, start, clock, rounds, true, goals, excl⟩ = J ++ [A1] by rw [EJ.out, EH.out, eA1, eL]; simp [payL, payHead, payOver])
        have hJn := hid (show J.length ≤ 1001 by rw [EJ.out, List.length_cons, List.length_map, hrl.out]; have := hrn.out; omega)
        clear eL eA1 hg1
        have keep := hid (show ∀ w', Below wr.heap.size wr w' → w'.cell? ⟨w.heap.size, 7, none⟩ = some (.slice ag ng cg) from fun w' h => (h.cell (p := ⟨w.heap.size, 7, none⟩) (Nat.lt_of_lt_of_le hz bs)).trans q7)
        go_wp2_with fail
        refine (rlist_any ag ng cg goals [44] _ hg hgr.out (by have := hgL.out; omega) (by simp)).mono ?_
        rintro e w3 ⟨rfl, rfl⟩
        rw [HL.out]
        have p4 := (Below.refl wr.heap.size wr).alloc (Nat.le_refl _) (.cells #[.string (str A1)] 9)
        have p4s := p4.size
        go_wp2_with (at_builtin; go_must (refine wpList_append_run rfl (.tmp 59) (.tmp 64) 32 rfl _ _ (by rfl) (by rfl) (run_append1 _ w0.heap.size 32 _ 9 i0 _ 16 Tryz.underlying32 hi hz0 hz1 hz2 rfl _ J (own.below p4 (Nat.le_refl _)) wr.heap.size 1 (.string (str A1)) A1 ((Has.new wr #[.string (str A1)] 9).cell (j := 0) rfl) rfl (Rests.str _ _ _) (by rw [maxLen_eq]; have := hJn.out; omega) (by have := hJn.out; omega) (by omega)) ?_; rintro v5 w5 ⟨own5, b5, hA5, _⟩))
        go_ret
        exact ⟨_, rfl, by rw [hfin.out]; exact own5.rebase (by omega), hbT.trans ((p4.mono hbT.size).trans (b5.mono (by omega)))⟩
end Go.Proofs.YtahbhhenobehfaaGreatDoor
