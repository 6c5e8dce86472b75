/-
  The walk of payloads of package journal.
-/
import Derived.Test.YtahbhhenobehfaaGreatDoorM9
import Derived.Test.YtahbhhenobehfaaGreatDoorM22
import Derived.Deep.RegionHeld3
namespace Go.Proofs.YtahbhhenobehfaaGreatDoor
open Go.ChangeShapes Go.WideShapes Go.ChangeAt Go.RowKit

theorem recL_len (l : List UInt8) : (escL l).length ≤ 3 * l.length + 1 := by
  by_cases h : 0 < l.length
  · rw [escL_some h]; have := escT_len l; omega
  · obtain rfl : l = [] := List.eq_nil_of_length_eq_zero (by omega)
    rw [escL_nil]; simp
theorem lens_join (sep : List UInt8) (xs : List (List UInt8)) : (Lib.join xs sep).length ≤ (xs.map fun x => x.length + sep.length).sum := by
  induction xs with
  | nil => simp [Lib.join_nil]
  | cons x r ih =>
    rw [Lib.join_cons, List.map_cons, List.sum_cons, List.length_append]
    have h2 : (Lib.joinTail sep r).length = (r.map fun x => x.length + sep.length).sum := by
      clear ih
      induction r with
      | nil => simp [Lib.joinTail]
      | cons y r ih2 =>
        unfold Lib.joinTail at ih2 ⊢
        rw [List.map_cons, List.flatten_cons, List.length_append, ih2, List.map_cons, List.sum_cons, List.length_append]; omega
    omega
theorem listL_len (l : List Int) (sep : List UInt8) (h : ∀ n ∈ l, 0 ≤ n ∧ n ≤ 9223372036854775807) : (listL l sep).length ≤ l.length * (20 + sep.length) + 1 := by
  by_cases h0 : 0 < l.length
  · rw [listL_some sep h0]
    refine Nat.le_trans (lens_join sep _) ?_
    clear h0
    induction l with
    | nil => simp
    | cons n r ih =>
      have h1 := numT_len n (h n (by simp)).1 (h n (by simp)).2
      have h2 := ih fun q hq => h q (by simp [hq])
      rw [List.map_cons, List.map_cons, List.sum_cons, List.length_cons, Nat.add_one_mul]
      omega
  · obtain rfl : l = [] := List.eq_nil_of_length_eq_zero (by omega)
    rw [listL_nil]; simp
theorem mem_getD {l : List Int} {P : Int → Prop} (h : ∀ n ∈ l, P n) (i : Nat) (hi : i < l.length) : P (l.getD i 0) := by
  rw [List.getD_eq_getElem?_getD, List.getElem?_eq_getElem hi]
  exact h _ (List.getElem_mem hi)
theorem six_cells (W : World) (T : TypeId) (a b c d e f : List UInt8) : ∀ j (h : j < [a, b, c, d, e, f].length), (W.alloc (.cells #[.string (str a), .string (str b), .string (str c), .string (str d), .string (str e), .string (str f)] T)).cell? ⟨W.heap.size, 0 + j, none⟩ = some (.string (str ([a, b, c, d, e, f][j]))) := fun j h => by
  rw [Nat.zero_add]
  have H := Has.new W #[.string (str a), .string (str b), .string (str c), .string (str d), .string (str e), .string (str f)] T
  match j, h with
  | 0, _ => exact H.cell (j := 0) rfl
  | 1, _ => exact H.cell (j := 1) rfl
  | 2, _ => exact H.cell (j := 2) rfl
  | 3, _ => exact H.cell (j := 3) rfl
  | 4, _ => exact H.cell (j := 4) rfl
  | 5, _ => exact H.cell (j := 5) rfl
theorem add_lit_str (x : List UInt8) (q : ByteArray) (y : List UInt8) (hq : q = str y) (h : y.length + x.length ≤ 1000000000) : ∀ wx, (Op.stringOp .add q (str x)).run Tryz.prog wx = .ok (.string (str (y ++ x))) wx := by
  subst hq; exact add_str y x h
theorem escape_str (x : List UInt8) (w : World) (hs : x.length ≤ 10000000) :
    Calls Tryz.prog 73 #[.string (str x)] w fun e w' => e = .returned (.string (str (escL x))) ∧ Below w.heap.size w w' := by
  have h := escape_any (str x) w (by rw [str_size]; exact hs)
  rw [str_list] at h
  exact h
set_option maxRecDepth 100000 in
set_option maxHeartbeats 16000000 in
theorem jpay_any (r : Rec) (ar : Option Addr) (nr cr : Nat) (ag : Option Addr) (ng cg : Nat) (ae : Option Addr) (ne ce : Nat) (w : World) (h : RecAt w r ar nr cr ag ng cg ae ne ce) (hf : RecFine r) (ht : Tab w) :
    Calls Tryz.prog 37 #[.agg #[.string r.name, .string r.text, .int .u64 r.seed, .int .i64 r.start, .int .i64 r.clock, .slice ar nr cr, .bool r.ended, .slice ag ng cg, .slice ae ne ce]] w fun e w' => ∃ v, e = .returned v ∧ OwnL StrC w.heap.size 9 w' v (payL r) ∧ Below w.heap.size w w' := by
  obtain ⟨i0, hi, hz0, hz1, hz2⟩ := info_parts info_string
  obtain ⟨name, text, seed, start, clock, rounds, ended, goals, excl⟩ := r
  have hseed := hf.seed
  have hstart := hf.start
  have hclock := hf.clock
  have htext := hf.text
  have hname := hf.name
  have hrounds := h.rounds
  have hgoals := h.goals
  simp only at hseed hstart hclock htext hrounds hgoals hname ⊢
  obtain ⟨NM, rfl⟩ : ∃ NM, name = str NM := ⟨_, (str_eta _).symm⟩
  obtain ⟨SD, rfl⟩ : ∃ SD : Nat, seed = SD := ⟨seed.toNat, by omega⟩
  have hSDc := hid (show SD < 18446744073709551616 by omega)
  have Hf := hid hf
  have hHead := hid (payHead_join ⟨str NM, text, SD, start, clock, rounds, ended, goals, excl⟩)
  obtain ⟨H, eH⟩ : ∃ H, H = payHead ⟨str NM, text, SD, start, clock, rounds, ended, goals, excl⟩ := ⟨_, rfl⟩
  have EH := hid eH
  simp only [str_list, numT, Int.toNat_natCast, ← eH] at hHead
  have hlen6 := hid (show (Lib.join [[109, 97, 116, 99, 104], NM, Lib.decDigits SD, Lib.decDigits start.toNat, Lib.decDigits clock.toNat, escL text.data.toList] [32]).length ≤ 140737488355328 by
    refine Nat.le_trans (lens_join _ _) ?_
    have h1 := recL_len text.data.toList
    have h2 := dec_len 19 SD (by have := hSDc.out; omega)
    have h3 := dec_len 19 start.toNat (by omega)
    have h4 := dec_len 19 clock.toNat (by omega)
    rw [blen] at h1
    rw [str_size] at hname
    simp only [List.map_cons, List.map_nil, List.sum_cons, List.sum_nil, List.length_cons, List.length_nil]
    omega)
  clear h eH hf hseed hname
  have b0 : Below w.heap.size w (w.alloc (.cells #[.string (str NM), .string text, .int .u64 SD, .int .i64 start, .int .i64 clock, .slice ar nr cr, .bool ended, .slice ag ng cg, .slice ae ne ce] 27)) := (Below.refl _ _).alloc (Nat.le_refl _) _
  have H0 : Has (w.alloc (.cells #[.string (str NM), .string text, .int .u64 SD, .int .i64 start, .int .i64 clock, .slice ar nr cr, .bool ended, .slice ag ng cg, .slice ae ne ce] 27)) w.heap.size #[.string (str NM), .string text, .int .u64 SD, .int .i64 start, .int .i64 clock, .slice ar nr cr, .bool ended, .slice ag ng cg, .slice ae ne ce] 27 := Has.new _ _ _
  go_enter Tryz.func37, Tryz.ntmps37
  go_wp2
  obtain ⟨w0, ew0⟩ : ∃ w0, w0 = w.alloc (.cells #[.string (str NM), .string text, .int .u64 SD, .int .i64 start, .int .i64 clock, .slice ar nr cr, .bool ended, .slice ag ng cg, .slice ae ne ce] 27) := ⟨_, rfl⟩
  rw [← ew0] at b0 H0
  rw [← ew0]
  have hz : w.heap.size < w0.heap.size := H0.lt
  have T0 := tab_below ht b0 (Nat.le_refl _)
  have HB := hid (show ∀ w', Below w0.heap.size w0 w' → w'.cell? ⟨w.heap.size, 0, none⟩ = some (.string (str NM)) ∧ w'.cell? ⟨w.heap.size, 1, none⟩ = some (.string text) ∧ w'.cell? ⟨w.heap.size, 2, none⟩ = some (.int .u64 SD) ∧ w'.cell? ⟨w.heap.size, 3, none⟩ = some (.int .i64 start) ∧ w'.cell? ⟨w.heap.size, 4, none⟩ = some (.int .i64 clock) from fun w' hb => by
    have H' := H0.below hb hz
    exact ⟨H'.cell (j := 0) rfl, H'.cell (j := 1) rfl, H'.cell (j := 2) rfl, H'.cell (j := 3) rfl, H'.cell (j := 4) rfl⟩)
  have HB2 := hid (show ∀ w', Below w0.heap.size w0 w' → w'.cell? ⟨w.heap.size, 5, none⟩ = some (.slice ar nr cr) ∧ w'.cell? ⟨w.heap.size, 6, none⟩ = some (.bool ended) ∧ w'.cell? ⟨w.heap.size, 7, none⟩ = some (.slice ag ng cg) from fun w' hb => by
    have H' := H0.below hb hz
    exact ⟨H'.cell (j := 5) rfl, H'.cell (j := 6) rfl, H'.cell (j := 7) rfl⟩)
  clear ew0 H0
  have k0 := HB.out w0 (Below.refl _ _)
  go_region_held3 (fun wx => wx.cell? ⟨w.heap.size, 0, none⟩ = some (.string (str NM)) ∧ wx.cell? ⟨w.heap.size, 1, none⟩ = some (.string text) ∧ wx.cell? ⟨w.heap.size, 2, none⟩ = some (.int .u64 SD) ∧ wx.cell? ⟨w.heap.size, 3, none⟩ = some (.int .i64 start) ∧ wx.cell? ⟨w.heap.size, 4, none⟩ = some (.int .i64 clock))
    (first | exact k0 | exact k1 | exact k2 | exact k3 | exact k4 | exact k45 | exact k5 | exact k6)
    (first
      | (go_at_call 71; ((with_reducible refine (format_any SD hSDc.out _ ?_).mono ?_); exact T0; rintro e w1 ⟨rfl, o1⟩; have o1 : Below w0.heap.size w0 w1 := ⟨o1.os, o1.tape, o1.output, o1.size, o1.block⟩; have T1 := tab_below T0 o1 (Nat.le_refl _); have k1 := HB.out _ o1))
      | (go_at_call 72; ((with_reducible refine (itoa_any start _ hstart.1 hstart.2 ?_).mono ?_); exact T1; rintro e w2 ⟨rfl, o2⟩; have o2 : Below w0.heap.size w0 w2 := o1.trans (Below.mono ⟨o2.os, o2.tape, o2.output, o2.size, o2.block⟩ o1.size); have T2 := tab_below T0 o2 (Nat.le_refl _); have k2 := HB.out _ o2))
      | (go_at_call 72; ((with_reducible refine (itoa_any clock _ hclock.1 hclock.2 ?_).mono ?_); exact T2; rintro e w3 ⟨rfl, o3⟩; have o3 : Below w0.heap.size w0 w3 := o2.trans (Below.mono ⟨o3.os, o3.tape, o3.output, o3.size, o3.block⟩ o2.size); have T3 := tab_below T0 o3 (Nat.le_refl _); have k3 := HB.out _ o3))
      | (go_at_call 73; ((with_reducible refine (escape_any text _ htext).mono ?_); rintro e w4 ⟨rfl, o4⟩; have o4 : Below w0.heap.size w0 w4 := o3.trans (Below.mono ⟨o4.os, o4.tape, o4.output, o4.size, o4.block⟩ o3.size); have k4 := HB.out _ o4; have k45 := HB.out _ (o4.alloc o4.size (.cells #[.string ⟨#[109, 97, 116, 99, 104]⟩, .string (str NM), .string (str (Lib.decDigits SD)), .string (str (Lib.decDigits start.toNat)), .string (str (Lib.decDigits clock.toNat)), .string (str (escL text.data.toList))] 9))))
      | (go_at_call 70; refine (join_str w4.heap.size 0 6 [[109, 97, 116, 99, 104], NM, Lib.decDigits SD, Lib.decDigits start.toNat, Lib.decDigits clock.toNat, escL text.data.toList] [32] _ ?_ ?_ ?_ ?_ ?_).mono ?_; exact six_cells w4 _ _ _ _ _ _ _; simp; simp; simp; exact hlen6.out; rintro e w5 ⟨rfl, o5⟩; rw [hHead.out]; have o5 : Below w0.heap.size w0 w5 := o4.trans (Below.mono ⟨o5.os, o5.tape, o5.output, Nat.le_trans (by simp) o5.size, fun k hk => (o5.block k (by simp; omega)).trans (Below.heap_alloc _ _ _ hk)⟩ o4.size); have k5 := HB.out _ o5; have k6 := HB.out _ (o5.alloc o5.size (.cells #[.string (str H)] 9))))
  have own1 : OwnL StrC w0.heap.size 9 (w5.alloc (.cells #[.string (str H)] 9)) (.slice (some ⟨w5.heap.size, 0, none⟩) 1 1) [H] :=
    OwnL.lit (l := [H]) (Has.new w5 _ _) (by have := o5.size; omega) rfl rfl (by rw [maxLen_eq]; omega) (fun i hi => by
      simp at hi
      subst hi
      exact ⟨_, rfl, Rests.str _ _ _⟩)
  have b1 := b0.trans ((o5.alloc o5.size (.cells #[.string (str H)] 9)).mono b0.size)
  have k6b := HB2.out _ (o5.alloc o5.size (.cells #[.string (str H)] 9))
  have T6 := tab_below ht b1 (Nat.le_refl _)
  have o6 := o5.alloc o5.size (.cells #[.string (str H)] 9)
  obtain ⟨w6, ew6⟩ : ∃ w6, w6 = w5.alloc (.cells #[.string (str H)] 9) := ⟨_, rfl⟩
  rw [← ew6] at own1 b1 k6b T6 o6
  rw [← ew6]
  clear k0 k1 k2 k3 k4 k45 k5 k6 T1 T2 T3 o1 o2 o3 o4 T0
  obtain ⟨q5, q6, q7⟩ := k6b
  have o6s := o6.size
  obtain ⟨g1, eg1⟩ : ∃ g1, g1 = w5.heap.size := ⟨_, rfl⟩
  rw [← eg1] at own1
  rw [← eg1]
  clear ew6 eg1 o5
  have hrl := hid hrounds.len
  have hrle := hrounds.le
  have hrmx := hrounds.max
  have hrn := hid (show nr ≤ 1000 by rw [← hrl.out]; exact Hf.out.rounds)
  have hHl := hid EH.out
  obtain ⟨J, eJ⟩ : ∃ J, J = H :: rounds.map payRound := ⟨_, rfl⟩
  have EJ := hid eJ
  have hJt := hid (show J.take 1 = [H] by rw [eJ]; rfl)
  rw [← hJt.out] at own1
  clear eJ
  go_wp2
  go_loopw [3, 26] (fun v i wr => ∃ k : Nat, k ≤ nr ∧ i = .int .i64 k ∧ OwnL StrC w0.heap.size 9 wr v (J.take (k + 1)) ∧ Below w0.heap.size w0 wr) (fun _ i _ => nr - (intOf i).toNat)
  case atStart => exact ⟨0, Nat.zero_le _, rfl, own1, o6⟩
  case round =>
    clear own1 q5 q6 q7 o6
    obtain ⟨k, hk, rfl, own, hb⟩ := hrel
    have hbT := b0.trans (hb.mono b0.size)
    by_cases hlt : k < nr
    · have hw := hrounds.below hbT (Nat.le_refl _)
      obtain ⟨b', o', rfl⟩ := hw.head (by omega)
      obtain ⟨aj, nj, cj, af, nf, cf, d0, d1, hjt, hft⟩ := hw.at' k (by rw [hrl.out]; exact hlt)
      have hk0 : (0 : Int) ≤ k := by omega
      have hkn : (k : Int) < nr := by omega
      have hxm : rounds[k]'(by rw [hrl.out]; exact hlt) ∈ rounds := List.getElem_mem _
      have hj1 := Hf.out.joint _ hxm
      have hf1 := Hf.out.faults _ hxm
      have hYk := hid (show J.take (k + 1 + 1) = J.take (k + 1) ++ [payRound (rounds[k]'(by rw [hrl.out]; exact hlt))] by
        rw [EJ.out]
        show H :: (rounds.map payRound).take (k + 1) = (H :: (rounds.map payRound).take k) ++ [_]
        rw [List.take_succ_eq_append_getElem (by rw [List.length_map, hrl.out]; exact hlt), List.getElem_map]; rfl)
      obtain ⟨x, ex⟩ : ∃ x, x = rounds[k]'(by rw [hrl.out]; exact hlt) := ⟨_, rfl⟩
      rw [← ex] at hjt hft hj1 hf1 hYk
      have hnj : nj ≤ 1000 := by rw [← hjt.len]; exact hj1.1
      have hnf : nf ≤ 1000 := by rw [← hft.len]; exact hf1.1
      have hfr := hid (show ∀ i, i < nf → 0 ≤ x.faults.getD i 0 ∧ x.faults.getD i 0 ≤ 9223372036854775807 from fun i hi => mem_getD hf1.2 i (by rw [hft.len]; exact hi))
      have htl := hid hj1.2
      have hfl := hid (show (listL x.faults []).length ≤ 1000000 by
        have h1 := listL_len x.faults [] hf1.2
        have h2 : x.faults.length * (20 + ([] : List UInt8).length) ≤ 1000 * 20 := Nat.mul_le_mul hf1.1 (by simp)
        omega)
      clear ex hxm hw hj1 hf1
      have bs := hb.size
      have bsT := hbT.size
      obtain ⟨E, eE⟩ : ∃ E, E = escL (termsL x.joint) := ⟨_, rfl⟩
      obtain ⟨L, eL⟩ : ∃ L, L = listL x.faults [] := ⟨_, rfl⟩
      have HE := hid eE.symm
      have HL := hid eL.symm
      have hEl := hid (show E.length ≤ 4000000 by rw [eE]; have h1 := recL_len (termsL x.joint); have h2 := htl.out; omega)
      have hLl := hid (show L.length ≤ 1000000 by rw [eL]; exact hfl.out)
      have add1 := add_lit_str E ⟨#[114, 111, 117, 110, 100, 32]⟩ [114, 111, 117, 110, 100, 32] rfl (by have := hEl.out; simp only [List.length_cons, List.length_nil]; omega)
      obtain ⟨A1, eA1⟩ : ∃ A1, A1 = [114, 111, 117, 110, 100, 32] ++ E := ⟨_, rfl⟩
      rw [← eA1] at add1
      have hA1 := hid (show A1.length ≤ 4000006 by rw [eA1, List.length_append]; have := hEl.out; simp only [List.length_cons, List.length_nil]; omega)
      have add2 := add_str_lit A1 ⟨#[32]⟩ [32] rfl (by have := hA1.out; simp only [List.length_cons, List.length_nil]; omega)
      obtain ⟨A2, eA2⟩ : ∃ A2, A2 = A1 ++ [32] := ⟨_, rfl⟩
      rw [← eA2] at add2
      have add3 := add_str A2 L (by rw [eA2, List.length_append]; have := hA1.out; have := hLl.out; simp only [List.length_cons, List.length_nil]; omega)
      obtain ⟨A3, eA3⟩ : ∃ A3, A3 = A2 ++ L := ⟨_, rfl⟩
      rw [← eA3] at add3
      have hA3 := hid (show payRound x = A3 by rw [eA3, eA2, eA1, eE, eL]; rfl)
      have hJn := hid (show (J.take (k + 1)).length ≤ 1001 by have h1 := List.length_take_le (k + 1) J; have h2 := hrn.out; omega)
      clear eE eL eA1 eA2 eA3
      have hno : _ ≠ some wr.heap.size := fun e => Nat.lt_irrefl _ (own.lt _ e).2
      have bb := (Below.refl wr.heap.size wr).alloc (Nat.le_refl _) (.cells #[.slice aj nj cj, .slice af nf cf] 45)
      have hjb := hjt.below bb (Nat.le_refl _)
      have hfb := hft.below bb (Nat.le_refl _)
      have ownb := own.below bb (Nat.le_refl _)
      have hbb := hb.trans (bb.mono bs)
      have Hb := Has.new wr #[.slice aj nj cj, .slice af nf cf] 45
      have bbs := bb.size
      go_wp2
      obtain ⟨wb, ewb⟩ : ∃ wb, wb = wr.alloc (.cells #[.slice aj nj cj, .slice af nf cf] 45) := ⟨_, rfl⟩
      rw [← ewb] at hjb hfb ownb hbb Hb bbs
      rw [← ewb]
      clear ewb hjt hft own bb hb hbT
      have hrs := hid (show ∀ w', Below wb.heap.size wb w' → w'.cell? ⟨wr.heap.size, 0, none⟩ = some (.slice aj nj cj) ∧ w'.cell? ⟨wr.heap.size, 1, none⟩ = some (.slice af nf cf) from fun w' hb => by
        have H' := Hb.below hb Hb.lt
        exact ⟨H'.cell (j := 0) rfl, H'.cell (j := 1) rfl⟩)
      have Tb := tab_below ht (b0.trans (hbb.mono b0.size)) (Nat.le_refl _)
      have hbs := hbb.size
      have m0 := hrs.out wb (Below.refl _ _)
      have hjd := hjb.below ((Below.refl wb.heap.size wb).drew) (Nat.le_refl _)
      clear Hb
      go_region_held3 (fun wx => wx.cell? ⟨wr.heap.size, 0, none⟩ = some (.slice aj nj cj) ∧ wx.cell? ⟨wr.heap.size, 1, none⟩ = some (.slice af nf cf))
        (first | exact m0 | exact m1 | exact m2 | exact m3 | exact m4 | exact m5)
        (first
          | (go_at_call 74; ((with_reducible refine (tterms_any aj nj cj x.joint _ ?_ (by omega) ?_).mono ?_); (first | exact hjb | exact hjd); (have := htl.out; omega); rintro e w1 ⟨rfl, p1⟩; have p1 : Below wb.heap.size wb w1 := ⟨p1.os, p1.tape, p1.output, p1.size, p1.block⟩; have m1 := hrs.out _ p1))
          | (go_at_call 73; ((with_reducible refine (escape_str (termsL x.joint) _ ?_).mono ?_); (have := htl.out; omega); rintro e w2 ⟨rfl, p2⟩; rw [HE.out]; have p2 : Below wb.heap.size wb w2 := p1.trans (Below.mono ⟨p2.os, p2.tape, p2.output, p2.size, p2.block⟩ p1.size); have m2 := hrs.out _ p2; have hf2 := hfb.below p2 (Nat.le_refl _); have T2 := tab_below Tb p2 (Nat.le_refl _)))
          | (go_at_call 75; refine (jlist_any af nf cf x.faults [] _ hf2 (by omega) hfr.out (by have := hfl.out; omega) T2).mono ?_; rintro e w3 ⟨rfl, p3⟩; rw [HL.out]; have p3 : Below wb.heap.size wb w3 := p2.trans (Below.mono ⟨p3.os, p3.tape, p3.output, p3.size, p3.block⟩ p2.size); have m3 := hrs.out _ p3; have p4 := p3.alloc p3.size (.cells #[.string (str A3)] 9); have m4 := hrs.out _ p4)
          | (refine step_append_run rfl (.tmp 30) (.tmp 41) 32 rfl _ _ (by rfl) (by rfl) (run_append1 _ w0.heap.size 32 _ 9 i0 _ 16 Tryz.underlying32 hi hz0 hz1 hz2 rfl _ (J.take (k + 1)) (ownb.below p4 (Nat.le_refl _)) w3.heap.size 1 (.string (str A3)) A3 ((Has.new w3 #[.string (str A3)] 9).cell (j := 0) rfl) rfl (Rests.str _ _ _) (by rw [maxLen_eq]; have := hJn.out; omega) (by have := hJn.out; omega) (by have := p4.size; omega)) ?_; rintro v5 w5 ⟨own5, b5, hA5, _⟩; have m5 : w5.cell? ⟨wr.heap.size, 0, none⟩ = some (.slice aj nj cj) ∧ w5.cell? ⟨wr.heap.size, 1, none⟩ = some (.slice af nf cf) := ⟨hA5.cell m4.1 hno, hA5.cell m4.2 hno⟩))
      have p4s := p4.size
      go_wp2
      go_roundw
      case rel => exact ⟨k + 1, by omega, by go_num, by rw [hYk.out, hA3.out]; exact own5, hbb.trans ((p4.mono hbb.size).trans (b5.mono (by omega)))⟩
      case measure => simp [intOf]; omega
    · obtain rfl : nr = k := by omega
      have hbT := b0.trans (hb.mono b0.size)
      obtain ⟨q5, q6, q7⟩ := HB2.out _ hb
      have hJa := hid (show J.take (nr + 1) = J by rw [EJ.out, ← hrl.out]; exact List.take_of_length_le (by simp))
      rw [hJa.out] at own
      have bs := hb.size
      cases ended with
      | false =>
        have hfin := hid (show payL ⟨str NM, text, SD, start, clock, rounds, false, goals, excl⟩ = J by rw [EJ.out, EH.out]; simp [payL, payHead])
        go_wp2
        go_ret
        exact ⟨_, rfl, by rw [hfin.out]; exact own.rebase (by omega), hbT⟩
      | true =>
        have hg := hgoals.below hbT (Nat.le_refl _)
        have Tr := tab_below ht hbT (Nat.le_refl _)
        have hg1 := Hf.out.goals
        have hgl : ng ≤ 1000 := by rw [← hgoals.len]; exact hg1.1
        have hgr := hid (show ∀ i, i < ng → 0 ≤ goals.getD i 0 ∧ goals.getD i 0 ≤ 9223372036854775807 from fun i hi => mem_getD hg1.2 i (by rw [hgoals.len]; exact hi))
        have hgL := hid (show (listL goals [44]).length ≤ 1000000 by
          have h1 := listL_len goals [44] hg1.2
          have h2 : goals.length * (20 + ([44] : List UInt8).length) ≤ 1000 * 21 := Nat.mul_le_mul hg1.1 (by simp)
          omega)
        obtain ⟨L, eL⟩ : ∃ L, L = listL goals [44] := ⟨_, rfl⟩
        have HL := hid eL.symm
        have add1 := add_lit_str L ⟨#[111, 118, 101, 114, 32]⟩ [111, 118, 101, 114, 32] rfl (by rw [eL]; have := hgL.out; simp only [List.length_cons, List.length_nil]; omega)
        obtain ⟨A1, eA1⟩ : ∃ A1, A1 = [111, 118, 101, 114, 32] ++ L := ⟨_, rfl⟩
        rw [← eA1] at add1
        have hfin := hid (show payL ⟨str NM, text, SD, start, clock, rounds, true, goals, excl⟩ = J ++ [A1] by rw [EJ.out, EH.out, eA1, eL]; simp [payL, payHead, payOver])
        have hJn := hid (show J.length ≤ 1001 by rw [EJ.out, List.length_cons, List.length_map, hrl.out]; have := hrn.out; omega)
        clear eL eA1 hg1
        have keep := hid (show ∀ w', Below wr.heap.size wr w' → w'.cell? ⟨w.heap.size, 7, none⟩ = some (.slice ag ng cg) from fun w' h => (h.cell (p := ⟨w.heap.size, 7, none⟩) (Nat.lt_of_lt_of_le hz bs)).trans q7)
        go_wp2_with fail
        refine (jlist_any ag ng cg goals [44] _ hg (by omega) hgr.out (by have := hgL.out; omega) Tr).mono ?_
        rintro e w3 ⟨rfl, p3⟩
        rw [HL.out]
        have p4 := p3.alloc p3.size (.cells #[.string (str A1)] 9)
        have p4s := p4.size
        go_wp2_with (at_builtin; go_must (refine wpList_append_run rfl (.tmp 46) (.tmp 51) 32 rfl _ _ (by rfl) (by rfl) (run_append1 _ w0.heap.size 32 _ 9 i0 _ 16 Tryz.underlying32 hi hz0 hz1 hz2 rfl _ J (own.below p4 (Nat.le_refl _)) w3.heap.size 1 (.string (str A1)) A1 ((Has.new w3 #[.string (str A1)] 9).cell (j := 0) rfl) rfl (Rests.str _ _ _) (by rw [maxLen_eq]; have := hJn.out; omega) (by have := hJn.out; omega) (by omega)) ?_; rintro v5 w5 ⟨own5, b5, hA5, _⟩))
        go_ret
        exact ⟨_, rfl, by rw [hfin.out]; exact own5.rebase (by omega), hbT.trans ((p4.mono hbT.size).trans (b5.mono (by omega)))⟩
end Go.Proofs.YtahbhhenobehfaaGreatDoor
