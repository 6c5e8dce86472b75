/-
  The seats that are excluded, and the walk of Excluded of the reference.
  The walk of excluded of package journal.
-/
import Derived.Test.YtahbhhenobehfaaGreatDoorM11
import Derived.Test.YtahbhhenobehfaaGreatDoorNT10
import Derived.Laws.MakeOwn
namespace Go.Proofs.YtahbhhenobehfaaGreatDoor
open Go.ChangeShapes Go.WideShapes Go.ChangeAt Go.RowKit

def missed (s : Nat) (x : Rnd) : Bool := decide (s < x.faults.length) && decide (x.faults.getD s 0 ≠ 0)
def strikes (l : List Rnd) (s : Nat) : Nat := l.countP (missed s)
def seatsL : List Rnd → Nat
  | [] => 0
  | x :: _ => x.faults.length
def exclL (l : List Rnd) : List Bool := (List.range (seatsL l)).map fun s => decide (3 ≤ strikes l s)
theorem exclL_len (l : List Rnd) : (exclL l).length = seatsL l := by simp [exclL]
theorem strikes_zero (l : List Rnd) (s : Nat) : strikes (l.take 0) s = 0 := by simp [strikes]
theorem strikes_yes {l : List Rnd} {s : Nat} (k : Nat) (hk : k < l.length) (h1 : s < l[k].faults.length) (h2 : l[k].faults.getD s 0 ≠ 0) : strikes (l.take (k + 1)) s = strikes (l.take k) s + 1 := by
  unfold strikes
  rw [List.take_succ_eq_append_getElem hk, List.countP_append]
  have : missed s l[k] = true := by unfold missed; rw [decide_eq_true h1, decide_eq_true h2]; rfl
  simp [this]
theorem strikes_no {l : List Rnd} {s : Nat} (k : Nat) (hk : k < l.length) (h : missed s l[k] = false) : strikes (l.take (k + 1)) s = strikes (l.take k) s := by
  unfold strikes
  rw [List.take_succ_eq_append_getElem hk, List.countP_append]
  simp [h]
theorem missed_short {s : Nat} {x : Rnd} (h : ¬ s < x.faults.length) : missed s x = false := by unfold missed; rw [decide_eq_false h]; rfl
theorem missed_zero {s : Nat} {x : Rnd} (h : x.faults.getD s 0 = 0) : missed s x = false := by unfold missed; rw [h]; simp
theorem strikes_le (l : List Rnd) (s k : Nat) : strikes (l.take k) s ≤ l.length := Nat.le_trans List.countP_le_length (by rw [List.length_take]; omega)
theorem exclL_succ {l : List Rnd} (s : Nat) (h : s < seatsL l) : (exclL l).take (s + 1) = (exclL l).take s ++ [decide (3 ≤ strikes l s)] := by
  rw [List.take_succ_eq_append_getElem (by rw [exclL_len]; exact h)]
  simp [exclL]
theorem info_bool : (Tryz.prog.info? 4).map (fun i => (i.zero, i.size, i.bytes)) = some (some (.bool false), 1, 1) := by kernel_rfl
set_option maxRecDepth 20000 in
set_option maxHeartbeats 8000000 in
theorem rexcl_any (ar : Option Addr) (nr cr : Nat) (l : List Rnd) (w : World) (h : RndsAt w ar nr cr l) (hn : nr ≤ 1000) (hs : seatsL l ≤ 1000) :
    Calls Tryz.prog 27 #[.slice ar nr cr] w fun e w' => ∃ v, e = .returned v ∧ OwnL BoolC w.heap.size 4 w' v (exclL l) ∧ Below w.heap.size w w' := by
  by_cases h0 : nr = 0
  · subst h0
    obtain rfl : l = [] := List.eq_nil_of_length_eq_zero h.len
    go_enter Tryz.func27, Tryz.ntmps27
    go_wp2
    go_ret
    exact ⟨.slice none 0 0, rfl, OwnL.nil _ _ _ _, Below.refl _ _⟩
  obtain ⟨i0, hi, hz0, hz1, hz2⟩ := info_parts info_bool
  have hnz : ((nr : Int) == 0) = false := by simp; omega
  have hn0 : (0 : Int) < nr := by omega
  have hl := hid h.len
  have hle := h.le
  have hmx := h.max
  obtain ⟨b, o, rfl⟩ := h.head (by omega)
  obtain ⟨_, _, _, af0, F, cf0, _, d1, _, hf0⟩ := h.at' 0 (by rw [hl.out]; omega)
  have hF := hid (show seatsL l = F by
    have h2 := hf0.len
    have h3 := hl.out
    cases l with
    | nil => simp at h3; omega
    | cons x r => exact h2)
  have hF1000 : F ≤ 1000 := by rw [← hF.out]; exact hs
  rw [Nat.zero_mul, Nat.add_zero] at d1
  clear hf0 hs
  obtain ⟨X, eX⟩ : ∃ X, X = exclL l := ⟨_, rfl⟩
  have HX := hid eX
  have hX0 : X.take 0 = [] := List.take_zero
  have hXl := hid (show X.length = F by rw [eX, exclL_len]; exact hF.out)
  have hXs := hid (show ∀ s, s < F → X.take (s + 1) = X.take s ++ [decide (3 ≤ strikes l s)] from fun s hs => by rw [eX]; exact exclL_succ s (by rw [hF.out]; exact hs))
  rw [← eX]
  clear eX
  go_enter Tryz.func27, Tryz.ntmps27
  go_wp2
  go_loopw [3, 16] (fun v i wr => ∃ s : Nat, s ≤ F ∧ i = .int .i64 s ∧ OwnL BoolC w.heap.size 4 wr v (X.take s) ∧ Below w.heap.size w wr) (fun _ i _ => F - (intOf i).toNat)
  case atStart => exact ⟨0, Nat.zero_le _, rfl, by rw [hX0]; exact OwnL.nil _ _ _ _, Below.refl _ _⟩
  case round =>
    clear hX0 d1
    obtain ⟨s, hs, rfl, own, hb⟩ := hrel
    by_cases hsF : s < F
    · have hr := h.below hb (Nat.le_refl _)
      have hs0 : (0 : Int) ≤ s := by omega
      have hsi : (s : Int) < F := by omega
      have hYs := hid (hXs.out s hsF)
      have hts := hid (List.length_take_le s X)
      have hbs := hb.size
      go_wp2
      go_loop [5, 21] (fun c i => ∃ k : Nat, k ≤ nr ∧ i = .int .i64 k ∧ ∃ C : Nat, c = .int .i64 C ∧ Hid (strikes (l.take k) s = C)) (fun _ i => nr - (intOf i).toNat)
      case atStart => exact ⟨0, Nat.zero_le _, rfl, 0, rfl, hid (strikes_zero l s)⟩
      case round =>
        obtain ⟨k, hk, rfl, C, rfl, hC⟩ := hrel
        by_cases hlt : k < nr
        · have hk0 : (0 : Int) ≤ k := by omega
          have hkn : (k : Int) < nr := by omega
          have hC1 : C ≤ 1000 := by have h1 := strikes_le l s k; have h2 := hC.out; have h3 := hl.out; omega
          obtain ⟨_, _, _, af, nf, cf, _, d2, _, hft⟩ := hr.at' k (by rw [hl.out]; exact hlt)
          have hfl := hid hft.len
          by_cases hsn : s < nf
          · have hsni : (s : Int) < nf := by omega
            obtain ⟨b2, o2, rfl⟩ := hft.head (by omega)
            have hc := hft.int s hsn
            obtain ⟨x, ex⟩ : ∃ x, x = (l[k]'(by rw [hl.out]; exact hlt)).faults.getD s 0 := ⟨_, rfl⟩
            rw [← ex] at hc
            have Ex := hid ex
            have hfle := hft.le
            have hfmx := hft.max
            clear ex hr hft
            by_cases hx : x = 0
            · have hst := hid (show strikes (l.take (k + 1)) s = C by rw [strikes_no k (by rw [hl.out]; exact hlt) (missed_zero (by rw [← Ex.out]; exact hx))]; exact hC.out)
              subst hx
              go_wp2
              go_round
              case rel => exact ⟨k + 1, by omega, by go_num, C, rfl, hst⟩
              case measure => simp [intOf]; omega
            · have hst := hid (show strikes (l.take (k + 1)) s = C + 1 by rw [strikes_yes k (by rw [hl.out]; exact hlt) (by rw [hfl.out]; exact hsn) (by rw [← Ex.out]; exact hx), hC.out])
              have hxz : (x == 0) = false := by simp; exact hx
              clear hx
              go_wp2
              go_round
              case rel => exact ⟨k + 1, by omega, by go_num, C + 1, by go_num, hst⟩
              case measure => simp [intOf]; omega
          · have hst := hid (show strikes (l.take (k + 1)) s = C by rw [strikes_no k (by rw [hl.out]; exact hlt) (missed_short (by rw [hfl.out]; exact hsn))]; exact hC.out)
            have hsni : ¬ (s : Int) < nf := by omega
            clear hr hft
            go_wp2
            go_round
            case rel => exact ⟨k + 1, by omega, by go_num, C, rfl, hst⟩
            case measure => simp [intOf]; omega
        · obtain rfl : nr = k := by omega
          have hCf := hid (show strikes l s = C by have h1 := hC.out; rwa [List.take_of_length_le (by rw [hl.out]; omega)] at h1)
          clear hr
          have p4 := fun (u : Bool) => (Below.refl wr.heap.size wr).alloc (Nat.le_refl _) (.cells #[.bool u] 4)
          by_cases h3 : 3 ≤ C
          · have h3i : (3 : Int) ≤ C := by omega
            have hd := hid (show decide (3 ≤ strikes l s) = true from decide_eq_true (by rw [hCf.out]; exact h3))
            have ps := (p4 true).size
            have q4 := p4 true
            clear p4
            go_wp2_with (at_builtin; go_must (refine wpList_append_run rfl (.tmp 46) (.tmp 49) 25 rfl _ _ (by rfl) (by rfl) (run_append1 _ w.heap.size 25 _ 4 i0 _ 1 Tryz.underlying25 hi hz0 hz1 hz2 rfl _ (X.take s) (own.below q4 (Nat.le_refl _)) wr.heap.size 1 (.bool true) true ((Has.new wr #[.bool true] 4).cell (j := 0) rfl) rfl (Rests.bool _ _ _) (by rw [maxLen_eq]; have := hts.out; omega) (by have := hts.out; omega) (by omega)) ?_; rintro v5 w5 ⟨own5, b5, hA5, _⟩))
            go_roundw
            case rel => exact ⟨s + 1, by omega, by go_num, by rw [hYs.out, hd.out]; exact own5, hb.trans ((q4.mono hbs).trans b5)⟩
            case measure => simp [intOf]; omega
          · have h3i : ¬ (3 : Int) ≤ C := by omega
            have hd := hid (show decide (3 ≤ strikes l s) = false from decide_eq_false (by rw [hCf.out]; exact h3))
            have ps := (p4 false).size
            have q4 := p4 false
            clear p4
            go_wp2_with (at_builtin; go_must (refine wpList_append_run rfl (.tmp 46) (.tmp 49) 25 rfl _ _ (by rfl) (by rfl) (run_append1 _ w.heap.size 25 _ 4 i0 _ 1 Tryz.underlying25 hi hz0 hz1 hz2 rfl _ (X.take s) (own.below q4 (Nat.le_refl _)) wr.heap.size 1 (.bool false) false ((Has.new wr #[.bool false] 4).cell (j := 0) rfl) rfl (Rests.bool _ _ _) (by rw [maxLen_eq]; have := hts.out; omega) (by have := hts.out; omega) (by omega)) ?_; rintro v5 w5 ⟨own5, b5, hA5, _⟩))
            go_roundw
            case rel => exact ⟨s + 1, by omega, by go_num, by rw [hYs.out, hd.out]; exact own5, hb.trans ((q4.mono hbs).trans b5)⟩
            case measure => simp [intOf]; omega
    · obtain rfl : F = s := by omega
      have hfin := hid (show X.take F = X from List.take_of_length_le (by rw [hXl.out]; exact Nat.le_refl _))
      rw [hfin.out] at own
      go_wp2
      go_ret
      exact ⟨_, rfl, own, hb⟩
end Go.Proofs.YtahbhhenobehfaaGreatDoor
namespace Go.Proofs.YtahbhhenobehfaaGreatDoor
open Go.ChangeShapes Go.WideShapes Go.ChangeAt Go.RowKit

def bools (l : List Bool) : Array Value := (l.map Value.bool).toArray
theorem bools_get (l : List Bool) (i : Nat) (h : i < l.length) : (bools l)[i]? = some (.bool (l.getD i false)) := by
  unfold bools
  simp [List.getD, h]
theorem bools_set (l : List Bool) (i : Nat) (x : Bool) : (bools l).setIfInBounds i (.bool x) = bools (l.set i x) := by
  unfold bools
  simp [List.map_set]
theorem bools_size (l : List Bool) : (bools l).size = l.length := by simp [bools]
/-- The first s of a list, and no others. -/
def partB (X : List Bool) (F s : Nat) : List Bool := X.take s ++ List.replicate (F - s) false
theorem partB_len (X : List Bool) (F s : Nat) (h : X.length = F) (hs : s ≤ F) : (partB X F s).length = F := by
  unfold partB; rw [List.length_append, List.length_take, List.length_replicate]; omega
theorem partB_set (X : List Bool) (F s : Nat) (h : X.length = F) (hs : s < F) (x : Bool) (hx : X.take (s + 1) = X.take s ++ [x]) : (partB X F s).set s x = partB X F (s + 1) := by
  unfold partB
  have e : F - s = (F - (s + 1)) + 1 := by omega
  rw [hx, e, List.replicate_succ, List.set_append_right _ _ (by rw [List.length_take]; omega), List.length_take, show s - min s X.length = 0 by omega, List.set_cons_zero, List.append_assoc]
  rfl
theorem partB_zero (X : List Bool) (F : Nat) : partB X F 0 = List.replicate F false := by simp [partB]
theorem partB_all (X : List Bool) (F : Nat) (h : X.length = F) : partB X F F = X := by
  unfold partB
  rw [List.take_of_length_le (by omega)]; simp
theorem make_bools (F : Nat) (hF : F ≤ 1000) (w : World) : (Instr.makeSlice 25 (.int .i64 (F : Int)) (.int .i64 (F : Int))).run Tryz.prog w = .ok (.slice (some ⟨w.heap.size, 0, none⟩) F F) (w.alloc (.cells (bools (List.replicate F false)) 4)) := by
  obtain ⟨i0, hi, hz0, hz1, hz2⟩ := info_parts info_bool
  have h := run_make (P := Tryz.prog) w 25 4 i0 (.bool false) Tryz.underlying25 hi hz0 .i64 .i64 (F : Int) (F : Int) (by omega) (by omega) (by rw [hz2]; omega) (by omega)
  simp only [Int.toNat_natCast, hz1] at h
  have e : madeCells (Value.bool false).cells (F * 1) = bools (List.replicate F false) := by
    apply Array.toList_inj.mp
    show (madeCells #[Value.bool false] _).toList = _
    rw [toList_madeCells_one]
    simp [bools]
  rw [h, e]
set_option maxRecDepth 20000 in
set_option maxHeartbeats 8000000 in
theorem jexcl_any (ar : Option Addr) (nr cr : Nat) (l : List Rnd) (w : World) (h : RndsAt w ar nr cr l) (hn : nr ≤ 1000) (hs : seatsL l ≤ 1000) :
    Calls Tryz.prog 47 #[.slice ar nr cr] w fun e w' => ∃ v, e = .returned v ∧ OwnL BoolC w.heap.size 4 w' v (exclL l) ∧ Below w.heap.size w w' := by
  by_cases h0 : nr = 0
  · subst h0
    obtain rfl : l = [] := List.eq_nil_of_length_eq_zero h.len
    go_enter Tryz.func47, Tryz.ntmps47
    go_wp2
    go_ret
    exact ⟨.slice none 0 0, rfl, OwnL.nil _ _ _ _, Below.refl _ _⟩
  have hnz : ((nr : Int) == 0) = false := by simp; omega
  have hn0 : (0 : Int) < nr := by omega
  have hl := hid h.len
  have hle := h.le
  have hmx := h.max
  obtain ⟨b, o, rfl⟩ := h.head (by omega)
  obtain ⟨_, _, _, af0, F, cf0, _, d1, _, hf0⟩ := h.at' 0 (by rw [hl.out]; omega)
  have hF := hid (show seatsL l = F by
    have h2 := hf0.len
    have h3 := hl.out
    cases l with
    | nil => simp at h3; omega
    | cons x r => exact h2)
  have hF1000 : F ≤ 1000 := by rw [← hF.out]; exact hs
  rw [Nat.zero_mul, Nat.add_zero] at d1
  clear hf0 hs
  obtain ⟨X, eX⟩ : ∃ X, X = exclL l := ⟨_, rfl⟩
  have HX := hid eX
  have hXl := hid (show X.length = F by rw [eX, exclL_len]; exact hF.out)
  have hXs := hid (show ∀ s, s < F → X.take (s + 1) = X.take s ++ [decide (3 ≤ strikes l s)] from fun s hs => by rw [eX]; exact exclL_succ s (by rw [hF.out]; exact hs))
  rw [← eX]
  clear eX
  have hmk := make_bools F hF1000
  have H0 : Has (w.alloc (.cells (bools (List.replicate F false)) 4)) w.heap.size (bools (List.replicate F false)) 4 := Has.new _ _ _
  have b0 : Below w.heap.size w (w.alloc (.cells (bools (List.replicate F false)) 4)) := (Below.refl _ _).alloc (Nat.le_refl _) _
  go_enter Tryz.func47, Tryz.ntmps47
  go_wp2
  obtain ⟨w0, ew0⟩ : ∃ w0, w0 = w.alloc (.cells (bools (List.replicate F false)) 4) := ⟨_, rfl⟩
  rw [← ew0] at b0 H0
  rw [← partB_zero X F] at H0
  rw [← ew0]
  clear ew0 hmk d1
  go_loopw [19] (fun i wr => ∃ s : Nat, s ≤ F ∧ i = .int .i64 s ∧ Has wr w.heap.size (bools (partB X F s)) 4 ∧ Below w.heap.size w wr) (fun i _ => F - (intOf i).toNat)
  case atStart => exact ⟨0, Nat.zero_le _, rfl, H0, b0⟩
  case round =>
    clear H0 b0
    obtain ⟨s, hs, rfl, own, hb⟩ := hrel
    by_cases hsF : s < F
    · have hr := h.below hb (Nat.le_refl _)
      have hs0 : (0 : Int) ≤ s := by omega
      have hsi : (s : Int) < F := by omega
      have hYs := hid (hXs.out s hsF)
      have hg := own.lt
      obtain ⟨wo, ewo⟩ : ∃ wo, wo = wr := ⟨_, rfl⟩
      rw [← ewo] at own hb hr hg ⊢
      clear ewo
      go_wp2
      go_loopw [5, 24] (fun c i wr => ∃ k : Nat, k ≤ nr ∧ i = .int .i64 k ∧ ∃ C : Nat, c = .int .i64 C ∧ Hid (strikes (l.take k) s = C) ∧ Below wo.heap.size wo wr) (fun _ i _ => nr - (intOf i).toNat)
      case atStart => exact ⟨0, Nat.zero_le _, rfl, 0, rfl, hid (strikes_zero l s), Below.refl _ _⟩
      case round =>
        obtain ⟨k, hk, rfl, C, rfl, hC, hb2⟩ := hrel
        have hb2s := hb2.size
        by_cases hlt : k < nr
        · have hk0 : (0 : Int) ≤ k := by omega
          have hkn : (k : Int) < nr := by omega
          have hC1 : C ≤ 1000 := by have h1 := strikes_le l s k; have h2 := hC.out; have h3 := hl.out; omega
          have hr2 := hr.below hb2 (Nat.le_refl _)
          obtain ⟨aj, nj, cj, af, nf, cf, d1, d2, _, hft⟩ := hr2.at' k (by rw [hl.out]; exact hlt)
          have hfl := hid hft.len
          have bb := (Below.refl wr.heap.size wr).alloc (Nat.le_refl _) (.cells #[.slice aj nj cj, .slice af nf cf] 45)
          have hb3 := hb2.trans (bb.mono hb2s)
          by_cases hsn : s < nf
          · have hsni : (s : Int) < nf := by omega
            obtain ⟨b2, o2, rfl⟩ := hft.head (by omega)
            have hc := (hft.below bb (Nat.le_refl _)).int s hsn
            obtain ⟨x, ex⟩ : ∃ x, x = (l[k]'(by rw [hl.out]; exact hlt)).faults.getD s 0 := ⟨_, rfl⟩
            rw [← ex] at hc
            have Ex := hid ex
            have hfle := hft.le
            have hfmx := hft.max
            clear ex hr hft hr2 bb own
            by_cases hx : x = 0
            · have hst := hid (show strikes (l.take (k + 1)) s = C by rw [strikes_no k (by rw [hl.out]; exact hlt) (missed_zero (by rw [← Ex.out]; exact hx))]; exact hC.out)
              subst hx
              go_wp2
              go_roundw
              case rel => exact ⟨k + 1, by omega, by go_num, C, rfl, hst, hb3⟩
              case measure => simp [intOf]; omega
            · have hst := hid (show strikes (l.take (k + 1)) s = C + 1 by rw [strikes_yes k (by rw [hl.out]; exact hlt) (by rw [hfl.out]; exact hsn) (by rw [← Ex.out]; exact hx), hC.out])
              have hxz : (x == 0) = false := by simp; exact hx
              clear hx
              go_wp2
              go_roundw
              case rel => exact ⟨k + 1, by omega, by go_num, C + 1, by go_num, hst, hb3⟩
              case measure => simp [intOf]; omega
          · have hst := hid (show strikes (l.take (k + 1)) s = C by rw [strikes_no k (by rw [hl.out]; exact hlt) (missed_short (by rw [hfl.out]; exact hsn))]; exact hC.out)
            have hsni : ¬ (s : Int) < nf := by omega
            clear hr hft hr2 bb own
            go_wp2
            go_roundw
            case rel => exact ⟨k + 1, by omega, by go_num, C, rfl, hst, hb3⟩
            case measure => simp [intOf]; omega
        · obtain rfl : nr = k := by omega
          have hCf := hid (show strikes l s = C by have h1 := hC.out; rwa [List.take_of_length_le (by rw [hl.out]; omega)] at h1)
          have own2 := own.below hb2 hg
          have hbT := hb.trans (hb2.mono hb.size)
          have cs := own2.cell (bools_get (partB X F s) s (by rw [partB_len X F s hXl.out (by omega)]; exact hsF))
          have fs := own2.free s
          clear hr own
          by_cases h3 : 3 ≤ C
          · have h3i : (3 : Int) ≤ C := by omega
            have hd := hid (show decide (3 ≤ strikes l s) = true from decide_eq_true (by rw [hCf.out]; exact h3))
            have own3 := own2.set s (.bool true)
            rw [bools_set, partB_set X F s hXl.out hsF true (by rw [hYs.out, hd.out])] at own3
            go_wp2
            go_roundw
            case rel => exact ⟨s + 1, by omega, by go_num, own3, bset hbT (Nat.le_refl _) _⟩
            case measure => simp [intOf]; omega
          · have h3i : ¬ (3 : Int) ≤ C := by omega
            have hd := hid (show decide (3 ≤ strikes l s) = false from decide_eq_false (by rw [hCf.out]; exact h3))
            have own3 := own2.set s (.bool false)
            rw [bools_set, partB_set X F s hXl.out hsF false (by rw [hYs.out, hd.out])] at own3
            go_wp2
            go_roundw
            case rel => exact ⟨s + 1, by omega, by go_num, own3, bset hbT (Nat.le_refl _) _⟩
            case measure => simp [intOf]; omega
    · obtain rfl : F = s := by omega
      rw [partB_all X F hXl.out] at own
      go_wp2
      go_ret
      exact ⟨_, rfl, OwnL.lit own (Nat.le_refl _) hXl.out (by rw [bools_size]; exact hXl.out) (by rw [maxLen_eq]; omega) (fun i hi => ⟨_, bools_get X i hi, by
        rw [List.getD_eq_getElem?_getD, List.getElem?_eq_getElem hi]
        exact Rests.bool _ _ _⟩), hb⟩
end Go.Proofs.YtahbhhenobehfaaGreatDoor
