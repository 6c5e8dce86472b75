/-
  What makes a record well-formed, and the walk of formed of package journal.
-/
import Derived.Test.YtahbhhenobehfaaGreatDoorM20
import Derived.Test.YtahbhhenobehfaaGreatDoorM10
import Derived.Deep.RegionHeld3
namespace Go.Proofs.YtahbhhenobehfaaGreatDoor
open Go.ChangeShapes Go.WideShapes Go.ChangeAt Go.RowKit

def firstB : List Rnd → Bool
  | [] => true
  | x :: _ => decide (x.joint.length = 0)
def headB (r : Rec) : Bool := nameB r.name.data.toList && ((decide (1 ≤ r.start) && decide (r.start ≤ 1000)) && ((decide (1 ≤ r.clock) && decide (r.clock ≤ 1000)) && (decide (r.text.size ≤ 16384) && decide (r.rounds.length ≤ 65))))
def tailB (r : Rec) : Bool := decide (r.goals.length ≤ 4) && (withinB r.goals 100 && (r.ended || decide (r.goals.length = 0)))
def wfB (r : Rec) : Bool := headB r && ((firstB r.rounds && r.rounds.all roundB) && (tailB r && sameB r.excl (exclL r.rounds)))
theorem wfB_head {r : Rec} (h : headB r = false) : wfB r = false := by unfold wfB; rw [h]; rfl
theorem wfB_first {r : Rec} (h : firstB r.rounds = false) : wfB r = false := by unfold wfB; rw [h]; simp
theorem wfB_rounds {r : Rec} (h : r.rounds.all roundB = false) : wfB r = false := by unfold wfB; rw [h]; simp
theorem wfB_tail {r : Rec} (h : tailB r = false) : wfB r = false := by unfold wfB; rw [h]; simp
theorem wfB_last {r : Rec} (h1 : headB r = true) (h2 : firstB r.rounds = true) (h3 : r.rounds.all roundB = true) (h4 : tailB r = true) : wfB r = sameB r.excl (exclL r.rounds) := by unfold wfB; rw [h1, h2, h3, h4]; rfl
theorem firstB_getD {l : List Rnd} (h : 0 < l.length) : firstB l = decide ((l[0]).joint.length = 0) := by
  cases l with
  | nil => simp at h
  | cons x r => rfl
set_option maxRecDepth 100000 in
set_option maxHeartbeats 16000000 in
theorem formed_any (r : Rec) (ar : Option Addr) (nr cr : Nat) (ag : Option Addr) (ng cg : Nat) (ae : Option Addr) (ne ce : Nat) (w : World) (h : RecAt w r ar nr cr ag ng cg ae ne ce) :
    Calls Tryz.prog 36 #[.agg #[.string r.name, .string r.text, .int .u64 r.seed, .int .i64 r.start, .int .i64 r.clock, .slice ar nr cr, .bool r.ended, .slice ag ng cg, .slice ae ne ce]] w fun e w' => e = .returned (.bool (wfB r)) ∧ Below w.heap.size w w' := by
  obtain ⟨W, eW⟩ : ∃ W, W = wfB r := ⟨_, rfl⟩
  rw [← eW]
  obtain ⟨R, eR⟩ : ∃ R, R = r := ⟨_, rfl⟩
  rw [← eR] at eW
  have HW := hid eW
  have ER := hid eR
  clear eW eR
  obtain ⟨name, text, seed, start, clock, rounds, ended, goals, excl⟩ := r
  obtain ⟨hrounds, hgoals, hexcl, hname, htext⟩ := h
  simp only at hname htext hrounds hgoals hexcl ⊢
  have b0 : Below w.heap.size w (w.alloc (.cells #[.string name, .string text, .int .u64 seed, .int .i64 start, .int .i64 clock, .slice ar nr cr, .bool ended, .slice ag ng cg, .slice ae ne ce] 27)) := (Below.refl _ _).alloc (Nat.le_refl _) _
  have H0 := Has.new w #[.string name, .string text, .int .u64 seed, .int .i64 start, .int .i64 clock, .slice ar nr cr, .bool ended, .slice ag ng cg, .slice ae ne ce] 27
  go_enter Tryz.func36, Tryz.ntmps36
  obtain ⟨w0, ew0⟩ : ∃ w0, w0 = w.alloc (.cells #[.string name, .string text, .int .u64 seed, .int .i64 start, .int .i64 clock, .slice ar nr cr, .bool ended, .slice ag ng cg, .slice ae ne ce] 27) := ⟨_, rfl⟩
  have hz : w.heap.size < w0.heap.size := by rw [ew0]; exact H0.lt
  have HB := hid (show ∀ w', Below w0.heap.size w0 w' → w'.cell? ⟨w.heap.size, 0, none⟩ = some (.string name) ∧ w'.cell? ⟨w.heap.size, 1, none⟩ = some (.string text) ∧ w'.cell? ⟨w.heap.size, 3, none⟩ = some (.int .i64 start) ∧ w'.cell? ⟨w.heap.size, 4, none⟩ = some (.int .i64 clock) ∧ w'.cell? ⟨w.heap.size, 5, none⟩ = some (.slice ar nr cr) ∧ w'.cell? ⟨w.heap.size, 6, none⟩ = some (.bool ended) ∧ w'.cell? ⟨w.heap.size, 7, none⟩ = some (.slice ag ng cg) ∧ w'.cell? ⟨w.heap.size, 8, none⟩ = some (.slice ae ne ce) from fun w' hb => by
    rw [← ew0] at H0
    have H' := H0.below hb hz
    exact ⟨H'.cell (j := 0) rfl, H'.cell (j := 1) rfl, H'.cell (j := 3) rfl, H'.cell (j := 4) rfl, H'.cell (j := 5) rfl, H'.cell (j := 6) rfl, H'.cell (j := 7) rfl, H'.cell (j := 8) rfl⟩)
  have hHead := hid (show headB R = (nameB name.data.toList && ((decide (1 ≤ start) && decide (start ≤ 1000)) && ((decide (1 ≤ clock) && decide (clock ≤ 1000)) && (decide (text.size ≤ 16384) && decide (rounds.length ≤ 65))))) by rw [ER.out]; rfl)
  have hTail := hid (show tailB R = (decide (goals.length ≤ 4) && (withinB goals 100 && (ended || decide (goals.length = 0)))) by rw [ER.out]; rfl)
  have hFirst := hid (show firstB R.rounds = firstB rounds by rw [ER.out])
  have hAll := hid (show R.rounds.all roundB = rounds.all roundB by rw [ER.out])
  have hLast := hid (show sameB R.excl (exclL R.rounds) = sameB excl (exclL rounds) by rw [ER.out])
  have hrl := hid hrounds.len
  have hgl := hid hgoals.len
  have hrle := hrounds.le
  have hrmx := hrounds.max
  go_wp2_with fail
  rw [← ew0] at b0
  rw [← ew0]
  clear ew0 H0
  refine (tname_any name _ hname).mono ?_
  rintro e w1 ⟨rfl, o1⟩
  obtain ⟨c0, c1, c3, c4, c5, c6, c7, c8⟩ := HB.out _ o1
  have b1 := b0.trans (o1.mono b0.size)
  obtain ⟨g1, eg1⟩ : ∃ g1, g1 = nameB name.data.toList := ⟨_, rfl⟩
  rw [← eg1]
  have E1 := hid eg1
  clear eg1
  cases g1
  · go_wp2
    go_ret
    exact ⟨ret_boolv (HW.out.trans (wfB_head (by rw [hHead.out, ← E1.out]; rfl))).symm, b1⟩
  go_wp2_with fail
  refine (thousand_any start _).mono ?_
  rintro e w2 ⟨rfl, rfl⟩
  obtain ⟨g2, eg2⟩ : ∃ g2, g2 = (decide (1 ≤ start) && decide (start ≤ 1000)) := ⟨_, rfl⟩
  rw [← eg2]
  have E2 := hid eg2
  clear eg2
  cases g2
  · go_wp2
    go_ret
    exact ⟨ret_boolv (HW.out.trans (wfB_head (by rw [hHead.out, ← E1.out, ← E2.out]; rfl))).symm, b1⟩
  go_wp2_with fail
  refine (thousand_any clock _).mono ?_
  rintro e w2 ⟨rfl, rfl⟩
  obtain ⟨g3, eg3⟩ : ∃ g3, g3 = (decide (1 ≤ clock) && decide (clock ≤ 1000)) := ⟨_, rfl⟩
  rw [← eg3]
  have E3 := hid eg3
  clear eg3
  cases g3
  · go_wp2
    go_ret
    exact ⟨ret_boolv (HW.out.trans (wfB_head (by rw [hHead.out, ← E1.out, ← E2.out, ← E3.out]; rfl))).symm, b1⟩
  by_cases h4 : text.size ≤ 16384
  case neg =>
    have h4i : (16384 : Int) < text.size := by omega
    have hn := hid h4
    clear h4
    go_wp2
    go_ret
    exact ⟨ret_boolv (HW.out.trans (wfB_head (by rw [hHead.out, decide_eq_false hn.out]; simp))).symm, b1⟩
  have h4i : ¬ (16384 : Int) < text.size := by omega
  by_cases h5 : nr ≤ 65
  case neg =>
    have h5i : (65 : Int) < nr := by omega
    have hn := hid h5
    clear h5
    go_wp2
    go_ret
    exact ⟨ret_boolv (HW.out.trans (wfB_head (by rw [hHead.out, hrl.out, decide_eq_false hn.out]; simp))).symm, b1⟩
  have h5i : ¬ (65 : Int) < nr := by omega
  have hHd := hid (show headB R = true by rw [hHead.out, ← E1.out, ← E2.out, ← E3.out, decide_eq_true h4, hrl.out, decide_eq_true h5]; rfl)
  have hF : Hid (firstB rounds = false) ∧ (∃ b o nj, ar = some ⟨b, o, none⟩ ∧ 0 < nr ∧ 0 < nj ∧ ∃ aj cj, w2.cell? ⟨b, o, none⟩ = some (.slice aj nj cj)) ∨ Hid (firstB rounds = true) ∧ (nr = 0 ∨ ∃ b o, ar = some ⟨b, o, none⟩ ∧ 0 < nr ∧ ∃ aj cj, w2.cell? ⟨b, o, none⟩ = some (.slice aj 0 cj)) := by
    by_cases h0 : nr = 0
    · right
      obtain rfl : rounds = [] := List.eq_nil_of_length_eq_zero (by rw [hrl.out]; exact h0)
      exact ⟨hid rfl, Or.inl h0⟩
    · have hr1 := hrounds.below b1 (Nat.le_refl _)
      obtain ⟨b, o, rfl⟩ := hr1.head (by omega)
      obtain ⟨aj, nj, cj, _, _, _, d0, _, hjt, _⟩ := hr1.at' 0 (by rw [hrl.out]; omega)
      rw [Nat.zero_mul, Nat.add_zero] at d0
      have e := firstB_getD (l := rounds) (by rw [hrl.out]; omega)
      rw [hjt.len] at e
      by_cases hj0 : nj = 0
      · subst hj0
        exact Or.inr ⟨hid (by rw [e]; rfl), Or.inr ⟨b, o, rfl, by omega, aj, cj, d0⟩⟩
      · exact Or.inl ⟨hid (by rw [e, decide_eq_false hj0]), b, o, nj, rfl, by omega, by omega, aj, cj, d0⟩
  rcases hF with ⟨hF, b, o, nj, rfl, hn0, hj0, aj, cj, d0⟩ | ⟨hF, hF2⟩
  · have hn0i : (0 : Int) < nr := by omega
    have hj0i : (0 : Int) < nj := by omega
    go_wp2
    go_ret
    exact ⟨ret_boolv (HW.out.trans (wfB_first (by rw [hFirst.out, hF.out]))).symm, b1⟩
  have Hw := hid o1
  have HR := hid hrounds
  have HG := hid hgoals
  have HX := hid hexcl
  clear o1 hrounds hgoals hexcl
  rcases hF2 with rfl | ⟨b, o, rfl, hn0, aj, cj, d0⟩
  · go_wp2_with fail
    refine (containsRound_any _ _ _ rounds _ (HR.out.below b1 (Nat.le_refl _))).mono ?_
    rintro e w3 ⟨rfl, o3⟩
    have p3 := Hw.out.trans (o3.mono Hw.out.size)
    have b3 := b0.trans (p3.mono b0.size)
    clear c0 c1 c3 c4 c5 c6 c7 c8
    obtain ⟨c0, c1, c3, c4, c5, c6, c7, c8⟩ := HB.out _ p3
    obtain ⟨g6, eg6⟩ : ∃ g6, g6 = rounds.all roundB := ⟨_, rfl⟩
    rw [← eg6]
    have E6 := hid eg6
    clear eg6 o3
    cases g6
    · rw [Bool.not_false]
      go_wp2
      go_ret
      exact ⟨ret_boolv (HW.out.trans (wfB_rounds (by rw [hAll.out, ← E6.out]))).symm, b3⟩
    rw [Bool.not_true]
    by_cases h7 : ng ≤ 4
    case neg =>
      have h7i : (4 : Int) < ng := by omega
      have hn := hid h7
      clear h7
      go_wp2
      go_ret
      exact ⟨ret_boolv (HW.out.trans (wfB_tail (by rw [hTail.out, hgl.out, decide_eq_false hn.out]; rfl))).symm, b3⟩
    have h7i : ¬ (4 : Int) < ng := by omega
    have hG3 := HG.out.below b3 (Nat.le_refl _)
    go_wp2_with fail
    refine (within_int ag ng cg goals 100 _ hG3).mono ?_
    rintro e w4 ⟨rfl, o4⟩
    have p4 := p3.trans (o4.mono p3.size)
    have b4 := b0.trans (p4.mono b0.size)
    clear c0 c1 c3 c4 c5 c6 c7 c8
    obtain ⟨c0, c1, c3, c4, c5, c6, c7, c8⟩ := HB.out _ p4
    obtain ⟨g8, eg8⟩ : ∃ g8, g8 = withinB goals 100 := ⟨_, rfl⟩
    rw [← eg8]
    have E8 := hid eg8
    clear eg8 o4 hG3
    cases g8
    · go_wp2
      go_ret
      exact ⟨ret_boolv (HW.out.trans (wfB_tail (by rw [hTail.out, ← E8.out]; simp))).symm, b4⟩
    by_cases h9 : ended = false ∧ 0 < ng
    · obtain ⟨rfl, h9⟩ := h9
      have h9i : (0 : Int) < ng := by omega
      have hn := hid (show ¬ ng = 0 by omega)
      go_wp2
      go_ret
      exact ⟨ret_boolv (HW.out.trans (wfB_tail (by rw [hTail.out, hgl.out, decide_eq_false hn.out]; simp))).symm, b4⟩
    have hT := hid (show tailB R = true by
      rw [hTail.out, hgl.out, decide_eq_true h7, ← E8.out]
      cases ended with
      | true => rfl
      | false => rw [decide_eq_true (show ng = 0 by rcases Nat.eq_zero_or_pos ng with h | h; exact h; exact absurd ⟨rfl, h⟩ h9)]; rfl)
    have hfin := hid (show W = sameB excl (exclL rounds) from HW.out.trans ((wfB_last hHd.out (by rw [hFirst.out, hF.out]) (by rw [hAll.out, ← E6.out]) hT.out).trans hLast.out))
    have hseats := hid (show seatsL rounds ≤ 1000 by
      have h6 := E6.out.symm
      rcases hrs : rounds with _ | ⟨x, r⟩
      · simp [seatsL]
      · rw [hrs, List.all_cons, Bool.and_eq_true] at h6
        have h8 := h6.1
        unfold roundB at h8
        simp only [Bool.and_eq_true, decide_eq_true_eq] at h8
        show x.faults.length ≤ 1000
        omega)
    have hX4 := HX.out.below b4 (Nat.le_refl _)
    have hR4 := HR.out.below b4 (Nat.le_refl _)
    have hRd := hR4.below ((Below.refl w4.heap.size w4).drew) (Nat.le_refl _)
    have keep := hid (show ∀ w', Below w4.heap.size w4 w' → w'.cell? ⟨w.heap.size, 5, none⟩ = w4.cell? ⟨w.heap.size, 5, none⟩ ∧ w'.cell? ⟨w.heap.size, 8, none⟩ = w4.cell? ⟨w.heap.size, 8, none⟩ from fun w' hb => ⟨hb.cell (p := ⟨w.heap.size, 5, none⟩) (Nat.lt_of_lt_of_le hz p4.size), hb.cell (p := ⟨w.heap.size, 8, none⟩) (Nat.lt_of_lt_of_le hz p4.size)⟩)
    have e9 : ended = true ∨ ended = false ∧ ng = 0 := by
      cases ended with
      | true => exact Or.inl rfl
      | false => exact Or.inr ⟨rfl, by rcases Nat.eq_zero_or_pos ng with h | h; exact h; exact absurd ⟨rfl, h⟩ h9⟩
    clear h9 hT HB
    have k0 : w4.cell? ⟨w.heap.size, 5, none⟩ = _ ∧ w4.cell? ⟨w.heap.size, 8, none⟩ = _ := ⟨c5, c8⟩
    rcases e9 with rfl | ⟨rfl, rfl⟩
    all_goals
      go_wp2
      go_region_held3 (fun wx => wx.cell? ⟨w.heap.size, 5, none⟩ = some (.slice ar 0 cr) ∧ wx.cell? ⟨w.heap.size, 8, none⟩ = some (.slice ae ne ce))
        (first | exact k0 | exact k1 | exact k2)
        (first
          | (go_at_call 47; ((with_reducible refine (jexcl_any _ _ cr rounds _ ?_ (by omega) hseats.out).mono ?_); (first | exact hR4 | exact hRd); rintro e w5 ⟨v5, rfl, own5, o5⟩; obtain ⟨a5, c5', rfl, hx5⟩ := own5.slice; have o5 : Below w4.heap.size w4 w5 := ⟨o5.os, o5.tape, o5.output, o5.size, o5.block⟩; have k1 := And.intro ((keep.out _ o5).1.trans k0.1) ((keep.out _ o5).2.trans k0.2)))
          | (go_at_call 69; refine (eqbools_any ae a5 ne _ ce c5' excl (exclL rounds) _ (hX4.below o5 (Nat.le_refl _)) hx5).mono ?_; rintro e w6 ⟨rfl, q6, rfl⟩; have o6 : Below w4.heap.size w4 (w5.drewN q6) := o5.trans (Below.mono (Below.drewN w5 q6) o5.size); have k2 := And.intro ((keep.out _ o6).1.trans k0.1) ((keep.out _ o6).2.trans k0.2)))
      go_wp2
      go_ret
      exact ⟨ret_boolv hfin.out.symm, b4.trans (o6.mono b4.size)⟩
  · have hn0i : (0 : Int) < nr := by omega
    go_wp2_with fail
    refine (containsRound_any _ _ _ rounds _ (HR.out.below b1 (Nat.le_refl _))).mono ?_
    rintro e w3 ⟨rfl, o3⟩
    have p3 := Hw.out.trans (o3.mono Hw.out.size)
    have b3 := b0.trans (p3.mono b0.size)
    clear c0 c1 c3 c4 c5 c6 c7 c8
    obtain ⟨c0, c1, c3, c4, c5, c6, c7, c8⟩ := HB.out _ p3
    obtain ⟨g6, eg6⟩ : ∃ g6, g6 = rounds.all roundB := ⟨_, rfl⟩
    rw [← eg6]
    have E6 := hid eg6
    clear eg6 o3
    cases g6
    · rw [Bool.not_false]
      go_wp2
      go_ret
      exact ⟨ret_boolv (HW.out.trans (wfB_rounds (by rw [hAll.out, ← E6.out]))).symm, b3⟩
    rw [Bool.not_true]
    by_cases h7 : ng ≤ 4
    case neg =>
      have h7i : (4 : Int) < ng := by omega
      have hn := hid h7
      clear h7
      go_wp2
      go_ret
      exact ⟨ret_boolv (HW.out.trans (wfB_tail (by rw [hTail.out, hgl.out, decide_eq_false hn.out]; rfl))).symm, b3⟩
    have h7i : ¬ (4 : Int) < ng := by omega
    have hG3 := HG.out.below b3 (Nat.le_refl _)
    go_wp2_with fail
    refine (within_int ag ng cg goals 100 _ hG3).mono ?_
    rintro e w4 ⟨rfl, o4⟩
    have p4 := p3.trans (o4.mono p3.size)
    have b4 := b0.trans (p4.mono b0.size)
    clear c0 c1 c3 c4 c5 c6 c7 c8
    obtain ⟨c0, c1, c3, c4, c5, c6, c7, c8⟩ := HB.out _ p4
    obtain ⟨g8, eg8⟩ : ∃ g8, g8 = withinB goals 100 := ⟨_, rfl⟩
    rw [← eg8]
    have E8 := hid eg8
    clear eg8 o4 hG3
    cases g8
    · go_wp2
      go_ret
      exact ⟨ret_boolv (HW.out.trans (wfB_tail (by rw [hTail.out, ← E8.out]; simp))).symm, b4⟩
    by_cases h9 : ended = false ∧ 0 < ng
    · obtain ⟨rfl, h9⟩ := h9
      have h9i : (0 : Int) < ng := by omega
      have hn := hid (show ¬ ng = 0 by omega)
      go_wp2
      go_ret
      exact ⟨ret_boolv (HW.out.trans (wfB_tail (by rw [hTail.out, hgl.out, decide_eq_false hn.out]; simp))).symm, b4⟩
    have hT := hid (show tailB R = true by
      rw [hTail.out, hgl.out, decide_eq_true h7, ← E8.out]
      cases ended with
      | true => rfl
      | false => rw [decide_eq_true (show ng = 0 by rcases Nat.eq_zero_or_pos ng with h | h; exact h; exact absurd ⟨rfl, h⟩ h9)]; rfl)
    have hfin := hid (show W = sameB excl (exclL rounds) from HW.out.trans ((wfB_last hHd.out (by rw [hFirst.out, hF.out]) (by rw [hAll.out, ← E6.out]) hT.out).trans hLast.out))
    have hseats := hid (show seatsL rounds ≤ 1000 by
      have h6 := E6.out.symm
      rcases hrs : rounds with _ | ⟨x, r⟩
      · simp [seatsL]
      · rw [hrs, List.all_cons, Bool.and_eq_true] at h6
        have h8 := h6.1
        unfold roundB at h8
        simp only [Bool.and_eq_true, decide_eq_true_eq] at h8
        show x.faults.length ≤ 1000
        omega)
    have hX4 := HX.out.below b4 (Nat.le_refl _)
    have hR4 := HR.out.below b4 (Nat.le_refl _)
    have hRd := hR4.below ((Below.refl w4.heap.size w4).drew) (Nat.le_refl _)
    have keep := hid (show ∀ w', Below w4.heap.size w4 w' → w'.cell? ⟨w.heap.size, 5, none⟩ = w4.cell? ⟨w.heap.size, 5, none⟩ ∧ w'.cell? ⟨w.heap.size, 8, none⟩ = w4.cell? ⟨w.heap.size, 8, none⟩ from fun w' hb => ⟨hb.cell (p := ⟨w.heap.size, 5, none⟩) (Nat.lt_of_lt_of_le hz p4.size), hb.cell (p := ⟨w.heap.size, 8, none⟩) (Nat.lt_of_lt_of_le hz p4.size)⟩)
    have e9 : ended = true ∨ ended = false ∧ ng = 0 := by
      cases ended with
      | true => exact Or.inl rfl
      | false => exact Or.inr ⟨rfl, by rcases Nat.eq_zero_or_pos ng with h | h; exact h; exact absurd ⟨rfl, h⟩ h9⟩
    clear h9 hT HB
    have k0 : w4.cell? ⟨w.heap.size, 5, none⟩ = _ ∧ w4.cell? ⟨w.heap.size, 8, none⟩ = _ := ⟨c5, c8⟩
    rcases e9 with rfl | ⟨rfl, rfl⟩
    all_goals
      go_wp2
      go_region_held3 (fun wx => wx.cell? ⟨w.heap.size, 5, none⟩ = some (.slice (some ⟨b, o, none⟩) nr cr) ∧ wx.cell? ⟨w.heap.size, 8, none⟩ = some (.slice ae ne ce))
        (first | exact k0 | exact k1 | exact k2)
        (first
          | (go_at_call 47; ((with_reducible refine (jexcl_any _ _ cr rounds _ ?_ (by omega) hseats.out).mono ?_); (first | exact hR4 | exact hRd); rintro e w5 ⟨v5, rfl, own5, o5⟩; obtain ⟨a5, c5', rfl, hx5⟩ := own5.slice; have o5 : Below w4.heap.size w4 w5 := ⟨o5.os, o5.tape, o5.output, o5.size, o5.block⟩; have k1 := And.intro ((keep.out _ o5).1.trans k0.1) ((keep.out _ o5).2.trans k0.2)))
          | (go_at_call 69; refine (eqbools_any ae a5 ne _ ce c5' excl (exclL rounds) _ (hX4.below o5 (Nat.le_refl _)) hx5).mono ?_; rintro e w6 ⟨rfl, q6, rfl⟩; have o6 : Below w4.heap.size w4 (w5.drewN q6) := o5.trans (Below.mono (Below.drewN w5 q6) o5.size); have k2 := And.intro ((keep.out _ o6).1.trans k0.1) ((keep.out _ o6).2.trans k0.2)))
      go_wp2
      go_ret
      exact ⟨ret_boolv hfin.out.symm, b4.trans (o6.mono b4.size)⟩
end Go.Proofs.YtahbhhenobehfaaGreatDoor
