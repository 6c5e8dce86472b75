/-
  The walk of WellFormed of the reference.
-/
import Derived.Test.YtahbhhenobehfaaGreatDoorNT24
import Derived.Test.YtahbhhenobehfaaGreatDoorM38
import Derived.Test.YtahbhhenobehfaaGreatDoorNT4
import Derived.Deep.RegionHeld3
namespace Go.Proofs.YtahbhhenobehfaaGreatDoor
open Go.ChangeShapes Go.WideShapes Go.ChangeAt Go.RowKit

theorem nine_cells {w : World} {g : Nat} {name text : ByteArray} {seed start clock : Int} {ar : Option Addr} {nr cr : Nat} {ended : Bool} {ag : Option Addr} {ng cg : Nat} {ae : Option Addr} {ne ce : Nat} {T : TypeId} (H : Has w g #[.string name, .string text, .int .u64 seed, .int .i64 start, .int .i64 clock, .slice ar nr cr, .bool ended, .slice ag ng cg, .slice ae ne ce] T) {w' : World} {B : Nat} (hb : Below B w w') (hg : g < B) :
    w'.cell? ⟨g, 0, none⟩ = some (.string name) ∧ w'.cell? ⟨g, 1, none⟩ = some (.string text) ∧ w'.cell? ⟨g, 3, none⟩ = some (.int .i64 start) ∧ w'.cell? ⟨g, 4, none⟩ = some (.int .i64 clock) ∧ w'.cell? ⟨g, 5, none⟩ = some (.slice ar nr cr) ∧ w'.cell? ⟨g, 6, none⟩ = some (.bool ended) ∧ w'.cell? ⟨g, 7, none⟩ = some (.slice ag ng cg) ∧ w'.cell? ⟨g, 8, none⟩ = some (.slice ae ne ce) := by
  have H' := H.below hb hg
  exact ⟨H'.cell (j := 0) rfl, H'.cell (j := 1) rfl, H'.cell (j := 3) rfl, H'.cell (j := 4) rfl, H'.cell (j := 5) rfl, H'.cell (j := 6) rfl, H'.cell (j := 7) rfl, H'.cell (j := 8) rfl⟩
theorem firstB_ok {l : List Rnd} (h : ∀ (h0 : 0 < l.length), (l[0]).joint.length = 0) : firstB l = true := by
  cases l with
  | nil => rfl
  | cons x r => exact decide_eq_true (h (by simp))
theorem seats_le {l : List Rnd} (h : l.all roundB = true) : seatsL l ≤ 1000 := by
  cases l with
  | nil => simp [seatsL]
  | cons x r =>
    rw [List.all_cons, Bool.and_eq_true] at h
    have h8 := h.1
    unfold roundB at h8
    simp only [Bool.and_eq_true, decide_eq_true_eq] at h8
    show x.faults.length ≤ 1000
    omega
set_option maxRecDepth 100000 in
set_option maxHeartbeats 16000000 in
theorem wellFormed_any (r : Rec) (ar : Option Addr) (nr cr : Nat) (ag : Option Addr) (ng cg : Nat) (ae : Option Addr) (ne ce : Nat) (w : World) (h : RecAt w r ar nr cr ag ng cg ae ne ce) :
    Calls Tryz.prog 5 #[.agg #[.string r.name, .string r.text, .int .u64 r.seed, .int .i64 r.start, .int .i64 r.clock, .slice ar nr cr, .bool r.ended, .slice ag ng cg, .slice ae ne ce]] w fun e w' => e = .returned (.bool (wfB r)) ∧ Below w.heap.size w w' := by
  obtain ⟨W, eW⟩ : ∃ W, W = wfB r := ⟨_, rfl⟩
  rw [← eW]
  obtain ⟨R, eR⟩ : ∃ R, R = r := ⟨_, rfl⟩
  rw [← eR] at eW
  have HW := hid eW
  have ER := hid eR
  clear eW eR
  obtain ⟨name, text, seed, start, clock, rounds, ended, goals, excl⟩ := r
  obtain ⟨hrounds, hgoals, hexcl, hname, htext⟩ := h
  simp only at hname htext hrounds hgoals hexcl ⊢
  have b0 : Below w.heap.size w (w.alloc (.cells #[.string name, .string text, .int .u64 seed, .int .i64 start, .int .i64 clock, .slice ar nr cr, .bool ended, .slice ag ng cg, .slice ae ne ce] 27)) := (Below.refl _ _).alloc (Nat.le_refl _) _
  have H0 := Has.new w #[.string name, .string text, .int .u64 seed, .int .i64 start, .int .i64 clock, .slice ar nr cr, .bool ended, .slice ag ng cg, .slice ae ne ce] 27
  go_enter Tryz.func5, Tryz.ntmps5
  obtain ⟨w0, ew0⟩ : ∃ w0, w0 = w.alloc (.cells #[.string name, .string text, .int .u64 seed, .int .i64 start, .int .i64 clock, .slice ar nr cr, .bool ended, .slice ag ng cg, .slice ae ne ce] 27) := ⟨_, rfl⟩
  have hz : w.heap.size < w0.heap.size := by rw [ew0]; exact H0.lt
  have HB := hid (fun w' (hb : Below w0.heap.size w0 w') => by
    rw [← ew0] at H0
    exact nine_cells H0 hb hz)
  have hHead := hid (show headB R = (nameB name.data.toList && ((decide (1 ≤ start) && decide (start ≤ 1000)) && ((decide (1 ≤ clock) && decide (clock ≤ 1000)) && (decide (text.size ≤ 16384) && decide (rounds.length ≤ 65))))) by rw [ER.out]; rfl)
  have hTail := hid (show tailB R = (decide (goals.length ≤ 4) && (withinB goals 100 && (ended || decide (goals.length = 0)))) by rw [ER.out]; rfl)
  have hFirst := hid (show firstB R.rounds = firstB rounds by rw [ER.out])
  have hAll := hid (show R.rounds.all roundB = rounds.all roundB by rw [ER.out])
  have hLast := hid (show sameB R.excl (exclL R.rounds) = sameB excl (exclL rounds) by rw [ER.out])
  have hrl := hid hrounds.len
  have hgl := hid hgoals.len
  have hrle := hrounds.le
  have hrmx := hrounds.max
  have hgle := hgoals.le
  have hgmx := hgoals.max
  go_wp2_with fail
  rw [← ew0] at b0
  rw [← ew0]
  clear ew0 H0
  refine (rname_any name _ hname).mono ?_
  rintro e w1 ⟨rfl, rfl⟩
  obtain ⟨c0, c1, c3, c4, c5, c6, c7, c8⟩ := HB.out _ (Below.refl _ _)
  obtain ⟨g1, eg1⟩ : ∃ g1, g1 = nameB name.data.toList := ⟨_, rfl⟩
  rw [← eg1]
  have E1 := hid eg1
  clear eg1
  cases g1
  · go_wp2
    go_ret
    exact ⟨ret_boolv (HW.out.trans (wfB_head (by rw [hHead.out, ← E1.out]; rfl))).symm, b0⟩
  by_cases s1 : 1 ≤ start
  case neg =>
    have s1i : start < 1 := by omega
    have hn := hid (decide_eq_false (p := 1 ≤ start) s1)
    clear s1
    go_wp2
    go_ret
    exact ⟨ret_boolv (HW.out.trans (wfB_head (by rw [hHead.out, hn.out]; simp))).symm, b0⟩
  have s1i : ¬ start < 1 := by omega
  by_cases s2 : start ≤ 1000
  case neg =>
    have s2i : 1000 < start := by omega
    have hn := hid (decide_eq_false (p := start ≤ 1000) s2)
    clear s2
    go_wp2
    go_ret
    exact ⟨ret_boolv (HW.out.trans (wfB_head (by rw [hHead.out, hn.out]; simp))).symm, b0⟩
  have s2i : ¬ 1000 < start := by omega
  by_cases s3 : 1 ≤ clock
  case neg =>
    have s3i : clock < 1 := by omega
    have hn := hid (decide_eq_false (p := 1 ≤ clock) s3)
    clear s3
    go_wp2
    go_ret
    exact ⟨ret_boolv (HW.out.trans (wfB_head (by rw [hHead.out, hn.out]; simp))).symm, b0⟩
  have s3i : ¬ clock < 1 := by omega
  by_cases s4 : clock ≤ 1000
  case neg =>
    have s4i : 1000 < clock := by omega
    have hn := hid (decide_eq_false (p := clock ≤ 1000) s4)
    clear s4
    go_wp2
    go_ret
    exact ⟨ret_boolv (HW.out.trans (wfB_head (by rw [hHead.out, hn.out]; simp))).symm, b0⟩
  have s4i : ¬ 1000 < clock := by omega
  by_cases s5 : text.size ≤ 16384
  case neg =>
    have s5i : (16384 : Int) < text.size := by omega
    have hn := hid (decide_eq_false (p := text.size ≤ 16384) s5)
    clear s5
    go_wp2
    go_ret
    exact ⟨ret_boolv (HW.out.trans (wfB_head (by rw [hHead.out, hn.out]; simp))).symm, b0⟩
  have s5i : ¬ (16384 : Int) < text.size := by omega
  by_cases s6 : nr ≤ 65
  case neg =>
    have s6i : (65 : Int) < nr := by omega
    have hn := hid (decide_eq_false (p := nr ≤ 65) s6)
    clear s6
    go_wp2
    go_ret
    exact ⟨ret_boolv (HW.out.trans (wfB_head (by rw [hHead.out, hrl.out, hn.out]; simp))).symm, b0⟩
  have s6i : ¬ (65 : Int) < nr := by omega
  by_cases s7 : ng ≤ 4
  case neg =>
    have s7i : (4 : Int) < ng := by omega
    have hn := hid (decide_eq_false (p := ng ≤ 4) s7)
    clear s7
    go_wp2
    go_ret
    exact ⟨ret_boolv (HW.out.trans (wfB_tail (by rw [hTail.out, hgl.out, hn.out]; simp))).symm, b0⟩
  have s7i : ¬ (4 : Int) < ng := by omega
  by_cases h9 : ended = false ∧ 0 < ng
  · obtain ⟨rfl, h9⟩ := h9
    have h9i : (0 : Int) < ng := by omega
    have hn := hid (show ¬ ng = 0 by omega)
    go_wp2
    go_ret
    exact ⟨ret_boolv (HW.out.trans (wfB_tail (by rw [hTail.out, hgl.out, decide_eq_false hn.out]; simp))).symm, b0⟩
  have hHd := hid (show headB R = true by rw [hHead.out, ← E1.out, decide_eq_true s1, decide_eq_true s2, decide_eq_true s3, decide_eq_true s4, decide_eq_true s5, hrl.out, decide_eq_true s6]; rfl)
  have hT := hid (show withinB goals 100 = true → tailB R = true from fun h => by
    rw [hTail.out, hgl.out, decide_eq_true s7, h]
    cases ended with
    | true => rfl
    | false => rw [decide_eq_true (show ng = 0 by rcases Nat.eq_zero_or_pos ng with h | h; exact h; exact absurd ⟨rfl, h⟩ h9)]; rfl)
  have e9 : ended = true ∨ ended = false ∧ ng = 0 := by
    cases ended with
    | true => exact Or.inl rfl
    | false => exact Or.inr ⟨rfl, by rcases Nat.eq_zero_or_pos ng with h | h; exact h; exact absurd ⟨rfl, h⟩ h9⟩
  clear h9 s1 s2 s3 s4 s5 s6 s7
  have HG := hid hgoals
  have HX := hid hexcl
  have HR := hid hrounds
  clear hgoals hexcl hrounds
  rcases e9 with rfl | ⟨rfl, rfl⟩
  · go_wp2
    clear c0 c1 c3 c4 c5 c6 c7 c8
    go_loopw [61] (fun i wr => ∃ k : Nat, k ≤ nr ∧ i = .int .i64 k ∧ Hid (∀ j (hj : j < rounds.length), j < k → roundB rounds[j] = true) ∧ Hid (∀ (h0 : 0 < rounds.length), 0 < k → (rounds[0]).joint.length = 0) ∧ Below w0.heap.size w0 wr) (fun i _ => nr - (intOf i).toNat)
    case atStart => exact ⟨0, Nat.zero_le _, rfl, hid (fun j hj h => by omega), hid (fun h h0 => by omega), Below.refl _ _⟩
    case round =>
      obtain ⟨k, hk, rfl, hso, hfj, hb⟩ := hrel
      have hbT := b0.trans (hb.mono b0.size)
      obtain ⟨c0, c1, c3, c4, c5, c6, c7, c8⟩ := HB.out _ hb
      by_cases hlt : k < nr
      · have hk0 : (0 : Int) ≤ k := by omega
        have hkn : (k : Int) < nr := by omega
        have hki := hid (show k < rounds.length by rw [hrl.out]; exact hlt)
        have hr := HR.out.below hbT (Nat.le_refl _)
        obtain ⟨b, o, rfl⟩ := hr.head (by omega)
        obtain ⟨aj, nj, cj, af, nf, cf, d0, d1, hj, hf⟩ := hr.at' k hki.out
        obtain ⟨x, ex⟩ : ∃ x, x = rounds[k]'hki.out := ⟨_, rfl⟩
        rw [← ex] at hj hf
        have Ex := hid ex
        have hnj := hid hj.len
        clear hr ex
        go_wp2_with fail
        refine (roundly_any x aj nj cj af nf cf _ hj hf).mono ?_
        rintro e w2 ⟨rfl, o2⟩
        have b2 := hb.trans (o2.mono hb.size)
        have b2T := b0.trans (b2.mono b0.size)
        have d0' := (o2.cell (p := ⟨b, o + k * 2, none⟩) (lt_of_cell d0)).trans d0
        clear c0 c1 c3 c4 c5 c6 c7 c8 d0 d1
        obtain ⟨c0, c1, c3, c4, c5, c6, c7, c8⟩ := HB.out _ b2
        obtain ⟨g, eg⟩ : ∃ g, g = roundB x := ⟨_, rfl⟩
        rw [← eg]
        have Eg := hid eg
        clear eg hj hf hb o2
        cases g
        · go_wp2
          go_ret
          exact ⟨ret_boolv (HW.out.trans (wfB_rounds (by rw [hAll.out]; exact allP_bad k hki.out (by rw [← Ex.out]; exact Eg.out.symm)))).symm, b2T⟩
        have hso2 := hid (show ∀ j (hj : j < rounds.length), j < k + 1 → roundB rounds[j] = true from fun j hj h => by
          rcases Nat.lt_succ_iff_lt_or_eq.mp h with h | h
          · exact hso.out j hj h
          · subst h; rw [← Ex.out]; exact Eg.out.symm)
        by_cases hkz : k = 0
        · by_cases hj0 : nj = 0
          · have hfj2 := hid (show ∀ (h0 : 0 < rounds.length), 0 < k + 1 → (rounds[0]).joint.length = 0 from fun h0 _ => by
              subst hkz
              rw [← Ex.out, hnj.out]; exact hj0)
            subst hkz hj0
            rw [Nat.zero_mul, Nat.add_zero] at d0'
            go_wp2
            go_roundw
            case rel => exact ⟨0 + 1, by omega, by go_num, hso2, hfj2, b2⟩
            case measure => simp [intOf]; omega
          · have hj0i : (0 : Int) < nj := by omega
            have hff := hid (show firstB R.rounds = false by
              rw [hFirst.out, firstB_getD (by rw [hrl.out]; omega)]
              subst hkz
              rw [← Ex.out, hnj.out]; exact decide_eq_false hj0)
            subst hkz
            rw [Nat.zero_mul, Nat.add_zero] at d0'
            go_wp2
            go_ret
            exact ⟨ret_boolv (HW.out.trans (wfB_first hff.out)).symm, b2T⟩
        · have hkz2 : ((k : Int) == 0) = false := by simp; omega
          have hfj2 := hid (show ∀ (h0 : 0 < rounds.length), 0 < k + 1 → (rounds[0]).joint.length = 0 from fun h0 _ => hfj.out h0 (by omega))
          go_wp2
          go_roundw
          case rel => exact ⟨k + 1, by omega, by go_num, hso2, hfj2, b2⟩
          case measure => simp [intOf]; omega
      · obtain rfl : nr = k := by omega
        have hA := hid (show rounds.all roundB = true from allP_to fun i hi => hso.out i hi (by rw [← hrl.out]; exact hi))
        have hFi := hid (show firstB rounds = true from firstB_ok fun h0 => hfj.out h0 (by rw [← hrl.out]; exact h0))
        have hr := HG.out.below hbT (Nat.le_refl _)
        clear hso hfj
        go_wp2
        go_loop [89] (fun i => ∃ k : Nat, k ≤ ng ∧ i = .int .i64 k ∧ Hid (∀ j, j < k → 0 ≤ goals.getD j 0 ∧ goals.getD j 0 ≤ 100)) (fun i => ng - (intOf i).toNat)
        case atStart => exact ⟨0, Nat.zero_le _, rfl, hid (fun j hj => by omega)⟩
        case round =>
          obtain ⟨k, hk, rfl, hso⟩ := hrel
          by_cases hlt : k < ng
          · have hk0 : (0 : Int) ≤ k := by omega
            have hkn : (k : Int) < ng := by omega
            have hki := hid (show k < goals.length by rw [hgl.out]; exact hlt)
            obtain ⟨b2, o2, rfl⟩ := hr.head (by omega)
            have hc := hr.int k hlt
            obtain ⟨v, ev⟩ : ∃ v, v = goals.getD k 0 := ⟨_, rfl⟩
            rw [← ev] at hc
            have Ev := hid ev
            clear ev
            by_cases h0 : 0 ≤ v
            · have h0i : ¬ v < 0 := by omega
              by_cases h3 : v ≤ 100
              · have h3i : ¬ 100 < v := by omega
                go_wp2
                go_round
                case rel => exact ⟨k + 1, by omega, by go_num, hid (fun j hj => by
                  rcases Nat.lt_succ_iff_lt_or_eq.mp hj with h | h
                  · exact hso.out j h
                  · subst h; rw [← Ev.out]; exact ⟨h0, h3⟩)⟩
                case measure => simp [intOf]; omega
              · have h3i : 100 < v := by omega
                have hn := hid (withinB_bad (K := 100) k hki.out (Or.inr (by rw [← Ev.out]; exact h3)))
                clear h3
                go_wp2
                go_ret
                exact ⟨ret_boolv (HW.out.trans (wfB_tail (by rw [hTail.out, hn.out]; simp))).symm, hbT⟩
            · have h0i : v < 0 := by omega
              have hn := hid (withinB_bad (K := 100) k hki.out (Or.inl (by rw [← Ev.out]; exact h0)))
              clear h0
              go_wp2
              go_ret
              exact ⟨ret_boolv (HW.out.trans (wfB_tail (by rw [hTail.out, hn.out]; simp))).symm, hbT⟩
          · have hkg : k = ng := by omega
            subst hkg
            have hwi := hid (show withinB goals 100 = true from withinB_ok fun i hi => hso.out i (by rw [← hgl.out]; exact hi))
            have hfin := hid (show W = sameB excl (exclL rounds) from HW.out.trans ((wfB_last hHd.out (by rw [hFirst.out, hFi.out]) (by rw [hAll.out, hA.out]) (hT.out hwi.out)).trans hLast.out))
            have hX4 := HX.out.below hbT (Nat.le_refl _)
            have hR4 := HR.out.below hbT (Nat.le_refl _)
            have hRd := hR4.below ((Below.refl wr.heap.size wr).drew) (Nat.le_refl _)
            have hseats := hid (seats_le hA.out)
            have hbs := hb.size
            have keep := hid (show ∀ w', Below wr.heap.size wr w' → w'.cell? ⟨w.heap.size, 5, none⟩ = wr.cell? ⟨w.heap.size, 5, none⟩ ∧ w'.cell? ⟨w.heap.size, 8, none⟩ = wr.cell? ⟨w.heap.size, 8, none⟩ from fun w' hb => ⟨hb.cell (p := ⟨w.heap.size, 5, none⟩) (Nat.lt_of_lt_of_le hz hbs), hb.cell (p := ⟨w.heap.size, 8, none⟩) (Nat.lt_of_lt_of_le hz hbs)⟩)
            have k0 : wr.cell? ⟨w.heap.size, 5, none⟩ = some (.slice ar nr cr) ∧ wr.cell? ⟨w.heap.size, 8, none⟩ = some (.slice ae ne ce) := ⟨c5, c8⟩
            clear hr hso
            go_wp2
            go_region_held3 (fun wx => wx.cell? ⟨w.heap.size, 5, none⟩ = some (.slice ar nr cr) ∧ wx.cell? ⟨w.heap.size, 8, none⟩ = some (.slice ae ne ce))
              (first | exact k0 | exact k1 | exact k2)
              (first
                | (go_at_call 27; ((with_reducible refine (rexcl_any _ _ cr rounds _ ?_ (by omega) hseats.out).mono ?_); (first | exact hR4 | exact hRd); rintro e w5 ⟨v5, rfl, own5, o5⟩; obtain ⟨a5, c5', rfl, hx5⟩ := own5.slice; have o5 : Below wr.heap.size wr w5 := ⟨o5.os, o5.tape, o5.output, o5.size, o5.block⟩; have k1 := And.intro ((keep.out _ o5).1.trans k0.1) ((keep.out _ o5).2.trans k0.2)))
                | (go_at_call 26; refine (bools_any ae a5 ne _ ce c5' excl (exclL rounds) _ (hX4.below o5 (Nat.le_refl _)) hx5).mono ?_; rintro e w6 ⟨rfl, q6, rfl⟩; have o6 : Below wr.heap.size wr (w5.drewN q6) := o5.trans (Below.mono (Below.drewN w5 q6) o5.size); have k2 := And.intro ((keep.out _ o6).1.trans k0.1) ((keep.out _ o6).2.trans k0.2)))
            go_wp2
            go_ret
            exact ⟨ret_boolv hfin.out.symm, hbT.trans (o6.mono hbT.size)⟩
  · go_wp2
    clear c0 c1 c3 c4 c5 c6 c7 c8
    go_loopw [61] (fun i wr => ∃ k : Nat, k ≤ nr ∧ i = .int .i64 k ∧ Hid (∀ j (hj : j < rounds.length), j < k → roundB rounds[j] = true) ∧ Hid (∀ (h0 : 0 < rounds.length), 0 < k → (rounds[0]).joint.length = 0) ∧ Below w0.heap.size w0 wr) (fun i _ => nr - (intOf i).toNat)
    case atStart => exact ⟨0, Nat.zero_le _, rfl, hid (fun j hj h => by omega), hid (fun h h0 => by omega), Below.refl _ _⟩
    case round =>
      obtain ⟨k, hk, rfl, hso, hfj, hb⟩ := hrel
      have hbT := b0.trans (hb.mono b0.size)
      obtain ⟨c0, c1, c3, c4, c5, c6, c7, c8⟩ := HB.out _ hb
      by_cases hlt : k < nr
      · have hk0 : (0 : Int) ≤ k := by omega
        have hkn : (k : Int) < nr := by omega
        have hki := hid (show k < rounds.length by rw [hrl.out]; exact hlt)
        have hr := HR.out.below hbT (Nat.le_refl _)
        obtain ⟨b, o, rfl⟩ := hr.head (by omega)
        obtain ⟨aj, nj, cj, af, nf, cf, d0, d1, hj, hf⟩ := hr.at' k hki.out
        obtain ⟨x, ex⟩ : ∃ x, x = rounds[k]'hki.out := ⟨_, rfl⟩
        rw [← ex] at hj hf
        have Ex := hid ex
        have hnj := hid hj.len
        clear hr ex
        go_wp2_with fail
        refine (roundly_any x aj nj cj af nf cf _ hj hf).mono ?_
        rintro e w2 ⟨rfl, o2⟩
        have b2 := hb.trans (o2.mono hb.size)
        have b2T := b0.trans (b2.mono b0.size)
        have d0' := (o2.cell (p := ⟨b, o + k * 2, none⟩) (lt_of_cell d0)).trans d0
        clear c0 c1 c3 c4 c5 c6 c7 c8 d0 d1
        obtain ⟨c0, c1, c3, c4, c5, c6, c7, c8⟩ := HB.out _ b2
        obtain ⟨g, eg⟩ : ∃ g, g = roundB x := ⟨_, rfl⟩
        rw [← eg]
        have Eg := hid eg
        clear eg hj hf hb o2
        cases g
        · go_wp2
          go_ret
          exact ⟨ret_boolv (HW.out.trans (wfB_rounds (by rw [hAll.out]; exact allP_bad k hki.out (by rw [← Ex.out]; exact Eg.out.symm)))).symm, b2T⟩
        have hso2 := hid (show ∀ j (hj : j < rounds.length), j < k + 1 → roundB rounds[j] = true from fun j hj h => by
          rcases Nat.lt_succ_iff_lt_or_eq.mp h with h | h
          · exact hso.out j hj h
          · subst h; rw [← Ex.out]; exact Eg.out.symm)
        by_cases hkz : k = 0
        · by_cases hj0 : nj = 0
          · have hfj2 := hid (show ∀ (h0 : 0 < rounds.length), 0 < k + 1 → (rounds[0]).joint.length = 0 from fun h0 _ => by
              subst hkz
              rw [← Ex.out, hnj.out]; exact hj0)
            subst hkz hj0
            rw [Nat.zero_mul, Nat.add_zero] at d0'
            go_wp2
            go_roundw
            case rel => exact ⟨0 + 1, by omega, by go_num, hso2, hfj2, b2⟩
            case measure => simp [intOf]; omega
          · have hj0i : (0 : Int) < nj := by omega
            have hff := hid (show firstB R.rounds = false by
              rw [hFirst.out, firstB_getD (by rw [hrl.out]; omega)]
              subst hkz
              rw [← Ex.out, hnj.out]; exact decide_eq_false hj0)
            subst hkz
            rw [Nat.zero_mul, Nat.add_zero] at d0'
            go_wp2
            go_ret
            exact ⟨ret_boolv (HW.out.trans (wfB_first hff.out)).symm, b2T⟩
        · have hkz2 : ((k : Int) == 0) = false := by simp; omega
          have hfj2 := hid (show ∀ (h0 : 0 < rounds.length), 0 < k + 1 → (rounds[0]).joint.length = 0 from fun h0 _ => hfj.out h0 (by omega))
          go_wp2
          go_roundw
          case rel => exact ⟨k + 1, by omega, by go_num, hso2, hfj2, b2⟩
          case measure => simp [intOf]; omega
      · obtain rfl : nr = k := by omega
        have hA := hid (show rounds.all roundB = true from allP_to fun i hi => hso.out i hi (by rw [← hrl.out]; exact hi))
        have hFi := hid (show firstB rounds = true from firstB_ok fun h0 => hfj.out h0 (by rw [← hrl.out]; exact h0))
        have hr := HG.out.below hbT (Nat.le_refl _)
        clear hso hfj
        go_wp2
        go_loop [89] (fun i => ∃ k : Nat, k ≤ 0 ∧ i = .int .i64 k ∧ Hid (∀ j, j < k → 0 ≤ goals.getD j 0 ∧ goals.getD j 0 ≤ 100)) (fun i => 0 - (intOf i).toNat)
        case atStart => exact ⟨0, Nat.zero_le _, rfl, hid (fun j hj => by omega)⟩
        case round =>
          obtain ⟨k, hk, rfl, hso⟩ := hrel
          by_cases hlt : k < 0
          · exact absurd hlt (Nat.not_lt_zero _)
          · have hkg : k = 0 := by omega
            subst hkg
            have hwi := hid (show withinB goals 100 = true from withinB_ok fun i hi => hso.out i (by rw [← hgl.out]; exact hi))
            have hfin := hid (show W = sameB excl (exclL rounds) from HW.out.trans ((wfB_last hHd.out (by rw [hFirst.out, hFi.out]) (by rw [hAll.out, hA.out]) (hT.out hwi.out)).trans hLast.out))
            have hX4 := HX.out.below hbT (Nat.le_refl _)
            have hR4 := HR.out.below hbT (Nat.le_refl _)
            have hRd := hR4.below ((Below.refl wr.heap.size wr).drew) (Nat.le_refl _)
            have hseats := hid (seats_le hA.out)
            have hbs := hb.size
            have keep := hid (show ∀ w', Below wr.heap.size wr w' → w'.cell? ⟨w.heap.size, 5, none⟩ = wr.cell? ⟨w.heap.size, 5, none⟩ ∧ w'.cell? ⟨w.heap.size, 8, none⟩ = wr.cell? ⟨w.heap.size, 8, none⟩ from fun w' hb => ⟨hb.cell (p := ⟨w.heap.size, 5, none⟩) (Nat.lt_of_lt_of_le hz hbs), hb.cell (p := ⟨w.heap.size, 8, none⟩) (Nat.lt_of_lt_of_le hz hbs)⟩)
            have k0 : wr.cell? ⟨w.heap.size, 5, none⟩ = some (.slice ar nr cr) ∧ wr.cell? ⟨w.heap.size, 8, none⟩ = some (.slice ae ne ce) := ⟨c5, c8⟩
            clear hr hso
            go_wp2
            go_region_held3 (fun wx => wx.cell? ⟨w.heap.size, 5, none⟩ = some (.slice ar nr cr) ∧ wx.cell? ⟨w.heap.size, 8, none⟩ = some (.slice ae ne ce))
              (first | exact k0 | exact k1 | exact k2)
              (first
                | (go_at_call 27; ((with_reducible refine (rexcl_any _ _ cr rounds _ ?_ (by omega) hseats.out).mono ?_); (first | exact hR4 | exact hRd); rintro e w5 ⟨v5, rfl, own5, o5⟩; obtain ⟨a5, c5', rfl, hx5⟩ := own5.slice; have o5 : Below wr.heap.size wr w5 := ⟨o5.os, o5.tape, o5.output, o5.size, o5.block⟩; have k1 := And.intro ((keep.out _ o5).1.trans k0.1) ((keep.out _ o5).2.trans k0.2)))
                | (go_at_call 26; refine (bools_any ae a5 ne _ ce c5' excl (exclL rounds) _ (hX4.below o5 (Nat.le_refl _)) hx5).mono ?_; rintro e w6 ⟨rfl, q6, rfl⟩; have o6 : Below wr.heap.size wr (w5.drewN q6) := o5.trans (Below.mono (Below.drewN w5 q6) o5.size); have k2 := And.intro ((keep.out _ o6).1.trans k0.1) ((keep.out _ o6).2.trans k0.2)))
            go_wp2
            go_ret
            exact ⟨ret_boolv hfin.out.symm, hbT.trans (o6.mono hbT.size)⟩
end Go.Proofs.YtahbhhenobehfaaGreatDoor
