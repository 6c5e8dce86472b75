/-
  The state of JournalPrefix's loop, in plain mathematics.
  The walk of the law JournalPrefix.
-/
import Derived.Test.YtahbhhenobehfaaGreatDoorT29
import Derived.Test.YtahbhhenobehfaaGreatDoorT28
import Derived.Test.YtahbhhenobehfaaGreatDoorT18
namespace Go.Proofs.YtahbhhenobehfaaGreatDoor
open Go.ChangeShapes Go.WideShapes Go.ChangeAt Go.RowKit

theorem kept_take_all {P : List (List UInt8)} (hPs : ∀ p ∈ P, p.length ≤ 60000) (k : Nat) : kept (allL (P.take k)) = (allL (P.take k)).length := kept_all _ fun p hp => hPs p (List.mem_of_mem_take hp)
theorem scan_take_all {P : List (List UInt8)} (hPs : ∀ p ∈ P, p.length ≤ 60000) (k : Nat) : scanL (allL (P.take k)) = (P.take k, []) := scan_all _ fun p hp => hPs p (List.mem_of_mem_take hp)
theorem lstep {B : List UInt8} {F : Int} {P : List (List UInt8)} {K k s : Nat} {B' : List UInt8} {F' : Int} (hk : k ≤ K) (hK : K ≤ P.length) (hs : s ≤ k) (hB : B = allL (P.take k)) (hF : F = ((allL (P.take s)).length : Int)) (hPs : ∀ p ∈ P, p.length ≤ 60000)
    (h : JInv B F (P.take K) k ((P.take K).length - k) B' F') : B' = allL (P.take K) ∧ F' = F := by
  obtain ⟨h1, h2, h3, h4⟩ := h
  have hl : (P.take K).length = K := by rw [List.length_take]; omega
  rw [hl] at h1 h2 h3
  have hkK : k + (K - k) = K := by omega
  rw [hkK, List.take_take, Nat.min_self] at h1 h3
  have hm := allL_mono P s k hs
  refine ⟨?_, (h4 (by rw [hB, kept_take_all hPs, hF]; omega)).1⟩
  by_cases e : K - k = 0
  · rw [h2 e, hB, show k = K by omega]
  · exact h3 (by omega)
/-- The journal behind the crash. -/
theorem lcrash {P : List (List UInt8)} {k s c : Nat} (hk : k ≤ P.length) (hs : s ≤ k) (hPs : ∀ p ∈ P, p.length ≤ 60000) (hc : c ≤ (allL (P.take k)).length) (hF : (allL (P.take s)).length ≤ c) :
    ∃ m, s ≤ m ∧ m ≤ k ∧ (scanL ((allL (P.take k)).take c)).1 = P.take m := by
  obtain ⟨m, h1, h2, h3⟩ := scan_cut (P.take k) c (fun p hp => hPs p (List.mem_of_mem_take hp)) hc
  have hl : (P.take k).length = k := by rw [List.length_take]; omega
  rw [hl] at h1
  refine ⟨m, h3 s (by omega) (by rw [List.take_take, Nat.min_eq_left hs]; exact hF), h1, ?_⟩
  rw [h2, List.take_take, Nat.min_eq_left h1]
theorem lend {B : List UInt8} {F : Int} {P : List (List UInt8)} {k : Nat} {B' : List UInt8} {F' : Int} (hk : k ≤ P.length) (h : JInv B F P k (P.length - k) B' F') : (scanL B').1 = P := by
  have h1 := h.1
  rw [show k + (P.length - k) = P.length by omega, List.take_length] at h1
  exact h1
theorem partR_seed (r : Rec) (m : Nat) : (partR r m).seed = r.seed := by unfold partR; split <;> rfl
end Go.Proofs.YtahbhhenobehfaaGreatDoor
namespace Go.Proofs.YtahbhhenobehfaaGreatDoor
open Go.ChangeShapes Go.WideShapes Go.ChangeAt Go.RowKit

theorem RowS.onlyNe {w w' : World} {b o j : Nat} {l : List (List UInt8)} (h : RowS w (some ⟨b, o, none⟩) l) (ho : Only [j] w w') (hn : b ≠ j) : RowS w' (some ⟨b, o, none⟩) l := fun i hi => by
  obtain ⟨b', o', e, hc⟩ := h i hi
  cases e
  exact ⟨b, o, rfl, (World.cell?_of_block (w := w) (a := ⟨b, o + i, none⟩) (ho.block b (lt_of_cell hc) (by simpa using hn))).trans hc⟩
set_option maxRecDepth 20000 in
set_option maxHeartbeats 8000000 in
theorem prefix_any (r : Rec) (ar : Option Addr) (nr cr : Nat) (ag : Option Addr) (ng cg : Nat) (ae : Option Addr) (ne ce : Nat) (ast : Option Addr) (nst cst : Nat) (steps : List Int) (safe keep : Int) (w : World)
    (h : RecAt w r ar nr cr ag ng cg ae ne ce) (hst : HeldL IntC w ast nst cst steps) (hseed : 0 ≤ r.seed ∧ r.seed ≤ 18446744073709551615) (ht : Tab w) :
    Calls Tryz.prog 3 #[.agg #[.string r.name, .string r.text, .int .u64 r.seed, .int .i64 r.start, .int .i64 r.clock, .slice ar nr cr, .bool r.ended, .slice ag ng cg, .slice ae ne ce], .slice ast nst cst, .int .i64 safe, .int .i64 keep] w fun e w' => e = .returned (.bool true) ∧ Below w.heap.size w w' := by
  have b0 : Below w.heap.size w (w.alloc (.cells #[.string r.name, .string r.text, .int .u64 r.seed, .int .i64 r.start, .int .i64 r.clock, .slice ar nr cr, .bool r.ended, .slice ag ng cg, .slice ae ne ce] 27)) := (Below.refl _ _).alloc (Nat.le_refl _) _
  have H0 := Has.new w #[.string r.name, .string r.text, .int .u64 r.seed, .int .i64 r.start, .int .i64 r.clock, .slice ar nr cr, .bool r.ended, .slice ag ng cg, .slice ae ne ce] 27
  have hrl := hid h.rounds.len
  have hstl := hid hst.len
  have hstle := hst.le
  have hstmx := hst.max
  have HS := hid hseed
  clear hseed
  go_enter Tryz.func3, Tryz.ntmps3
  by_cases g1 : nst ≤ 10
  case neg =>
    have g1i : (10 : Int) < nst := by omega
    clear g1
    go_wp2_with fail
    refine (awake_any _).mono ?_
    rintro e w2 ⟨rfl, o2⟩
    go_wp2
    go_ret
    exact ⟨rfl, b0.trans (o2.mono b0.size)⟩
  have g1i : ¬ (10 : Int) < nst := by omega
  by_cases g2 : r.text.size ≤ 500
  case neg =>
    have g2i : (500 : Int) < r.text.size := by omega
    clear g2
    go_wp2_with fail
    refine (awake_any _).mono ?_
    rintro e w2 ⟨rfl, o2⟩
    go_wp2
    go_ret
    exact ⟨rfl, b0.trans (o2.mono b0.size)⟩
  have g2i : ¬ (500 : Int) < r.text.size := by omega
  by_cases g3 : nr ≤ 30
  case neg =>
    have g3i : (30 : Int) < nr := by omega
    clear g3
    go_wp2_with fail
    refine (awake_any _).mono ?_
    rintro e w2 ⟨rfl, o2⟩
    go_wp2
    go_ret
    exact ⟨rfl, b0.trans (o2.mono b0.size)⟩
  have g3i : ¬ (30 : Int) < nr := by omega
  go_wp2_with fail
  obtain ⟨w0, ew0⟩ : ∃ w0, w0 = w.alloc (.cells #[.string r.name, .string r.text, .int .u64 r.seed, .int .i64 r.start, .int .i64 r.clock, .slice ar nr cr, .bool r.ended, .slice ag ng cg, .slice ae ne ce] 27) := ⟨_, rfl⟩
  rw [← ew0] at b0 H0
  rw [← ew0]
  clear ew0
  have hR0 := h.below b0 (Nat.le_refl _)
  refine (wellFormed_any r ar nr cr ag ng cg ae ne ce _ hR0).mono ?_
  rintro e w1 ⟨rfl, o1⟩
  have H1 := H0.below o1 H0.lt
  have b1 := b0.trans (o1.mono b0.size)
  obtain ⟨g, eg⟩ : ∃ g, g = wfB r := ⟨_, rfl⟩
  rw [← eg]
  have Eg := hid eg
  clear eg hR0 o1
  cases g
  · go_wp2_with fail
    refine (awake_any _).mono ?_
    rintro e w2 ⟨rfl, o2⟩
    go_wp2
    go_ret
    exact ⟨rfl, b1.trans (o2.mono b1.size)⟩
  have Hw := hid (show wfB r = true from Eg.out.symm)
  have hR1 := h.below b1 (Nat.le_refl _)
  go_wp2_with fail
  refine (new_any _).mono ?_
  rintro e w2 ⟨rfl, hJ2, o2⟩
  have H2 := H1.below o2 H1.lt
  have b2 := b1.trans (o2.mono b1.size)
  have hR2 := h.below b2 (Nat.le_refl _)
  obtain ⟨j, ej⟩ : ∃ j, j = w1.heap.size := ⟨_, rfl⟩
  have hj : w.heap.size < j := by rw [ej]; exact H1.lt
  rw [← ej] at hJ2
  rw [← ej]
  clear ej H0 H1 o2
  have c0 := H2.cell (j := 0) rfl
  have c1 := H2.cell (j := 1) rfl
  have c2 := H2.cell (j := 2) rfl
  have c3 := H2.cell (j := 3) rfl
  have c4 := H2.cell (j := 4) rfl
  have c5 := H2.cell (j := 5) rfl
  have c6 := H2.cell (j := 6) rfl
  have c7 := H2.cell (j := 7) rfl
  have c8 := H2.cell (j := 8) rfl
  go_wp2_with fail
  have Hf := hid (fine_of Hw.out HS.out)
  refine (rpay_any r ar nr cr ag ng cg ae ne ce _ hR2 Hf.out).mono ?_
  rintro e w3 ⟨v3, rfl, own3, o3⟩
  have hPs := hid (pays_short Hw.out HS.out (by omega))
  have hPlen := hid (show (payL r).length ≤ 32 by have h1 := payL_len2 r; have h2 := hrl.out; omega)
  have hPl := hid (show (allL (payL r)).length ≤ 4000000 by
    have h1 := allL_len _ hPs.out
    have h2 : (payL r).length * 60006 ≤ 32 * 60006 := Nat.mul_le_mul_right _ hPlen.out
    omega)
  have hP0 := hid (show 0 < (payL r).length by have := payL_len r; omega)
  obtain ⟨P, eP⟩ : ∃ P, P = payL r := ⟨_, rfl⟩
  rw [← eP] at own3 hPs hPlen hPl hP0
  have EP := hid eP
  have b3 := b2.trans (o3.mono b2.size)
  have H3 := H2.below o3 H2.lt
  have hJ3 := hJ2.below o3 (Nat.le_refl _)
  obtain ⟨a3, cp, rfl, hx3⟩ := own3.slice
  obtain ⟨b1', o1', rfl⟩ := hx3.head hP0.out
  have hjo := (own3.lt b1' rfl).1
  have hjl := hJ2.lt
  clear eP own3 H2 hR2 hJ2 c0 c1 c2 c3 c4 c5 c6 c7 c8
  go_wp2
  have hz3 : w.heap.size < w3.heap.size := H3.lt
  have hTn := hid (scan_take_all hPs.out 0)
  go_loopw [11, 12, 44] (fun sy mo i wr => ∃ q m k s : Nat, q ≤ nst ∧ i = .int .i64 q ∧ mo = .int .i64 m ∧ sy = .int .i64 s ∧ Hid (k ≤ partK r m ∧ s ≤ k) ∧ (∃ F : Int, JAt wr j (allL (P.take k)) F ∧ Hid (F = ((allL (P.take s)).length : Int))) ∧ Only [j] w3 wr) (fun _ _ i _ => nst - (intOf i).toNat)
  case atStart => exact ⟨0, 0, 0, 0, Nat.zero_le _, rfl, rfl, rfl, hid ⟨Nat.zero_le _, Nat.le_refl _⟩, ⟨0, hJ3, hid rfl⟩, Only.refl _ _⟩
  case round =>
    obtain ⟨q, m, k, s, hq, rfl, rfl, rfl, hks, ⟨F, hJ, hF⟩, hO⟩ := hrel
    have hbT : Below w.heap.size w wr := hO.toBelow b3 (by simp; omega) (by omega)
    have HR := H3.only hO (by simp; omega)
    by_cases hlt : q < nst
    · have hq0 : (0 : Int) ≤ q := by omega
      have hqn : (q : Int) < nst := by omega
      have hstr := hst.below hbT (Nat.le_refl _)
      obtain ⟨bs, os, rfl⟩ := hstr.head (by omega)
      have hcs := hstr.int q hlt
      obtain ⟨x, ex⟩ : ∃ x, x = steps.getD q 0 := ⟨_, rfl⟩
      rw [← ex] at hcs
      obtain ⟨m', em, hmx⟩ : ∃ m' : Nat, (max (m : Int) x) = (m' : Int) ∧ m ≤ m' := ⟨(max (m : Int) x).toNat, by omega, by omega⟩
      have c0 := HR.cell (j := 0) rfl
      have c1 := HR.cell (j := 1) rfl
      have c2 := HR.cell (j := 2) rfl
      have c3 := HR.cell (j := 3) rfl
      have c4 := HR.cell (j := 4) rfl
      have c5 := HR.cell (j := 5) rfl
      have c6 := HR.cell (j := 6) rfl
      have c7 := HR.cell (j := 7) rfl
      have c8 := HR.cell (j := 8) rfl
      clear ex hstr
      go_wp2_with fail
      have hRr := h.below hbT (Nat.le_refl _)
      refine (part_any r ar nr cr ag ng cg ae ne ce m' wr hRr Hw.out).mono ?_
      rintro e w4 ⟨v4, rfl, ⟨ar', nr', cr', ag', ng', cg', ae', ne', ce', rfl, hRp⟩, o4⟩
      have b4 := hbT.trans (o4.mono hbT.size)
      have hJ4 := hJ.below o4 (Nat.le_refl _)
      have T4 := tab_below ht b4 (Nat.le_refl _)
      have hpp := hid (show payL (partR r m') = P.take (partK r m') by rw [EP.out]; exact part_pays r m')
      have hKl := hid (show partK r m' ≤ P.length by rw [EP.out]; exact partK_le r m')
      have hkK := hid (show k ≤ partK r m' from Nat.le_trans hks.out.1 (partK_mono r hmx))
      have hlm := hid (show (allL (P.take k)).length ≤ 4000000 by
        have h1 := allL_mono P k (k + P.length) (by omega)
        rw [List.take_of_length_le (l := P) (i := k + P.length) (by omega)] at h1
        have := hPl.out
        omega)
      have hlK := hid (show (allL (payL (partR r m'))).length ≤ 4000000 by
        rw [hpp.out]
        have h1 := allL_mono P (partK r m') (partK r m' + P.length) (by omega)
        rw [List.take_of_length_le (l := P) (i := partK r m' + P.length) (by omega)] at h1
        have := hPl.out
        omega)
      have hsc := hid (show (scanL (allL (P.take k))).1 = (payL (partR r m')).take k by rw [scan_take_all hPs.out, hpp.out, List.take_take, Nat.min_eq_left hkK.out])
      have hwp := hid (wfB_part Hw.out m')
      have hfp := hid (fine_of hwp.out (by rw [partR_seed]; exact HS.out))
      have hkp := hid (show k ≤ (payL (partR r m')).length by rw [hpp.out, List.length_take]; have := hkK.out; have := hKl.out; omega)
      have hsp := hid (show ∀ p ∈ payL (partR r m'), p.length ≤ 60000 by rw [hpp.out]; exact fun p hp => hPs.out p (List.mem_of_mem_take hp))
      clear c0 c1 c2 c3 c4 c5 c6 c7 c8 hcs
      go_wp2_with fail
      refine (jwrite_any j (allL (P.take k)) F k (partR r m') ar' nr' cr' ag' ng' cg' ae' ne' ce' _ hJ4 hRp hwp.out hfp.out T4 hkp.out hsc.out hlm.out hsp.out hlK.out).mono ?_
      rintro e w5 ⟨rfl, ⟨B5, F5, hJ5, hI5⟩, hO5⟩
      obtain ⟨hB5, hF5⟩ := lstep hkK.out hKl.out hks.out.2 rfl hF.out hPs.out (by have h1 := hI5; rw [hpp.out] at h1; exact h1)
      subst hB5 hF5
      have hO45 : Only [j] w3 w5 := (hO.trans (Only.ofBelow (l := [j]) o4 (Nat.le_refl _)) (fun x hx => Or.inl hx)).trans hO5 (fun x hx => Or.inl hx)
      clear hI5
      have b5 : Below w.heap.size w w5 := hO45.toBelow b3 (by simp; omega) (by omega)
      have HR5 := H3.only hO45 (by simp; omega)
      have hk5 := hid (show partK r m' ≤ partK r m' ∧ s ≤ partK r m' from ⟨Nat.le_refl _, Nat.le_trans hks.out.2 hkK.out⟩)
      by_cases hsf : (q : Int) = safe
      · have hsfz : ((q : Int) == safe) = true := by simp; exact hsf
        have hl5 := hid (show (allL (P.take (partK r m'))).length ≤ 4000000 by have h1 := hlK.out; rwa [hpp.out] at h1)
        have hs5 := hid (show (scanL (allL (P.take (partK r m')))).1.length = partK r m' by rw [scan_take_all hPs.out, List.length_take]; have := hKl.out; omega)
        clear hsf
        go_wp2_with fail
        refine (sync_any j _ _ _ hJ5).mono ?_
        rintro e w6 ⟨rfl, hJ6, hO6⟩
        go_wp2_with fail
        refine (payloads_any j _ _ _ hJ6 hl5.out).mono ?_
        rintro e w7 ⟨v7, rfl, hown7, o7⟩
        obtain ⟨a7, c7, rfl, _⟩ := RowS.ofOwn hown7
        rw [hs5.out]
        have hJ7 := hJ6.below o7 (Nat.le_refl _)
        have hO7 : Only [j] w3 w7 := (hO45.trans hO6 (fun x hx => Or.inl hx)).trans (Only.ofBelow (l := [j]) o7 (Nat.le_refl _)) (fun x hx => Or.inl hx)
        clear hown7 hJ6 hJ5
        go_wp2
        go_roundw
        case rel => exact ⟨q + 1, m', partK r m', partK r m', by omega, by go_num, rfl, rfl, hid ⟨Nat.le_refl _, Nat.le_refl _⟩, ⟨_, hJ7, hid rfl⟩, hO7⟩
        case measure => simp [intOf]; omega
      · have hsfz : ((q : Int) == safe) = false := by simp; exact hsf
        clear hsf
        go_wp2
        go_roundw
        case rel => exact ⟨q + 1, m', partK r m', s, by omega, by go_num, rfl, rfl, hk5, ⟨_, hJ5, hF⟩, hO45⟩
        case measure => simp [intOf]; omega
    · obtain rfl : nst = q := by omega
      have hkP := hid (show k ≤ P.length by rw [EP.out]; exact Nat.le_trans hks.out.1 (partK_le r m))
      have hlm := hid (show (allL (P.take k)).length ≤ 4000000 by
        have h1 := allL_mono P k (k + P.length) (by omega)
        rw [List.take_of_length_le (l := P) (i := k + P.length) (by omega)] at h1
        have := hPl.out
        omega)
      have hs5 := hid (show (scanL (allL (P.take k))).1.length = k by rw [scan_take_all hPs.out, List.length_take]; have := hkP.out; omega)
      have hFk := hid (show (allL (P.take s)).length ≤ (allL (P.take k)).length from allL_mono P s k hks.out.2)
      rw [hF.out] at hJ
      go_wp2_with fail
      refine (payloads_any j _ _ _ hJ hlm.out).mono ?_
      rintro e w5 ⟨v5, rfl, hown5, o5⟩
      obtain ⟨a5, cc5, rfl, _⟩ := RowS.ofOwn hown5
      rw [hs5.out]
      have hJ5 := hJ.below o5 (Nat.le_refl _)
      have hO5 := hO.trans (Only.ofBelow (l := [j]) o5 (Nat.le_refl _)) (fun x hx => Or.inl hx)
      clear hown5 hJ
      go_wp2_with fail
      refine (crash_any j _ _ _ keep _ hJ5 rfl hlm.out hFk.out).mono ?_
      rintro e w6 ⟨rfl, hJ6, hO6⟩
      have hO6 := hO5.trans hO6 (fun x hx => Or.inl hx)
      have hcb := crash_bd (allL (P.take k)).length (allL (P.take s)).length keep hFk.out
      obtain ⟨c, ec⟩ : ∃ c, c = crash (allL (P.take k)).length (allL (P.take s)).length keep := ⟨_, rfl⟩
      rw [← ec] at hJ6 hcb
      clear ec
      obtain ⟨m2, hm1, hm2, hms⟩ := lcrash hkP.out hks.out.2 hPs.out hcb.2 hcb.1
      have Hms := hid hms
      have hm2P := hid (Nat.le_trans hm2 hkP.out)
      have hl6 := hid (show ((allL (P.take k)).take c).length ≤ 4000000 by rw [List.length_take]; have := hlm.out; omega)
      have hl2 := hid (show (scanL ((allL (P.take k)).take c)).1.length = m2 by rw [Hms.out, List.length_take]; have := hm2P.out; omega)
      obtain ⟨B6, eB6⟩ : ∃ B6, B6 = (allL (P.take k)).take c := ⟨_, rfl⟩
      rw [← eB6] at hJ6 Hms hl6 hl2
      clear eB6 hms hcb hJ5
      go_wp2_with fail
      refine (payloads_any j _ _ _ hJ6 hl6.out).mono ?_
      rintro e w7 ⟨v7, rfl, hown7, o7⟩
      obtain ⟨a7, cc7, rfl, hr7⟩ := RowS.ofOwn hown7
      rw [Hms.out] at hr7
      rw [hl2.out]
      have hJ7 := hJ6.below o7 (Nat.le_refl _)
      have hO7 := hO6.trans (Only.ofBelow (l := [j]) o7 (Nat.le_refl _)) (fun x hx => Or.inl hx)
      have hrP7 := (RowS.ofHeld hx3).onlyNe hO7 (by omega)
      have hle3 := hx3.le
      have hmx3 := hx3.max
      have hmi1 : ¬ (m2 : Int) < s := by omega
      have hmi2 : ¬ (k : Int) < m2 := by omega
      clear hown7 hJ6
      go_wp2_with fail
      refine (rbegins_any P b1' o1' P.length cp a7 m2 cc7 _ rfl hm2P.out hle3 hmx3 hrP7 hr7).mono ?_
      rintro e w8 ⟨rfl, o8⟩
      have hO8 := hO7.trans (Only.ofBelow (l := [j]) o8 (Nat.le_refl _)) (fun x hx => Or.inl hx)
      have b8 : Below w.heap.size w w8 := hO8.toBelow b3 (by simp; omega) (by omega)
      have HR8 := H3.only hO8 (by simp; omega)
      have hJ8 := hJ7.below o8 (Nat.le_refl _)
      have hR8 := h.below b8 (Nat.le_refl _)
      have T8 := tab_below ht b8 (Nat.le_refl _)
      have c0 := HR8.cell (j := 0) rfl
      have c1 := HR8.cell (j := 1) rfl
      have c2 := HR8.cell (j := 2) rfl
      have c3 := HR8.cell (j := 3) rfl
      have c4 := HR8.cell (j := 4) rfl
      have c5 := HR8.cell (j := 5) rfl
      have c6 := HR8.cell (j := 6) rfl
      have c7 := HR8.cell (j := 7) rfl
      have c8 := HR8.cell (j := 8) rfl
      go_wp2_with fail
      refine (jwrite_any j B6 c m2 r ar nr cr ag ng cg ae ne ce _ hJ8 hR8 Hw.out Hf.out T8 (by rw [← EP.out]; exact hm2P.out) (by rw [← EP.out]; exact Hms.out) hl6.out (by rw [← EP.out]; exact hPs.out) (by rw [← EP.out]; exact hPl.out)).mono ?_
      rintro e w9 ⟨rfl, ⟨B9, F9, hJ9, hI9⟩, hO9⟩
      rw [← EP.out] at hI9
      have hend := hid (lend hm2P.out hI9)
      have hl9 := hid (hI9.len hl6.out hPl.out)
      have hO9 := hO8.trans hO9 (fun x hx => Or.inl hx)
      have hn9 := hid (show (scanL B9).1.length = P.length by rw [hend.out])
      clear hI9 hJ8 hJ7 c0 c1 c2 c3 c4 c5 c6 c7 c8
      go_wp2_with fail
      refine (payloads_any j _ _ _ hJ9 hl9.out).mono ?_
      rintro e w10 ⟨v10, rfl, hown10, o10⟩
      obtain ⟨a10, cc10, rfl, hr10⟩ := RowS.ofOwn hown10
      rw [hend.out] at hr10
      rw [hn9.out]
      have hO10 := hO9.trans (Only.ofBelow (l := [j]) o10 (Nat.le_refl _)) (fun x hx => Or.inl hx)
      have hrP10 := (RowS.ofHeld hx3).onlyNe hO10 (by omega)
      clear hown10
      go_wp2_with fail
      refine (strings_any a10 (some ⟨b1', o1', none⟩) P.length cc10 cp P _ (by omega) rfl hr10 hrP10).mono ?_
      rintro e w11 ⟨rfl, o11⟩
      have hO11 := hO10.trans (Only.ofBelow (l := [j]) o11 (Nat.le_refl _)) (fun x hx => Or.inl hx)
      have b11 : Below w.heap.size w w11 := hO11.toBelow b3 (by simp; omega) (by omega)
      go_wp2_with fail
      refine (awake_any _).mono ?_
      rintro e w12 ⟨rfl, o12⟩
      go_wp2
      go_ret
      exact ⟨rfl, b11.trans (o12.mono b11.size)⟩
end Go.Proofs.YtahbhhenobehfaaGreatDoor
