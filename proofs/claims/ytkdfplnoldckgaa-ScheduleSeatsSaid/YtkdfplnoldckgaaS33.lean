/-
  The walk of Balance of the program.
-/
import Derived.Test.YtkdfplnoldckgaaS32
namespace Go.Proofs.Ytkdfplnoldckgaa
open Go.ChangeShapes Go.WideShapes Go.ChangeAt Go.RowKit

/-- The outer block: the first i slots hold rows of m numbers in the blocks behind g, the others nil. -/
def rowsA (N m g i : Nat) : Array Value := ((List.range N).map fun s => if s < i then Value.slice (some ⟨g + 1 + s, 0, none⟩) m m else .slice none 0 0).toArray
theorem rowsA_size (N m g i : Nat) : (rowsA N m g i).size = N := by simp [rowsA]
theorem rowsA_get (N m g i s : Nat) (h : s < i) (hN : s < N) : (rowsA N m g i)[s]? = some (.slice (some ⟨g + 1 + s, 0, none⟩) m m) := by
  simp [rowsA, hN, h]
theorem rowsA_nil (N m g i s : Nat) (h : ¬ s < i) (hN : s < N) : (rowsA N m g i)[s]? = some (.slice none 0 0) := by
  simp [rowsA, hN, h]
theorem rowsA_set (N m g i : Nat) : (rowsA N m g i).setIfInBounds i (.slice (some ⟨g + 1 + i, 0, none⟩) m m) = rowsA N m g (i + 1) := by
  apply Array.toList_inj.1
  refine List.ext_getElem (by simp [rowsA]) fun s h1 h2 => ?_
  simp only [rowsA, List.setIfInBounds_toArray, List.getElem_set, List.getElem_map, List.getElem_range]
  by_cases e : i = s
  · subst e; simp
  · rw [if_neg e]
    have : (s < i) ↔ (s < i + 1) := by omega
    simp only [this]
theorem rowsA_zero (N m g : Nat) : (List.replicate N (Value.slice none 0 0)).toArray = rowsA N m g 0 := by
  unfold rowsA
  congr 1
  refine List.ext_getElem (by simp) fun i h1 h2 => ?_
  simp
theorem make_rows (N : Nat) (hm : N ≤ 4096) (w : World) : (Instr.makeSlice 51 (.int .i64 (N : Int)) (.int .i64 (N : Int))).run Try.prog w = .ok (.slice (some ⟨w.heap.size, 0, none⟩) N N) (w.alloc (.cells (List.replicate N (Value.slice none 0 0)).toArray 36)) := by
  obtain ⟨i0, hi, hz0, hz1, hz2⟩ := info_parts info_ints
  have h := run_make (P := Try.prog) w 51 36 i0 (.slice none 0 0) Try.underlying51 hi hz0 .i64 .i64 (N : Int) (N : Int) (by omega) (by omega) (by rw [hz2]; omega) (by omega)
  rw [hz1] at h
  have e : madeCells (Value.slice none 0 0).cells (((N : Int)).toNat * 1) = (List.replicate N (Value.slice none 0 0)).toArray := by
    apply Array.toList_inj.1
    show (madeCells #[Value.slice none 0 0] _).toList = _
    rw [toList_madeCells_one]
    simp
  rw [e] at h
  simpa using h
theorem bal_off (ad : Option Addr) (n cap : Nat) (L : List (List (List Int))) (N m : Int) (w : World) (h : N < 1 ∨ 16 < N ∨ m < 1 ∨ 4 < m) :
    Calls Try.prog 26 #[.slice ad n cap, .int .i64 N, .int .i64 m] w fun e w' => ∃ v, e = .returned v ∧ OwnL IntsC w.heap.size 36 w' v (balX L N m) ∧ Below w.heap.size w w' := by
  have hX := hid (show balX L N m = [] by unfold balX; rw [if_pos h])
  by_cases h1 : N < 1
  · go_enter Try.func26, Try.ntmps26
    go_wp2
    go_ret
    exact ⟨_, rfl, by rw [hX.out]; exact OwnL.nil _ _ _ _, Below.refl _ _⟩
  by_cases h2 : 16 < N
  · go_enter Try.func26, Try.ntmps26
    go_wp2
    go_ret
    exact ⟨_, rfl, by rw [hX.out]; exact OwnL.nil _ _ _ _, Below.refl _ _⟩
  by_cases h3 : m < 1
  · go_enter Try.func26, Try.ntmps26
    go_wp2
    go_ret
    exact ⟨_, rfl, by rw [hX.out]; exact OwnL.nil _ _ _ _, Below.refl _ _⟩
  · have h4 : 4 < m := by omega
    clear h
    go_enter Try.func26, Try.ntmps26
    go_wp2
    go_ret
    exact ⟨_, rfl, by rw [hX.out]; exact OwnL.nil _ _ _ _, Below.refl _ _⟩
set_option maxRecDepth 20000 in
set_option maxHeartbeats 8000000 in
theorem bal_on (ad : Option Addr) (n cap : Nat) (L : List (List (List Int))) (N m : Nat) (w : World) (hN1 : 1 ≤ N) (hN2 : N ≤ 16) (hm1 : 1 ≤ m) (hm2 : m ≤ 4) (hL : Modest49 L) (h : HeldL RoundC w ad n cap L) :
    Calls Try.prog 26 #[.slice ad n cap, .int .i64 N, .int .i64 m] w fun e w' => ∃ v, e = .returned v ∧ OwnL IntsC w.heap.size 36 w' v (balL L N m) ∧ Below w.heap.size w w' := by
  have hl := hid h.len
  have hle := h.le
  have hmx := h.max
  have hnm : n ≤ 10000 := by rw [← hl.out]; exact hL.1
  have HL := hid hL.2
  have HT := hid (fun (r : List (List Int)) y p k j t s => fT_le L r y p k j t s (fun r hr => (hL.2 r hr).1) hL.1)
  have a1 : ¬ (N : Int) < 1 := by omega
  have a2 : ¬ (16 : Int) < N := by omega
  have a3 : ¬ (m : Int) < 1 := by omega
  have a4 : ¬ (4 : Int) < m := by omega
  have hmk := make_ints m (by omega)
  have hmr := make_rows N (by omega)
  clear hL
  have hB0 : Has (w.alloc (.cells (List.replicate N (Value.slice none 0 0)).toArray 36)) w.heap.size (rowsA N m w.heap.size 0) 36 := by rw [← rowsA_zero]; exact Has.new _ _ _
  have hb0 : Below w.heap.size w (w.alloc (.cells (List.replicate N (Value.slice none 0 0)).toArray 36)) := (Below.refl _ _).alloc (Nat.le_refl _) _
  go_enter Try.func26, Try.ntmps26
  go_wp2
  clear hmr
  go_loopw [33] (fun i wr => ∃ p : Nat, p ≤ N ∧ i = .int .i64 p ∧ Has wr w.heap.size (rowsA N m w.heap.size p) 36 ∧ Hid (∀ s, s < p → Has wr (w.heap.size + 1 + s) (ints (rowK L m (s : Int) 0)) 3) ∧ Hid (wr.heap.size = w.heap.size + 1 + p) ∧ Below w.heap.size w wr) (fun i _ => N - (intOf i).toNat)
  case atStart => exact ⟨0, Nat.zero_le _, rfl, hB0, hid (fun s hs => by omega), hid (by simp), hb0⟩
  case round =>
    clear hB0 hb0
    obtain ⟨p, hp, rfl, hB, hR, hz, hb⟩ := hrel
    by_cases hpN : p < N
    · have hp0 : (0 : Int) ≤ p := by omega
      have hpn : (p : Int) < N := by omega
      have hcp := hB.cell (rowsA_nil N m w.heap.size p p (by omega) hpN)
      have hfp := hB.free p
      have hlt := hB.lt
      have hbl := hb.size
      obtain ⟨ws, ews⟩ : ∃ ws, ws = wr.setCell ⟨w.heap.size, p, none⟩ (.slice (some ⟨w.heap.size + 1 + p, 0, none⟩) m m) := ⟨_, rfl⟩
      have hzs : ws.heap.size = w.heap.size + 1 + p := by rw [ews]; simpa [World.setCell] using hz.out
      have hBs := hB.set p (.slice (some ⟨w.heap.size + 1 + p, 0, none⟩) m m)
      rw [rowsA_set, ← ews] at hBs
      have hB1 := hBs.alloc (.cells (ints (List.replicate m 0)) 3)
      have hbs := bset hb (b := w.heap.size) (o := p) (Nat.le_refl _) (.slice (some ⟨w.heap.size + 1 + p, 0, none⟩) m m)
      rw [← ews] at hbs
      have hb2 := hbs.alloc (by omega) (.cells (ints (List.replicate m 0)) 3)
      have hR2 : Hid (∀ s, s < p + 1 → Has (ws.alloc (.cells (ints (List.replicate m 0)) 3)) (w.heap.size + 1 + s) (ints (rowK L m (s : Int) 0)) 3) := hid fun s hs => by
        by_cases e : s = p
        · subst e; rw [← rowK_zero]; exact Has.newAt hzs.symm
        · refine Has.alloc ?_ _
          rw [ews]
          exact (hR.out s (by omega)).other (show w.heap.size + 1 + s ≠ w.heap.size by omega) _
      have hz2 : Hid ((ws.alloc (.cells (ints (List.replicate m 0)) 3)).heap.size = w.heap.size + 1 + (p + 1)) := hid (by simp; omega)
      rw [ews] at hB1 hR2 hz2 hb2
      clear hBs hbs hzs
      clear hR ews
      go_wp2
      go_roundw
      case rel => first | exact ⟨p + 1, by omega, by go_num, hB1, hR2, hz2, hb2⟩ | (rw [hz.out]; exact ⟨p + 1, by omega, by go_num, hB1, hR2, hz2, hb2⟩)
      case measure => simp [intOf]; omega
    · obtain rfl : p = N := by omega
      have hl0 := hid h.len
      go_wp2
      go_loopw [44] (fun i wr => ∃ k : Nat, k ≤ n ∧ i = .int .i64 k ∧ Has wr w.heap.size (rowsA p m w.heap.size p) 36 ∧ Hid (∀ s, s < p → Has wr (w.heap.size + 1 + s) (ints (rowK L m (s : Int) k)) 3) ∧ Below w.heap.size w wr) (fun i _ => n - (intOf i).toNat)
      case atStart => exact ⟨0, Nat.zero_le _, rfl, hB, hR, hb⟩
      case round =>
        clear hB hR hb hz
        obtain ⟨k, hk, rfl, hB, hRow, hb⟩ := hrel
        by_cases hlt : k < n
        · have hho := h.below hb (Nat.le_refl _)
          obtain ⟨b, o, rfl⟩ := hho.head (by omega)
          obtain ⟨ar, nr, cr, hc, _⟩ := hho.elem k hlt
          obtain ⟨ar', nr', cr', hc', hR⟩ := h.elem k hlt
          obtain ⟨rfl, rfl, rfl⟩ : ar = ar' ∧ nr = nr' ∧ cr = cr' := by
            have := hc.symm.trans ((hb.cell (p := ⟨b, o + k, none⟩) (lt_of_cell hc')).trans hc')
            injection this with this
            injection this with e1 e2 e3
            exact ⟨e1, e2, e3⟩
          have hk0 : (0 : Int) ≤ k := by omega
          have hkn : (k : Int) < n := by omega
          obtain ⟨r, er⟩ : ∃ r, r = L.getD k [] := ⟨_, rfl⟩
          rw [← er] at hR
          have hrl := hid hR.len
          have hrle := hR.le
          have hrmx := hR.max
          have hrm := HL.out r (by rw [er]; exact getD_mem (by rw [hl.out]; exact hlt))
          have Hrm := hid hrm.1
          have hnr : nr ≤ 1000 := by rw [← hrl.out]; exact hrm.1
          have Hend := hid (fun (s j : Nat) hj => aJ_end L r m (s : Int) k j (by rw [hl.out]; exact hlt) er hj)
          have hRow2 : Hid (∀ s, s < p → Has wr (w.heap.size + 1 + s) (ints (rowF m (aJ L r (s : Int) k 0))) 3) := hid fun s hs => by rw [← aJ_zero L r m (s : Int) k]; exact hRow.out s hs
          clear er hrm hho hc' hRow
          go_wp2
          go_loopw [50] (fun i wr => ∃ j : Nat, j ≤ nr ∧ i = .int .i64 j ∧ Has wr w.heap.size (rowsA p m w.heap.size p) 36 ∧ Hid (∀ s, s < p → Has wr (w.heap.size + 1 + s) (ints (rowF m (aJ L r (s : Int) k j))) 3) ∧ Below w.heap.size w wr) (fun i _ => nr - (intOf i).toNat)
          case atStart => exact ⟨0, Nat.zero_le _, rfl, hB, hRow2, hb⟩
          case round =>
            clear hB hRow2 hb hc
            obtain ⟨j, hj, rfl, hB, hRow, hb⟩ := hrel
            by_cases hjl : j < nr
            · obtain ⟨b2, o2, rfl⟩ := hR.head (by omega)
              obtain ⟨ae, me, ce, hc2o, hE⟩ := hR.elem j hjl
              have hc2 := (hb.cell (p := ⟨b2, o2 + j, none⟩) (lt_of_cell hc2o)).trans hc2o
              have hj0 : (0 : Int) ≤ j := by omega
              have hjn : (j : Int) < nr := by omega
              obtain ⟨x, ex⟩ : ∃ x, x = r.getD j [] := ⟨_, rfl⟩
              rw [← ex] at hE
              have hjr : j < r.length := by rw [hrl.out]; exact hjl
              have hxl := hid hE.len
              have hmle := hE.le
              have hmmx := hE.max
              have Hs := hid (fun (s t : Nat) ht => aJ_succ L r m (s : Int) k j t x hjr ex ht)
              have Ht := hid (fun (p : Int) t s => HT.out r x p k j t s Hrm.out)
              have bsi := hb.size
              have hRow2 : Hid (∀ s, s < p → Has (wr.alloc (.cells #[.slice ae me ce] 38)) (w.heap.size + 1 + s) (ints (rowF m (fT (aJ L r (s : Int) k j) x (s : Int) 0))) 3) := hid fun s hs => by rw [← fT_zero m (aJ L r (s : Int) k j) x (s : Int)]; exact (hRow.out s hs).alloc _
              have hB2 := hB.alloc (.cells #[.slice ae me ce] 38)
              have hb2 : Below w.heap.size w (wr.alloc (.cells #[.slice ae me ce] 38)) := hb.alloc bsi _
              clear ex hjr hc2o hB hRow hb
              go_wp2
              go_loopw [57] (fun i wr => ∃ t : Nat, t ≤ me ∧ i = .int .i64 t ∧ Has wr w.heap.size (rowsA p m w.heap.size p) 36 ∧ Hid (∀ s, s < p → Has wr (w.heap.size + 1 + s) (ints (rowF m (fT (aJ L r (s : Int) k j) x (s : Int) t))) 3) ∧ Below w.heap.size w wr) (fun i _ => me - (intOf i).toNat)
              case atStart => exact ⟨0, Nat.zero_le _, rfl, hB2, hRow2, hb2⟩
              case round =>
                clear hB2 hRow2 hb2 hc2 bsi
                obtain ⟨t, hte, rfl, hB, hRow, hb⟩ := hrel
                by_cases hle2 : t < me
                · have ht0 : (0 : Int) ≤ t := by omega
                  have hte' : (t : Int) < me := by omega
                  have hEt := hE.below hb (Nat.le_refl _)
                  obtain ⟨be, oe, rfl⟩ := hEt.head (by omega)
                  have hcx := hEt.int t hle2
                  have htx : t < x.length := by rw [hxl.out]; exact hle2
                  have hyes := hid (fun (s : Nat) => fT_yes m (aJ L r (s : Int) k j) x (s : Int) t htx)
                  have hno := hid (fun (s : Nat) => fT_no m (aJ L r (s : Int) k j) x (s : Int) t htx)
                  obtain ⟨y, ey⟩ : ∃ y, y = x.getD t 0 := ⟨_, rfl⟩
                  rw [← ey] at hcx hyes hno
                  have bsi := hb.size
                  clear ey htx hEt
                  by_cases htm : t < m
                  · have htm' : (t : Int) < m := by omega
                    by_cases hy0 : 0 ≤ y
                    · by_cases hyN : y < p
                      · obtain ⟨q, rfl⟩ := Int.eq_ofNat_of_zero_le hy0
                        have hqp : q < p := by omega
                        have hBq := hRow.out q hqp
                        have hcr := hB.cell (rowsA_get p m w.heap.size p q hqp hqp)
                        have hrow := hBq.cell (ints_get _ t (by rw [rowF_length]; exact htm))
                        rw [rowF_get m _ t htm] at hrow
                        have hfr := hBq.free t
                        have hbl := hBq.lt
                        have hft := Ht.out (q : Int) t t
                        have hq1 := hid (hyes.out q (by simp))
                        obtain ⟨g, eg⟩ : ∃ g, g = fT (aJ L r (q : Int) k j) x (q : Int) t t := ⟨_, rfl⟩
                        rw [← eg] at hrow hft hq1
                        have hg0 : (0 : Int) ≤ g := by omega
                        have hg1 : (g : Int) ≤ 20000000 := by omega
                        have hb3 := bset hb (b := w.heap.size + 1 + q) (o := t) (by omega) (.int .i64 ((g : Int) + 1))
                        have hB3 := hB.other (a := ⟨w.heap.size + 1 + q, t, none⟩) (show w.heap.size ≠ w.heap.size + 1 + q by omega) (.int .i64 ((g : Int) + 1))
                        have hR3 : Hid (∀ s, s < p → Has (wr.setCell ⟨w.heap.size + 1 + q, t, none⟩ (.int .i64 ((g : Int) + 1))) (w.heap.size + 1 + s) (ints (rowF m (fT (aJ L r (s : Int) k j) x (s : Int) (t + 1)))) 3) := hid fun s hs => by
                          by_cases e : s = q
                          · subst e
                            have := (hRow.out s hs).set t (.int .i64 ((g : Int) + 1))
                            rwa [ints_set, hq1.out] at this
                          · have := (hRow.out s hs).other (a := ⟨w.heap.size + 1 + q, t, none⟩) (show w.heap.size + 1 + s ≠ w.heap.size + 1 + q by omega) (.int .i64 ((g : Int) + 1))
                            rwa [hno.out s (by simp; omega)] at this
                        clear eg hft hq1 hyes hno hB hb hRow hBq
                        go_wp2
                        go_roundw
                        case rel => exact ⟨t + 1, by omega, by go_num, hB3, hR3, hb3⟩
                        case measure => simp [intOf]; omega
                      · have hR3 : Hid (∀ s, s < p → Has wr (w.heap.size + 1 + s) (ints (rowF m (fT (aJ L r (s : Int) k j) x (s : Int) (t + 1)))) 3) := hid fun s hs => by
                          have := hRow.out s hs
                          rwa [hno.out s (by simp; omega)] at this
                        clear hyes hno hRow
                        go_wp2
                        go_roundw
                        case rel => exact ⟨t + 1, by omega, by go_num, hB, hR3, hb⟩
                        case measure => simp [intOf]; omega
                    · have hR3 : Hid (∀ s, s < p → Has wr (w.heap.size + 1 + s) (ints (rowF m (fT (aJ L r (s : Int) k j) x (s : Int) (t + 1)))) 3) := hid fun s hs => by
                        have := hRow.out s hs
                        rwa [hno.out s (by simp; omega)] at this
                      clear hyes hno hRow
                      go_wp2
                      go_roundw
                      case rel => exact ⟨t + 1, by omega, by go_num, hB, hR3, hb⟩
                      case measure => simp [intOf]; omega
                  · have htm' : ¬ (t : Int) < m := by omega
                    have hR3 : Hid (∀ s, s < p → Has wr (w.heap.size + 1 + s) (ints (rowF m (fT (aJ L r (s : Int) k j) x (s : Int) (t + 1)))) 3) := hid fun s hs => by
                      have := hRow.out s hs
                      rwa [fT_over m _ _ _ t (by omega)] at this
                    clear hyes hno hRow
                    go_wp2
                    go_roundw
                    case rel => exact ⟨t + 1, by omega, by go_num, hB, hR3, hb⟩
                    case measure => simp [intOf]; omega
                · obtain rfl : t = me := by omega
                  have hR3 : Hid (∀ s, s < p → Has wr (w.heap.size + 1 + s) (ints (rowF m (aJ L r (s : Int) k (j + 1)))) 3) := hid fun s hs => by
                    have := hRow.out s hs
                    rwa [Hs.out s t (Or.inr (by rw [hxl.out]; omega))] at this
                  clear hRow
                  go_wp2
                  go_roundw
                  case rel => exact ⟨j + 1, by omega, by go_num, hB, hR3, hb⟩
                  case measure => simp [intOf]; omega
            · obtain rfl : j = nr := by omega
              have hR3 : Hid (∀ s, s < p → Has wr (w.heap.size + 1 + s) (ints (rowK L m (s : Int) (k + 1))) 3) := hid fun s hs => by
                have := hRow.out s hs
                rwa [Hend.out s j (by rw [hrl.out]; exact Nat.le_refl _)] at this
              clear hRow
              go_wp2
              go_roundw
              case rel => exact ⟨k + 1, by omega, by go_num, hB, hR3, hb⟩
              case measure => simp [intOf]; omega
        · obtain rfl : k = n := by omega
          go_wp2
          go_ret
          refine ⟨_, rfl, ?_, hb⟩
          refine OwnL.lit hB (Nat.le_refl _) (balL_length L p m) (rowsA_size p m _ p) (by rw [maxLen_eq]; omega) fun i hi => ?_
          have hip : i < p := by rwa [balL_length] at hi
          refine ⟨_, rowsA_get p m _ p i hip hip, ?_⟩
          rw [balL_get]
          have hB3 := hRow.out i hip
          rw [rowK_end L m (i : Int) k (by rw [hl.out]; exact Nat.le_refl _)] at hB3
          exact rests_ints hB3 (S := fun g => w.heap.size ≤ g ∧ g ≠ w.heap.size) ⟨by omega, by omega⟩ (balRow_length L m _) (by omega)
theorem balance_any (ad : Option Addr) (n cap : Nat) (L : List (List (List Int))) (N m : Int) (w : World) (hL : Modest49 L) (h : HeldL RoundC w ad n cap L) :
    Calls Try.prog 26 #[.slice ad n cap, .int .i64 N, .int .i64 m] w fun e w' => ∃ v, e = .returned v ∧ OwnL IntsC w.heap.size 36 w' v (balX L N m) ∧ Below w.heap.size w w' := by
  by_cases hoff : N < 1 ∨ 16 < N ∨ m < 1 ∨ 4 < m
  · exact bal_off ad n cap L N m w hoff
  · obtain ⟨N', rfl⟩ := Int.eq_ofNat_of_zero_le (show 0 ≤ N by omega)
    obtain ⟨m', rfl⟩ := Int.eq_ofNat_of_zero_le (show 0 ≤ m by omega)
    have e : balX L N' m' = balL L N' m' := by unfold balX; rw [if_neg hoff]; simp
    rw [e]
    exact bal_on ad n cap L N' m' w (by omega) (by omega) (by omega) (by omega) hL h
end Go.Proofs.Ytkdfplnoldckgaa
