/-
  The walk of Balance of the reference.
-/
import Derived.Test.YtkdfplnoldckgaaRows
import Derived.Test.YtkdfplnoldckgaaSMem
import Derived.Test.YtkdfplnoldckgaaSPlain9
import Derived.Test.YtkdfplnoldckgaaSPlain11
import Derived.Test.YtkdfplnoldckgaaS3
import Derived.WalkKit
import Derived.ProofKit
import Derived.OpenShut
import Derived.Deep.DeepMust
import Derived.Outline
namespace Go.Proofs.Ytkdfplnoldckgaa
open Go.ChangeShapes Go.WideShapes Go.ChangeAt Go.RowKit

theorem info_ints : (Try.prog.info? 36).map (fun i => (i.zero, i.size, i.bytes)) = some (some (.slice none 0 0), 1, 24) := by kernel_rfl
theorem info_int1 : (Try.prog.info? 3).map (fun i => (i.zero, i.size, i.bytes)) = some (some (.int .i64 0), 1, 8) := by kernel_rfl
theorem make_ints (m : Nat) (hm : m ≤ 4096) (w : World) : (Instr.makeSlice 36 (.int .i64 (m : Int)) (.int .i64 (m : Int))).run Try.prog w = .ok (.slice (some ⟨w.heap.size, 0, none⟩) m m) (w.alloc (.cells (ints (List.replicate m 0)) 3)) := by
  obtain ⟨i0, hi, hz0, hz1, hz2⟩ := info_parts info_int1
  have h := run_make (P := Try.prog) w 36 3 i0 (.int .i64 0) Try.underlying36 hi hz0 .i64 .i64 (m : Int) (m : Int) (by omega) (by omega) (by rw [hz2]; omega) (by omega)
  rw [hz1] at h
  have e : madeCells (Value.int .i64 0).cells (((m : Int)).toNat * 1) = ints (List.replicate m 0) := by
    apply Array.toList_inj.1
    show (madeCells #[Value.int .i64 0] _).toList = _
    rw [toList_madeCells_one]
    simp [ints]
  rw [e] at h
  simpa using h
theorem rbal_off (ad : Option Addr) (n cap : Nat) (L : List (List (List Int))) (N m : Int) (w : World) (h : N < 1 ∨ 16 < N ∨ m < 1 ∨ 4 < m) :
    Calls Try.prog 27 #[.slice ad n cap, .int .i64 N, .int .i64 m] w fun e w' => ∃ v, e = .returned v ∧ OwnL IntsC w.heap.size 36 w' v (balX L N m) ∧ Below w.heap.size w w' := by
  have hX := hid (show balX L N m = [] by unfold balX; rw [if_pos h])
  by_cases h1 : N < 1
  · go_enter Try.func27, Try.ntmps27
    go_wp2
    go_ret
    exact ⟨_, rfl, by rw [hX.out]; exact OwnL.nil _ _ _ _, Below.refl _ _⟩
  by_cases h2 : 16 < N
  · go_enter Try.func27, Try.ntmps27
    go_wp2
    go_ret
    exact ⟨_, rfl, by rw [hX.out]; exact OwnL.nil _ _ _ _, Below.refl _ _⟩
  by_cases h3 : m < 1
  · go_enter Try.func27, Try.ntmps27
    go_wp2
    go_ret
    exact ⟨_, rfl, by rw [hX.out]; exact OwnL.nil _ _ _ _, Below.refl _ _⟩
  · have h4 : 4 < m := by omega
    clear h
    go_enter Try.func27, Try.ntmps27
    go_wp2
    go_ret
    exact ⟨_, rfl, by rw [hX.out]; exact OwnL.nil _ _ _ _, Below.refl _ _⟩
set_option maxRecDepth 20000 in
set_option maxHeartbeats 8000000 in
theorem rbal_on (ad : Option Addr) (n cap : Nat) (L : List (List (List Int))) (N m : Nat) (w : World) (hN1 : 1 ≤ N) (hN2 : N ≤ 16) (hm1 : 1 ≤ m) (hm2 : m ≤ 4) (hL : Modest49 L) (h : HeldL RoundC w ad n cap L) :
    Calls Try.prog 27 #[.slice ad n cap, .int .i64 N, .int .i64 m] w fun e w' => ∃ v, e = .returned v ∧ OwnL IntsC w.heap.size 36 w' v (balL L N m) ∧ Below w.heap.size w w' := by
  obtain ⟨i0, hi, hz0, hz1, hz2⟩ := info_parts info_ints
  have hl := hid h.len
  have hle := h.le
  have hmx := h.max
  have hnm : n ≤ 10000 := by rw [← hl.out]; exact hL.1
  have HL := hid hL.2
  have HT := hid (fun (r : List (List Int)) y p k j t s => fT_le L r y p k j t s (fun r hr => (hL.2 r hr).1) hL.1)
  have a1 : ¬ (N : Int) < 1 := by omega
  have a2 : ¬ (16 : Int) < N := by omega
  have a3 : ¬ (m : Int) < 1 := by omega
  have a4 : ¬ (4 : Int) < m := by omega
  have hmk := make_ints m (by omega)
  clear hL
  go_enter Try.func27, Try.ntmps27
  go_wp2
  go_loopw [7, 8] (fun v i wr => ∃ p : Nat, p ≤ N ∧ i = .int .i64 p ∧ OwnL IntsC w.heap.size 36 wr v (balL L p m) ∧ Below w.heap.size w wr) (fun _ i _ => N - (intOf i).toNat)
  case atStart => exact ⟨0, Nat.zero_le _, rfl, OwnL.nil _ _ _ _, Below.refl _ _⟩
  case round =>
    obtain ⟨p, hp, rfl, ownO, hbO⟩ := hrel
    obtain ⟨wo, ewo⟩ : ∃ wo : World, wo = wr := ⟨_, rfl⟩
    rw [← ewo] at ownO hbO ⊢
    clear ewo
    by_cases hpN : p < N
    · have hp0 : (0 : Int) ≤ p := by omega
      have hpn : (p : Int) < N := by omega
      have bso := hbO.size
      have hB0 : Has (wo.alloc (.cells (ints (List.replicate m 0)) 3)) wo.heap.size (ints (rowK L m p 0)) 3 := by rw [← rowK_zero]; exact Has.new _ _ _
      have hb0 : Below wo.heap.size wo (wo.alloc (.cells (ints (List.replicate m 0)) 3)) := (Below.refl _ _).alloc (Nat.le_refl _) _
      go_wp2
      go_loopw [10] (fun i wr => ∃ k : Nat, k ≤ n ∧ i = .int .i64 k ∧ Has wr wo.heap.size (ints (rowK L m p k)) 3 ∧ Below wo.heap.size wo wr) (fun i _ => n - (intOf i).toNat)
      case atStart => exact ⟨0, Nat.zero_le _, rfl, hB0, hb0⟩
      case round =>
        clear hB0 hb0
        obtain ⟨k, hk, rfl, hB, hb⟩ := hrel
        by_cases hlt : k < n
        · have hho := h.below hbO (Nat.le_refl _)
          obtain ⟨b, o, rfl⟩ := hho.head (by omega)
          obtain ⟨ar, nr, cr, hc, hR⟩ := hho.elem k hlt
          have hk0 : (0 : Int) ≤ k := by omega
          have hkn : (k : Int) < n := by omega
          obtain ⟨r, er⟩ : ∃ r, r = L.getD k [] := ⟨_, rfl⟩
          rw [← er] at hR
          have hrl := hid hR.len
          have hrle := hR.le
          have hrmx := hR.max
          have hrm := HL.out r (by rw [er]; exact getD_mem (by rw [hl.out]; exact hlt))
          have Hrm := hid hrm.1
          have hnr : nr ≤ 1000 := by rw [← hrl.out]; exact hrm.1
          have Hend := hid (fun j hj => aJ_end L r m (p : Int) k j (by rw [hl.out]; exact hlt) er hj)
          rw [aJ_zero L r m p k] at hB
          clear er hrm hho
          go_wp2
          go_loopw [11] (fun i wr => ∃ j : Nat, j ≤ nr ∧ i = .int .i64 j ∧ Has wr wo.heap.size (ints (rowF m (aJ L r p k j))) 3 ∧ Below wo.heap.size wo wr) (fun i _ => nr - (intOf i).toNat)
          case atStart => exact ⟨0, Nat.zero_le _, rfl, hB, hb⟩
          case round =>
            clear hB hb
            obtain ⟨j, hj, rfl, hB, hb⟩ := hrel
            obtain ⟨wi, ewi⟩ : ∃ wi : World, wi = wr := ⟨_, rfl⟩
            rw [← ewi] at hB hb ⊢
            clear ewi
            have hc' := (hb.cell (p := ⟨b, o + k, none⟩) (lt_of_cell hc)).trans hc
            by_cases hjl : j < nr
            · obtain ⟨b2, o2, rfl⟩ := hR.head (by omega)
              obtain ⟨ae, me, ce, hc2o, hE⟩ := hR.elem j hjl
              have hc2 := (hb.cell (p := ⟨b2, o2 + j, none⟩) (lt_of_cell hc2o)).trans hc2o
              have hj0 : (0 : Int) ≤ j := by omega
              have hjn : (j : Int) < nr := by omega
              obtain ⟨x, ex⟩ : ∃ x, x = r.getD j [] := ⟨_, rfl⟩
              rw [← ex] at hE
              have hjr : j < r.length := by rw [hrl.out]; exact hjl
              have hxl := hid hE.len
              have hmle := hE.le
              have hmmx := hE.max
              have Hs := hid (fun t ht => aJ_succ L r m (p : Int) k j t x hjr ex ht)
              have Ht := hid (fun t s => HT.out r x p k j t s Hrm.out)
              rw [fT_zero m (aJ L r p k j) x p] at hB
              have bsi := hb.size
              clear ex hjr hc2o
              go_wp2
              go_loopw [13] (fun i wr => ∃ t : Nat, t ≤ m ∧ t ≤ me ∧ i = .int .i64 t ∧ Has wr wo.heap.size (ints (rowF m (fT (aJ L r p k j) x p t))) 3 ∧ Below wo.heap.size wo wr) (fun i _ => m - (intOf i).toNat)
              case atStart => exact ⟨0, Nat.zero_le _, Nat.zero_le _, rfl, hB, hb⟩
              case round =>
                clear hB hb hc hc' hc2
                obtain ⟨t, htm, hte, rfl, hB, hb⟩ := hrel
                by_cases hlm : t < m
                · have ht0 : (0 : Int) ≤ t := by omega
                  have htm' : (t : Int) < m := by omega
                  by_cases hle2 : t < me
                  · have hte' : (t : Int) < me := by omega
                    have hEt := hE.below hb (Nat.le_refl _)
                    obtain ⟨be, oe, rfl⟩ := hEt.head (by omega)
                    have hcx := hEt.int t hle2
                    have htx : t < x.length := by rw [hxl.out]; exact hle2
                    have hrow := hB.cell (ints_get _ t (by rw [rowF_length]; exact hlm))
                    rw [rowF_get m _ t hlm] at hrow
                    have hfr := hB.free t
                    have hbl := hB.lt
                    have hft := Ht.out t t
                    have hyes := hid (fT_yes m (aJ L r p k j) x p t htx)
                    have hno := hid (fT_no m (aJ L r p k j) x p t htx)
                    obtain ⟨y, ey⟩ : ∃ y, y = x.getD t 0 := ⟨_, rfl⟩
                    rw [← ey] at hcx hyes hno
                    obtain ⟨g, eg⟩ : ∃ g, g = fT (aJ L r p k j) x p t t := ⟨_, rfl⟩
                    rw [← eg] at hrow hft hyes
                    have hg0 : (0 : Int) ≤ g := by omega
                    have hg1 : (g : Int) ≤ 20000000 := by omega
                    have hbs2 := bset hb (b := wo.heap.size) (o := t) (Nat.le_refl _) (.int .i64 ((g : Int) + 1))
                    have hB2 := hB.set t (.int .i64 ((g : Int) + 1))
                    rw [ints_set] at hB2
                    clear ey eg htx hEt hft
                    cases hyp : (y == (p : Int))
                    · rw [hno.out hyp] at hB
                      clear hyes hno hB2 hbs2
                      go_wp2
                      go_roundw
                      case rel => exact ⟨t + 1, by omega, by omega, by go_num, hB, hb⟩
                      case measure => simp [intOf]; omega
                    · rw [hyes.out hyp] at hB2
                      clear hyes hno hB hb
                      go_wp2
                      go_roundw
                      case rel => exact ⟨t + 1, by omega, by omega, by go_num, hB2, hbs2⟩
                      case measure => simp [intOf]; omega
                  · have hte2 : ¬ (t : Int) < me := by omega
                    rw [Hs.out t (Or.inr (by rw [hxl.out]; omega))] at hB
                    go_wp2
                    go_roundw
                    case rel => exact ⟨j + 1, by omega, by go_num, hB, hb⟩
                    case measure => simp [intOf]; omega
                · rw [Hs.out t (Or.inl (by omega))] at hB
                  have htm2 : ¬ (t : Int) < m := by omega
                  go_wp2
                  go_roundw
                  case rel => exact ⟨j + 1, by omega, by go_num, hB, hb⟩
                  case measure => simp [intOf]; omega
            · obtain rfl : j = nr := by omega
              rw [Hend.out j (by rw [hrl.out]; exact Nat.le_refl _)] at hB
              go_wp2
              go_roundw
              case rel => exact ⟨k + 1, by omega, by go_num, hB, hb⟩
              case measure => simp [intOf]; omega
        · obtain rfl : n = k := by omega
          rw [rowK_end L m p n (by rw [hl.out]; exact Nat.le_refl _)] at hB
          have hst := hid (balL_succ L p m)
          have hln := hid (balL_length L p m)
          obtain ⟨D, eD⟩ : ∃ D, D = balL L p m := ⟨_, rfl⟩
          rw [← eD] at ownO hst hln
          have hrl2 := balRow_length L m (p : Int)
          obtain ⟨row, erow⟩ : ∃ row, row = balRow L m (p : Int) := ⟨_, rfl⟩
          rw [← erow] at hB hst hrl2
          have hbl := hB.lt
          have hR4 : Rests IntsC (fun g => w.heap.size ≤ g ∧ u7.ownBlock ≠ some g) (wr.alloc (.cells #[.slice (some ⟨wo.heap.size, 0, none⟩) m m] 36)) (.slice (some ⟨wo.heap.size, 0, none⟩) m m) row := by
            have hgO := ownO.lt
            exact (rests_ints hB (S := fun g => w.heap.size ≤ g ∧ u7.ownBlock ≠ some g) ⟨bso, fun e => by have := (hgO _ e).2; omega⟩ hrl2 (by omega)).alloc _
          have ownO3 := (ownO.below hb (Nat.le_refl _)).alloc (.cells #[.slice (some ⟨wo.heap.size, 0, none⟩) m m] 36)
          have hbT := hbO.trans (hb.mono bso)
          have hb4 := hbT.alloc hbT.size (.cells #[.slice (some ⟨wo.heap.size, 0, none⟩) m m] 36)
          clear ownO hb hbO eD erow hB hbT hrl2
          go_wp2_with (at_builtin; go_must (refine wpList_append_run rfl (.tmp 83) (.tmp 85) 51 rfl u7 (.slice (some ⟨wr.heap.size, 0, none⟩) 1 1) (by rfl) (by rfl) (run_append1 _ w.heap.size 51 _ 36 i0 _ 24 Try.underlying51 hi hz0 hz1 hz2 rfl _ D ownO3 wr.heap.size 1 (.slice (some ⟨wo.heap.size, 0, none⟩) m m) row (by simp) rfl hR4 (by rw [hln.out, maxLen_eq]; omega) (by rw [hln.out]; omega) (by simp; omega)) ?_); rintro v5 w5 ⟨own5, b5, _, _⟩)
          have hb5 := hb4.trans b5
          clear ownO3 hb4 b5 hR4
          go_wp2
          go_roundw
          case rel => exact ⟨p + 1, by omega, by go_num, by rw [hst.out]; exact own5, hb5⟩
          case measure => simp [intOf]; omega
    · obtain rfl : N = p := by omega
      go_wp2
      go_ret
      exact ⟨_, rfl, ownO, hbO⟩
theorem rbalance_any (ad : Option Addr) (n cap : Nat) (L : List (List (List Int))) (N m : Int) (w : World) (hL : Modest49 L) (h : HeldL RoundC w ad n cap L) :
    Calls Try.prog 27 #[.slice ad n cap, .int .i64 N, .int .i64 m] w fun e w' => ∃ v, e = .returned v ∧ OwnL IntsC w.heap.size 36 w' v (balX L N m) ∧ Below w.heap.size w w' := by
  by_cases hoff : N < 1 ∨ 16 < N ∨ m < 1 ∨ 4 < m
  · exact rbal_off ad n cap L N m w hoff
  · obtain ⟨N', rfl⟩ := Int.eq_ofNat_of_zero_le (show 0 ≤ N by omega)
    obtain ⟨m', rfl⟩ := Int.eq_ofNat_of_zero_le (show 0 ≤ m by omega)
    have e : balX L N' m' = balL L N' m' := by unfold balX; rw [if_neg hoff]; simp
    rw [e]
    exact rbal_on ad n cap L N' m' w (by omega) (by omega) (by omega) (by omega) hL h
end Go.Proofs.Ytkdfplnoldckgaa
