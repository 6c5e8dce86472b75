/-
  The walk of Check.
-/
import Derived.Test.YtkdfplnoldckgaaRows
import Derived.Test.YtkdfplnoldckgaaSMem
import Derived.Test.YtkdfplnoldckgaaSPlain5
import Derived.WalkKit
import Derived.ProofKit
import Derived.OpenShut
import Derived.Deep.DeepMust
import Derived.Outline
namespace Go.Proofs.Ytkdfplnoldckgaa
open Go.ChangeShapes Go.WideShapes Go.ChangeAt Go.RowKit

theorem check_range (ad : Option Addr) (n cap : Nat) (N : Int) (L : List (List (List Int))) (w : World) (h : N < 1 ∨ 16 < N) :
    Calls Try.prog 22 #[.slice ad n cap, .int .i64 N] w fun e w' => e = .returned (.int .i64 (checkE N L)) ∧ Below w.heap.size w w' := by
  have hE : checkE N L = 12 := by unfold checkE; rw [if_pos h]
  rw [hE]
  rcases h with h | h
  · go_enter Try.func22, Try.ntmps22
    go_wp2
    go_ret
    exact ⟨rfl, Below.refl _ _⟩
  · have h1 : ¬ N < 1 := by omega
    go_enter Try.func22, Try.ntmps22
    go_wp2
    go_ret
    exact ⟨rfl, Below.refl _ _⟩
theorem check_none (ad : Option Addr) (cap : Nat) (N : Int) (w : World) (h1 : 1 ≤ N) (h2 : N ≤ 16) :
    Calls Try.prog 22 #[.slice ad 0 cap, .int .i64 N] w fun e w' => e = .returned (.int .i64 (checkE N [])) ∧ Below w.heap.size w w' := by
  rw [show checkE N [] = 0 from by unfold checkE; rw [if_neg (by omega)]; rfl]
  go_enter Try.func22, Try.ntmps22
  go_wp2
  refine wp_loop_rounds 1 ?_
  rw [rounds_succ]
  go_wp2
  go_ret
  exact ⟨rfl, Below.refl _ _⟩
set_option maxHeartbeats 8000000 in
theorem check_some (b o n cap : Nat) (N : Int) (L : List (List (List Int))) (w : World) (h1 : 1 ≤ N) (h2 : N ≤ 16) (h : HeldL RoundC w (some ⟨b, o, none⟩) n cap L) :
    Calls Try.prog 22 #[.slice (some ⟨b, o, none⟩) n cap, .int .i64 N] w fun e w' => e = .returned (.int .i64 (checkE N L)) ∧ Below w.heap.size w w' := by
  have hl := hid h.len
  have hle := h.le
  have hmx := h.max
  have hC := hid (show checkE N L = checkR N L by unfold checkE; rw [if_neg (by omega)])
  go_enter Try.func22, Try.ntmps22
  go_wp2
  go_loopw [22] (fun i wr => ∃ k : Nat, k ≤ n ∧ i = .int .i64 k ∧ Hid (checkE N L = checkR N (L.drop k)) ∧ Below w.heap.size w wr) (fun i _ => n - (intOf i).toNat)
  case atStart => exact ⟨0, Nat.zero_le _, rfl, hid (by rw [List.drop_zero]; exact hC.out), Below.refl _ _⟩
  case round =>
    obtain ⟨k, hk, rfl, hK, hb⟩ := hrel
    obtain ⟨wo, ewo⟩ : ∃ wo : World, wo = wr := ⟨_, rfl⟩
    rw [← ewo] at hb ⊢
    clear ewo
    by_cases hlt : k < n
    · obtain ⟨ar, nr, cr, hc, hR⟩ := (h.below hb (Nat.le_refl _)).elem k hlt
      have hk0 : (0 : Int) ≤ k := by omega
      have hkn : (k : Int) < n := by omega
      obtain ⟨r, er⟩ : ∃ r, r = L.getD k [] := ⟨_, rfl⟩
      rw [← er] at hR
      have hrl := hid hR.len
      have hrle := hR.le
      have hrmx := hR.max
      have hkL : k < L.length := by rw [hl.out]; exact hlt
      have hstop : ∀ c, roundE N [] r = c → c ≠ 0 → Hid (checkE N L = c) := fun c h1 h2 => hid (by rw [hK.out, checkR_stop hkL (er ▸ h1) h2])
      have hgo : roundE N [] r = 0 → Hid (checkE N L = checkR N (L.drop (k + 1))) := fun h1 => hid (by rw [hK.out, checkR_go hkL (er ▸ h1)])
      have Hstop := hid hstop
      have Hgo := hid hgo
      clear er hstop hgo hK hkL
      have bs := hb.size
      have hbz : Below wo.heap.size wo (wo.alloc (.cells (busyA []) 68)) := (Below.refl _ _).alloc (Nat.le_refl _) _
      have hbz1 : Below w.heap.size w (wo.alloc (.cells (busyA []) 68)) := hb.alloc bs _
      have hB0 : Has (wo.alloc (.cells (busyA []) 68)) wo.heap.size (busyA []) 68 := Has.new _ _ _
      rw [busyA_nil] at hbz hbz1
      have hBz : Has (wo.alloc (.cells #[.bool false, .bool false, .bool false, .bool false, .bool false, .bool false, .bool false, .bool false, .bool false, .bool false, .bool false, .bool false, .bool false, .bool false, .bool false, .bool false] 68)) wo.heap.size (busyA []) 68 := by rw [← busyA_nil]; exact hB0
      clear hB0
      go_wp2
      go_loopw [28] (fun i wr => ∃ (j : Nat) (seen : List Int), j ≤ nr ∧ i = .int .i64 j ∧ Hid (roundE N [] r = roundE N seen (r.drop j)) ∧ Has wr wo.heap.size (busyA seen) 68 ∧ Below wo.heap.size wo wr) (fun i _ => nr - (intOf i).toNat)
      case atStart => exact ⟨0, [], Nat.zero_le _, rfl, hid (by rw [List.drop_zero]), hBz, hbz⟩
      case round =>
        clear hBz hbz hbz1 hc
        obtain ⟨j, seen, hj, rfl, hJ, hBy, hbi⟩ := hrel
        obtain ⟨wi, ewi⟩ : ∃ wi : World, wi = wr := ⟨_, rfl⟩
        rw [← ewi] at hBy hbi ⊢
        clear ewi
        by_cases hjl : j < nr
        · obtain ⟨b2, o2, rfl⟩ := hR.head (by omega)
          obtain ⟨ae, me, ce, hc2o, hE⟩ := hR.elem j hjl
          have hc2 := (hbi.cell (p := ⟨b2, o2 + j, none⟩) (lt_of_cell hc2o)).trans hc2o
          have hj0 : (0 : Int) ≤ j := by omega
          have hjn : (j : Int) < nr := by omega
          obtain ⟨x, ex⟩ : ∃ x, x = r.getD j [] := ⟨_, rfl⟩
          rw [← ex] at hE
          have hjr : j < r.length := by rw [hrl.out]; exact hjl
          have Hs := hid (show ∀ c s', pairE N seen x = (c, s') → c ≠ 0 → Hid (checkE N L = c) from fun c s' h1 h2 => Hstop.out c (by rw [hJ.out]; exact roundE_stop hjr (ex ▸ h1) h2) h2)
          have Hg := hid (show ∀ s', pairE N seen x = (0, s') → Hid (roundE N [] r = roundE N s' (r.drop (j + 1))) from fun s' h1 => hid (by rw [hJ.out]; exact roundE_go hjr (ex ▸ h1)))
          have hxl := hid hE.len
          have hmle := hE.le
          have hmmx := hE.max
          clear ex hJ hjr hc2o
          have bsi := hbi.size
          have hbW : Below wo.heap.size wo (wi.alloc (.cells #[.slice ae me ce] 38)) := hbi.alloc bsi _
          have hbT : Below w.heap.size w (wi.alloc (.cells #[.slice ae me ce] 38)) := hb.trans (hbW.mono bs)
          have hByW := hBy.alloc (.cells #[.slice ae me ce] 38)
          have hEW := hE.below hbW (Nat.le_refl _)
          have hByl := hBy.lt
          by_cases hm1 : (me : Int) < 1
          · have hf := Hs.out 13 seen (pairE_len N seen x (by rw [hxl.out]; omega)) (by omega)
            clear hEW hByW hbW
            go_wp2
            go_ret
            exact ⟨ret_int hf.out.symm, hbT⟩
          by_cases hm4 : (4 : Int) < me
          · have hf := Hs.out 13 seen (pairE_len N seen x (by rw [hxl.out]; omega)) (by omega)
            clear hEW hByW hbW
            go_wp2
            go_ret
            exact ⟨ret_int hf.out.symm, hbT⟩
          have hlen : ¬ (x.length < 1 ∨ 4 < x.length) := by rw [hxl.out]; omega
          have Hlen := hid hlen
          clear hlen
          obtain ⟨be, oe, rfl⟩ := hEW.head (by omega)
          have hmp : (0 : Int) < me := by omega
          have hmq : (me : Int) ≤ 4 := by omega
          go_wp2
          go_loop [45] (fun i => ∃ q : Nat, q ≤ me ∧ i = .int .i64 q ∧ Hid (badB N (x.take q) = false)) (fun i => me - (intOf i).toNat)
          case atStart => exact ⟨0, Nat.zero_le _, rfl, hid rfl⟩
          case round =>
            obtain ⟨q, hq, rfl, hQ⟩ := hrel
            by_cases hql : q < me
            · have hcx := hEW.int q hql
              have hq0 : (0 : Int) ≤ q := by omega
              have hqn : (q : Int) < me := by omega
              obtain ⟨y, ey⟩ : ∃ y, y = x.getD q 0 := ⟨_, rfl⟩
              rw [← ey] at hcx
              have hqx : q < x.length := by rw [hxl.out]; exact hql
              have hbt := hid (badB_take N x q hqx)
              have hbtr := hid (badB_true N x q hqx)
              rw [← ey] at hbt hbtr
              clear ey hqx hEW
              by_cases hy0 : y < 0
              · have hf := Hs.out 13 seen (pairE_bad N seen x Hlen.out (hbtr.out (Or.inl hy0))) (by omega)
                clear hByW hbW
                go_wp2
                go_ret
                exact ⟨ret_int hf.out.symm, hbT⟩
              by_cases hyN : N ≤ y
              · have hf := Hs.out 13 seen (pairE_bad N seen x Hlen.out (hbtr.out (Or.inr hyN))) (by omega)
                clear hByW hbW
                go_wp2
                go_ret
                exact ⟨ret_int hf.out.symm, hbT⟩
              · go_wp2
                go_round
                case rel => exact ⟨q + 1, by omega, by go_num, hid (by rw [hbt.out, hQ.out]; simp; omega)⟩
                case measure => simp [intOf]; omega
            · obtain rfl : q = me := by omega
              have hbad : badB N x = false := by have := hQ.out; rwa [List.take_of_length_le (by rw [hxl.out]; exact Nat.le_refl _)] at this
              have Hin := hid (fun t (ht : t < x.length) => badB_false hbad t ht)
              have Hbad := hid hbad
              clear hbad hQ
              obtain ⟨wp, ewp⟩ : ∃ wp, wp = wi.alloc (.cells #[.slice (some ⟨be, oe, none⟩) q ce] 38) := ⟨_, rfl⟩
              have hpc : wp.cell? ⟨wi.heap.size, 0, none⟩ = some (.slice (some ⟨be, oe, none⟩) q ce) := by rw [ewp]; exact (Has.new _ _ _).cell (j := 0) rfl
              rw [← ewp] at hByW hEW hbW hbT ⊢
              clear ewp
              go_wp2
              go_loopw [60] (fun i wr => ∃ (t : Nat) (s : List Int), t ≤ q ∧ i = .int .i64 t ∧ Hid (seatsE seen x = seatsE s (x.drop t)) ∧ Has wr wo.heap.size (busyA s) 68 ∧ Below wo.heap.size wp wr) (fun i _ => q - (intOf i).toNat)
              case atStart => exact ⟨0, seen, Nat.zero_le _, rfl, hid (by rw [List.drop_zero]), hByW, Below.refl _ _⟩
              case round =>
                clear hByW
                obtain ⟨t, s, ht, rfl, hT, hBs, hbs⟩ := hrel
                have hbsW := hbW.trans hbs
                have hbsT := hbT.trans (hbs.mono bs)
                by_cases htl : t < q
                · have hEt := hE.below hbsW (Nat.le_refl _)
                  have hcx := hEt.int t htl
                  have ht0 : (0 : Int) ≤ t := by omega
                  have htn : (t : Int) < q := by omega
                  have htx : t < x.length := by rw [hxl.out]; exact htl
                  have hy := Hin.out t htx
                  obtain ⟨y, ey⟩ : ∃ y, y = x.getD t 0 := ⟨_, rfl⟩
                  rw [← ey] at hcx hy
                  obtain ⟨y, rfl⟩ := Int.eq_ofNat_of_zero_le hy.1
                  have hyb : y < 16 := by omega
                  have hy0 : (0 : Int) ≤ y := by omega
                  have hy16 : (y : Int) < 16 := by omega
                  have hcb := hBs.cell (busyA_get s y hyb)
                  have hfb := hBs.free y
                  have hbl := hBs.lt
                  cases hyB : hasB s (y : Int)
                  · rw [hyB] at hcb
                    have hn := hid (seatsE_yes s x t htx (by rw [← ey]; exact hyB))
                    rw [← ey] at hn
                    have hBs2 := hBs.set y (.bool true)
                    rw [busyA_set s y hyb] at hBs2
                    have hbs2 := bset hbs (b := wo.heap.size) (o := y) (Nat.le_refl _) (.bool true)
                    clear hEt ey htx hy hBs hbsW hbsT
                    go_wp2
                    go_roundw
                    case rel => exact ⟨t + 1, s ++ [(y : Int)], by omega, by go_num, hid (by rw [hT.out, hn.out]), hBs2, hbs2⟩
                    case measure => simp [intOf]; omega
                  · rw [hyB] at hcb
                    have hf := Hs.out 22 seen (pairE_twice N seen x Hlen.out Hbad.out (by rw [hT.out]; exact seatsE_no s x t htx (by rw [← ey]; exact hyB))) (by omega)
                    clear hEt ey htx hy hBs hbsW
                    go_wp2
                    go_ret
                    exact ⟨ret_int hf.out.symm, hbsT⟩
                · obtain rfl : t = q := by omega
                  have hnx := Hg.out s (pairE_ok N seen s x Hlen.out Hbad.out (by rw [hT.out]; exact seatsE_end s x t (by rw [hxl.out]; exact Nat.le_refl _)))
                  clear hbs hbsT hT hEW hbW hbT
                  go_wp2
                  go_roundw
                  case rel => exact ⟨j + 1, s, by omega, by go_num, hnx, hBs, hbsW⟩
                  case measure => simp [intOf]; omega
        · obtain rfl : j = nr := by omega
          have hfin := Hgo.out (by rw [hJ.out, roundE_end (by rw [hrl.out]; exact Nat.le_refl _)])
          have hb3 := hb.trans (hbi.mono bs)
          clear hbi hb hBy hJ
          go_wp2
          go_roundw
          case rel => exact ⟨k + 1, by omega, by go_num, hfin, hb3⟩
          case measure => simp [intOf]; omega
    · obtain rfl : k = n := by omega
      have hfin := hid (show checkE N L = 0 by rw [hK.out, checkR_end (by rw [hl.out]; exact Nat.le_refl _)])
      go_wp2
      go_ret
      exact ⟨ret_int hfin.out.symm, hb⟩
end Go.Proofs.Ytkdfplnoldckgaa
