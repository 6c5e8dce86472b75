/-
  The walk of the law ScheduleNew.
-/
import Derived.Test.YtkdfplnoldckgaaRows
import Derived.Test.YtkdfplnoldckgaaSMem
import Derived.Test.YtkdfplnoldckgaaSPlain13
import Derived.Test.YtkdfplnoldckgaaS12
import Derived.Test.YtkdfplnoldckgaaS17
import Derived.Test.YtkdfplnoldckgaaS18
import Derived.Test.YtkdfplnoldckgaaS23
import Derived.WalkKit
import Derived.ProofKit
import Derived.OpenShut
import Derived.Outline
import Derived.Deep.QuietTactic
import Derived.BigQuiet
import Derived.Deep.RegionHeld3
import Derived.Deep.DeepMust
namespace Go.Proofs.Ytkdfplnoldckgaa
open Go.ChangeShapes Go.WideShapes Go.ChangeAt Go.RowKit

theorem below_drew {w : World} (B k : Nat) : Below B w (w.drewN k) := ⟨rfl, rfl, rfl, Nat.le_refl _, fun _ _ => rfl⟩
theorem shortB_len {L : List (List Int)} (h : shortB L = true) : L.length ≤ 200 := by
  unfold shortB at h
  rw [Bool.and_eq_true, decide_eq_true_eq] at h
  exact h.2
set_option maxRecDepth 20000 in
set_option maxHeartbeats 16000000 in
theorem new_walk (ad ap : Option Addr) (n cap np cp : Nat) (ps : List Int) (L : List (List Int)) (w : World) (h : StdAt w ad n ps) (hp : HeldL IntsC w ap np cp L) :
    Calls Try.prog 5 #[.slice ad n cap, .slice ap np cp] w fun e w' => e = .returned (.bool true) ∧ Below w.heap.size w w' := by
  go_enter Try.func5, Try.ntmps5
  go_wp2_with fail
  refine (short_any ap np cp L _ hp).mono ?_
  rintro e w0 ⟨rfl, rfl⟩
  by_cases hoff : shortB L = false ∨ (8 < n ∧ 8 < np) ∨ 100 < n
  · obtain ⟨B, eB⟩ : ∃ B, B = shortB L := ⟨_, rfl⟩
    rw [← eB] at hoff ⊢
    clear eB
    have hguard : (B = false) ∨ (B = true ∧ (8 : Int) < n ∧ (8 : Int) < np) ∨ (B = true ∧ (8 : Int) < n ∧ ¬ (8 : Int) < np ∧ (100 : Int) < n) := by
      cases B
      · exact Or.inl rfl
      · rcases hoff with h1 | h1 | h1
        · cases h1
        · exact Or.inr (Or.inl ⟨rfl, by omega, by omega⟩)
        · by_cases h2 : 8 < np
          · exact Or.inr (Or.inl ⟨rfl, by omega, by omega⟩)
          · exact Or.inr (Or.inr ⟨rfl, by omega, by omega, by omega⟩)
    clear hoff
    rcases hguard with h1 | ⟨h1, h2, h3⟩ | ⟨h1, h2, h3, h4⟩
    all_goals
      subst h1
      go_wp2_with fail
      refine (awake_any _).mono ?_
      rintro e w1 ⟨rfl, b1⟩
      go_wp2
      go_ret
      exact ⟨rfl, b1⟩
  have hS : shortB L = true := by
    cases h1 : shortB L
    · exact absurd (Or.inl h1) hoff
    · rfl
  have hn100 : n ≤ 100 := by omega
  have hn100' : ¬ (100 : Int) < n := by omega
  have hguard : (8 : Int) < n ∧ ¬ (8 : Int) < np ∨ ¬ (8 : Int) < n := by omega
  have hL200 := hid (shortB_len hS)
  rw [hS]
  clear hS hoff
  rcases hguard with ⟨g1, g2⟩ | g1
  all_goals
    go_wp2_with fail
    refine (swiss_any ad ap n cap np cp 2 ps L _ h hp).mono ?_
    rintro e w1 ⟨v1, rfl, own1, b1⟩
    by_cases hc : (swiss ps L 2).1 = 0
    case neg =>
      rw [swiss_none hc] at own1
      obtain ⟨a1, p1, rfl, hh1⟩ := own1.slice
      have hcb : ((swiss ps L 2).1 == 0) = false := by simpa using hc
      obtain ⟨c, ec⟩ : ∃ c, c = (swiss ps L 2).1 := ⟨_, rfl⟩
      rw [← ec] at hcb ⊢
      clear own1 hh1 hc ec
      go_wp2_with fail
      refine (awake_any _).mono ?_
      rintro e w2 ⟨rfl, b2⟩
      have b12 := b1.trans (b2.mono b1.size)
      go_wp2
      go_ret
      exact ⟨rfl, b12⟩
    rw [hc]
    have hN := hid (swiss_new hc)
    have hCnt := hid (fun i hi => new_cnt hN.out i hi)
    obtain ⟨A, eA⟩ : ∃ A, A = (swiss ps L 2).2 := ⟨_, rfl⟩
    rw [← eA] at own1 hN hCnt
    clear eA hc
    obtain ⟨a1, p1, rfl, hA⟩ := own1.slice
    obtain ⟨m, em⟩ : ∃ m, m = A.length := ⟨_, rfl⟩
    rw [← em] at hA ⊢
    have hlm := hid em.symm
    have hflat := hid (show A.flatten.length = n by rw [hN.out.1.length_eq]; exact h.1)
    have hn16 : n ≤ 16 := by rw [← h.1]; exact hN.out.2.2.2.2
    have hm16 : m ≤ 16 := by have := new_len hN.out; rw [hflat.out] at this; omega
    have h1 := h.below b1 (Nat.le_refl _)
    have hp1 := hp.below b1 (Nat.le_refl _)
    have hAle := hA.le
    have hAmx := hA.max
    have hple := hp.le
    have hpmx := hp.max
    clear own1 em h hp
    go_wp2
    go_loopw [7, 8, 9] (fun s y i wr => ∃ (k S Y : Nat), k ≤ m ∧ i = .int .i64 k ∧ s = .int .i64 S ∧ y = .int .i64 Y ∧ S ≤ 100 ∧ Y ≤ k ∧ Hid (S = (A.take k).flatten.length) ∧ Hid (Y = byesN (A.take k)) ∧ Below w1.heap.size w1 wr) (fun _ _ i _ => m - (intOf i).toNat)
    case atStart => exact ⟨0, 0, 0, Nat.zero_le _, rfl, rfl, rfl, by omega, Nat.le_refl _, hid rfl, hid rfl, Below.refl _ _⟩
    case round =>
      obtain ⟨k, S, Y, hk, rfl, rfl, rfl, hS, hY, hS2, hY2, hb⟩ := hrel
      obtain ⟨wo, ewo⟩ : ∃ wo : World, wo = wr := ⟨_, rfl⟩
      rw [← ewo] at hb ⊢
      clear ewo
      by_cases hlt : k < m
      · have hAw := hA.below hb (Nat.le_refl _)
        obtain ⟨b, o, rfl⟩ := hAw.head (by omega)
        obtain ⟨ae, me, ce, hc, hE⟩ := hAw.elem k hlt
        have hk0 : (0 : Int) ≤ k := by omega
        have hkm : (k : Int) < m := by omega
        have hkA : k < A.length := by rw [hlm.out]; exact hlt
        have hxl := hE.len
        have hxle := hE.le
        have hxmx := hE.max
        have hok := hN.out.2.1 (A.getD k []) (getD_mem hkA)
        have hfl := hid (flat_take A k hkA)
        have hby := hid (byes_take A k hkA)
        have hfle := flat_take_le A (k + 1)
        rw [hfl.out, List.length_append, ← hS2.out, hflat.out] at hfle
        obtain ⟨x, ex⟩ : ∃ x, x = A.getD k [] := ⟨_, rfl⟩
        rw [← ex] at hE hxl hok hfl hby hfle
        clear ex hkA hAw
        rcases hok with ⟨hx1, hx2⟩ | ⟨hx1, hx2⟩
        · obtain rfl : me = 1 := by omega
          have hS3 := hid (show S + 1 = (A.take (k + 1)).flatten.length by rw [hfl.out, List.length_append, hx1, hS2.out])
          have hY3 := hid (show Y + 1 = byesN (A.take (k + 1)) by rw [hby.out, hY2.out]; unfold lone; rw [hx1]; rfl)
          obtain ⟨be, oe, rfl⟩ := hE.head (by omega)
          have c0 := hE.int 0 (by omega)
          rw [Nat.add_zero] at c0
          have hbyeN := hid (fun j hj h1 => bye_not hx2 j hj h1)
          obtain ⟨y, ey⟩ : ∃ y, y = x.getD 0 0 := ⟨_, rfl⟩
          rw [← ey] at c0 hbyeN
          have hS0 : (0 : Int) ≤ S := by omega
          have hS1 : (S : Int) ≤ 100 := by omega
          have hY0 : (0 : Int) ≤ Y := by omega
          have hY1 : (Y : Int) ≤ 16 := by omega
          clear hx2 hx1 hxl hfl hby ey hE
          have hlb := lt_of_cell c0
          have hlc := lt_of_cell hc
          go_wp2
          go_loopw [10] (fun i wr => ∃ j : Nat, j ≤ np ∧ i = .int .i64 j ∧ Below wo.heap.size wo wr) (fun i _ => np - (intOf i).toNat)
          case atStart => exact ⟨0, Nat.zero_le _, rfl, Below.refl _ _⟩
          case round =>
            obtain ⟨j, hj, rfl, hbi⟩ := hrel
            have hbd : Below w1.heap.size w1 wr := hb.trans (hbi.mono hb.size)
            by_cases hjl : j < np
            · have hpw := hp1.below hbd (Nat.le_refl _)
              obtain ⟨bp, op, rfl⟩ := hpw.head (by omega)
              obtain ⟨ar, nr, cr, hcr, hR⟩ := hpw.elem j hjl
              have hj0 : (0 : Int) ≤ j := by omega
              have hjn : (j : Int) < np := by omega
              have hjL : j < L.length := by rw [hpw.len]; exact hjl
              have hRl := hR.len
              have hRle := hR.le
              have hRmx := hR.max
              have hno := hid (hbyeN.out j hjL)
              obtain ⟨z, ez⟩ : ∃ z, z = L.getD j [] := ⟨_, rfl⟩
              rw [← ez] at hR hRl hno
              have c0' := (hbi.cell hlb).trans c0
              have hc' := (hbi.cell hlc).trans hc
              clear ez hpw hjL
              by_cases hz1 : nr = 1
              · subst hz1
                obtain ⟨bz, oz, rfl⟩ := hR.head (by omega)
                have cz := hR.int 0 (by omega)
                rw [Nat.add_zero] at cz
                have hyz : (z.getD 0 0 == y) = false := hno.out hRl
                obtain ⟨t, et⟩ : ∃ t, t = z.getD 0 0 := ⟨_, rfl⟩
                rw [← et] at cz hyz
                clear et hR hno hRl
                go_wp2
                go_quiet (fail)
                go_wp2
                go_roundw
                case rel => exact ⟨j + 1, by omega, by go_num, hbi.trans (below_drew _ _)⟩
                case measure => simp [intOf]; omega
              · have hz2 : ((nr : Int) == 1) = false := by simp; omega
                clear hR hno hRl
                go_wp2
                go_quiet (fail)
                go_wp2
                go_roundw
                case rel => exact ⟨j + 1, by omega, by go_num, hbi.trans (below_drew _ _)⟩
                case measure => simp [intOf]; omega
            · obtain rfl : j = np := by omega
              go_wp2
              go_roundw
              case rel => exact ⟨k + 1, S + 1, Y + 1, by omega, by go_num, by go_num, by go_num, by omega, by omega, hS3, hY3, hb.trans (hbi.mono hb.size)⟩
              case measure => simp [intOf]; omega
        · obtain rfl : me = 2 := by omega
          have hS3 := hid (show S + 2 = (A.take (k + 1)).flatten.length by rw [hfl.out, List.length_append, hx1, hS2.out])
          have hY3 := hid (show Y = byesN (A.take (k + 1)) by rw [hby.out, hY2.out]; unfold lone; rw [hx1]; rfl)
          obtain ⟨be, oe, rfl⟩ := hE.head (by omega)
          have c0 := hE.int 0 (by omega)
          have c1 := hE.int 1 (by omega)
          rw [Nat.add_zero] at c0
          have hmz := hid (meet_zero hx2)
          obtain ⟨y, ey⟩ : ∃ y, y = x.getD 0 0 := ⟨_, rfl⟩
          obtain ⟨z, ez⟩ : ∃ z, z = x.getD 1 0 := ⟨_, rfl⟩
          rw [← ey] at c0 hmz
          rw [← ez] at c1 hmz
          have hS0 : (0 : Int) ≤ S := by omega
          have hS1 : (S : Int) ≤ 100 := by omega
          have hLw := hp1.below hb (Nat.le_refl _)
          have hBw : Below wo.heap.size wo (wo.alloc (.cells #[.slice ap np cp] 30)) := (Below.refl _ _).alloc (Nat.le_refl _) _
          have hL2 : HeldL RoundC (wo.alloc (.cells #[.slice ap np cp] 30)) (some ⟨wo.heap.size, 0, none⟩) 1 1 [L] :=
            rests_one (Has.new _ _ _) trivial (hLw.below hBw (Nat.le_refl _))
          have c0a := (hBw.cell (lt_of_cell c0)).trans c0
          have c1a := (hBw.cell (lt_of_cell c1)).trans c1
          have hca := (hBw.cell (lt_of_cell hc)).trans hc
          have hHR : ∀ r ∈ [L], r.length ≤ 1000 := fun r hr => by rw [List.mem_singleton] at hr; subst hr; have := hL200.out; omega
          have HR := hid hHR
          clear hx2 hx1 hxl hfl hby ey ez hE hHR hLw
          go_wp2
          go_region_held3 (fun wx => wx.cell? ⟨b, o + k, none⟩ = some (.slice (some ⟨be, oe, none⟩) 2 ce) ∧ wx.cell? ⟨be, oe, none⟩ = some (.int .i64 y) ∧ wx.cell? ⟨be, oe + 1, none⟩ = some (.int .i64 z)) (first | exact ⟨hc, c0, c1⟩ | exact ⟨hca, c0a, c1a⟩ | exact ⟨hcb, c0b, c1b⟩)
            (first
              | (go_at_call 18; refine (meetings_any (some ⟨wo.heap.size, 0, none⟩) 1 1 [L] y z _ (by omega) HR.out ?_).mono ?_; exact hL2.below ⟨rfl, rfl, rfl, Nat.le_refl _, fun _ _ => rfl⟩ (Nat.le_refl _); rintro e w4 ⟨rfl, o4⟩; have o4 : Below (wo.alloc (.cells #[.slice ap np cp] 30)).heap.size (wo.alloc (.cells #[.slice ap np cp] 30)) w4 := ⟨o4.os, o4.tape, o4.output, o4.size, o4.block⟩; rw [hmz.out]; have hcb := (o4.cell (lt_of_cell hca)).trans hca; have c0b := (o4.cell (lt_of_cell c0a)).trans c0a; have c1b := (o4.cell (lt_of_cell c1a)).trans c1a; have bw4 := hb.trans ((hBw.trans (o4.mono hBw.size)).mono hb.size)))
          go_wp2
          go_roundw
          case rel => exact ⟨k + 1, S + 2, Y, by omega, by go_num, by go_num, rfl, by omega, by omega, hS3, hY3, bw4⟩
          case measure => simp [intOf]; omega
      · obtain rfl : k = m := by omega
        rw [List.take_of_length_le (by rw [hlm.out]; exact Nat.le_refl _), hflat.out] at hS2
        rw [List.take_of_length_le (by rw [hlm.out]; exact Nat.le_refl _), hN.out.2.2.1] at hY2
        have hSn := hid (show S = n from hS2.out)
        have hYn := hid (show Y = n % 2 by rw [hY2.out, h1.1])
        clear hS2 hY2
        go_wp2
        go_loopw [11] (fun i wr => ∃ a : Nat, a ≤ n ∧ i = .int .i64 a ∧ Below w1.heap.size w1 wr) (fun i _ => n - (intOf i).toNat)
        case atStart => exact ⟨0, Nat.zero_le _, rfl, hb⟩
        case round =>
          clear hb
          obtain ⟨a, ha, rfl, hb⟩ := hrel
          by_cases han : a < n
          · have ha0 : (0 : Int) ≤ a := by omega
            have han' : (a : Int) < n := by omega
            have hcnt := hid (hCnt.out a (by rw [h1.1]; exact han))
            obtain ⟨p, ep⟩ : ∃ p, p = ps.getD a 0 := ⟨_, rfl⟩
            rw [← ep] at hcnt
            have Ep := hid ep
            clear ep
            go_wp2
            go_loopw [12, 13] (fun c i wr => ∃ (j C : Nat), j ≤ k ∧ i = .int .i64 j ∧ c = .int .i64 C ∧ C ≤ 16 ∧ Hid (C = cntN (A.take j).flatten p) ∧ Below w1.heap.size w1 wr) (fun _ i _ => k - (intOf i).toNat)
            case atStart => exact ⟨0, 0, Nat.zero_le _, rfl, rfl, by omega, hid rfl, hb⟩
            case round =>
              clear hb
              obtain ⟨j, C, hj, rfl, rfl, hC, hC2, hb⟩ := hrel
              by_cases hjk : j < k
              · have hAw := hA.below hb (Nat.le_refl _)
                obtain ⟨b, o, rfl⟩ := hAw.head (by omega)
                obtain ⟨ae, me, ce, hc, hE⟩ := hAw.elem j hjk
                have hj0 : (0 : Int) ≤ j := by omega
                have hjk' : (j : Int) < k := by omega
                have hjA : j < A.length := by rw [hlm.out]; exact hjk
                have hxl := hE.len
                have hxle := hE.le
                have hxmx := hE.max
                have hfl := hid (flat_take A j hjA)
                have hfle := flat_take_le A (j + 1)
                rw [hfl.out, List.length_append, hflat.out] at hfle
                have hcle := cntN_le (A.take j).flatten p
                rw [← hC2.out] at hcle
                obtain ⟨x, ex⟩ : ∃ x, x = A.getD j [] := ⟨_, rfl⟩
                rw [← ex] at hE hxl hfl hfle
                obtain ⟨wo, ewo⟩ : ∃ wo : World, wo = wr := ⟨_, rfl⟩
                rw [← ewo] at hb hc hE ⊢
                have hlc := lt_of_cell hc
                have hxn := hid hxl
                have hcb : C + me ≤ 16 := by omega
                clear ex ewo hjA hAw hxl hfle hcle
                go_wp2
                go_loopw [12, 14] (fun c i wr => ∃ (t K : Nat), t ≤ me ∧ i = .int .i64 t ∧ c = .int .i64 K ∧ K ≤ C + t ∧ Hid (K = C + cntN (x.take t) p) ∧ Below wo.heap.size wo wr) (fun _ i _ => me - (intOf i).toNat)
                case atStart => exact ⟨0, C, Nat.zero_le _, rfl, rfl, Nat.le_refl _, hid rfl, Below.refl _ _⟩
                case round =>
                  obtain ⟨t, K, ht, rfl, rfl, hK, hK2, hbi⟩ := hrel
                  have hc' := (hbi.cell hlc).trans hc
                  by_cases htm : t < me
                  · have hEt := hE.below hbi (Nat.le_refl _)
                    obtain ⟨be, oe, rfl⟩ := hEt.head (by omega)
                    have cx := hEt.int t htm
                    have hst := (h1.below hb (Nat.le_refl _)).below hbi (Nat.le_refl _)
                    obtain ⟨bs, os, rfl⟩ := hst.head (by omega)
                    obtain ⟨_, _, _, _, _, cs, _⟩ := hst.at a han
                    rw [← Ep.out] at cs
                    have ht0 : (0 : Int) ≤ t := by omega
                    have htm' : (t : Int) < me := by omega
                    have hK0 : (0 : Int) ≤ K := by omega
                    have hK1 : (K : Int) ≤ 100 := by omega
                    have htk := hid (cntN_take x p t (by rw [hxn.out]; exact htm))
                    obtain ⟨y, ey⟩ : ∃ y, y = x.getD t 0 := ⟨_, rfl⟩
                    rw [← ey] at cx htk
                    clear ey hEt hst
                    cases hyp : (y == p)
                    · rw [hyp] at htk
                      have hK3 := hid (show K = C + cntN (x.take (t + 1)) p by rw [htk.out, hK2.out]; rfl)
                      clear htk
                      go_wp2
                      go_quiet (fail)
                      go_wp2
                      go_roundw
                      case rel => exact ⟨t + 1, K, by omega, by go_num, rfl, by omega, hK3, hbi.trans (below_drew _ _)⟩
                      case measure => simp [intOf]; omega
                    · rw [hyp] at htk
                      have hK3 := hid (show K + 1 = C + cntN (x.take (t + 1)) p by rw [htk.out, hK2.out]; rfl)
                      clear htk
                      go_wp2
                      go_quiet (fail)
                      go_wp2
                      go_roundw
                      case rel => exact ⟨t + 1, K + 1, by omega, by go_num, by go_num, by omega, hK3, hbi.trans (below_drew _ _)⟩
                      case measure => simp [intOf]; omega
                  · obtain rfl : t = me := by omega
                    have hC3 := hid (show K = cntN (A.take (j + 1)).flatten p by rw [hfl.out, cntN_append, ← hC2.out, hK2.out, List.take_of_length_le (by rw [hxn.out]; exact Nat.le_refl _)])
                    go_wp2
                    go_roundw
                    case rel => exact ⟨j + 1, K, by omega, by go_num, rfl, by omega, hC3, hb.trans (hbi.mono hb.size)⟩
                    case measure => simp [intOf]; omega
              · obtain rfl : j = k := by omega
                have hC1 : C = 1 := by rw [hC2.out, List.take_of_length_le (by rw [hlm.out]; exact Nat.le_refl _)]; exact hcnt.out
                have hC1' : ((C : Int) != 1) = false := by rw [hC1]; rfl
                clear hC1 hC2
                go_wp2
                go_roundw
                case rel => exact ⟨a + 1, by omega, by go_num, hb⟩
                case measure => simp [intOf]; omega
          · obtain rfl : a = n := by omega
            have hSn' : ((S : Int) == a) = true := by rw [hSn.out]; simp
            have hYn' : ((Y : Int) == (a : Int) % 2) = true := by rw [hYn.out]; simp
            go_wp2_with fail
            refine (awake_any _).mono ?_
            rintro e w5 ⟨rfl, b5⟩
            have b15 := b1.trans ((hb.trans (b5.mono hb.size)).mono b1.size)
            clear b5 hb
            go_wp2
            go_ret
            exact ⟨rfl, b15⟩
end Go.Proofs.Ytkdfplnoldckgaa
