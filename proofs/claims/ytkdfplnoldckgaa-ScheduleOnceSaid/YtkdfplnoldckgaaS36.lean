/-
  The walk of the law ScheduleOnce.
-/
import Derived.Test.YtkdfplnoldckgaaRows
import Derived.Test.YtkdfplnoldckgaaSMem
import Derived.Test.YtkdfplnoldckgaaSPlain12
import Derived.Test.YtkdfplnoldckgaaS9
import Derived.Test.YtkdfplnoldckgaaS12
import Derived.Test.YtkdfplnoldckgaaS18
import Derived.Test.YtkdfplnoldckgaaS24
import Derived.Test.YtkdfplnoldckgaaS30
import Derived.WalkKit
import Derived.ProofKit
import Derived.OpenShut
import Derived.Outline
namespace Go.Proofs.Ytkdfplnoldckgaa
open Go.ChangeShapes Go.WideShapes Go.ChangeAt Go.RowKit

theorem onceN_small {n s : Nat} (h16 : n ≤ 16) (hs4 : s ≤ 4) : onceN n s ≤ 1820 := by
  unfold onceN
  split
  · omega
  · have h := ch_small
    rw [List.all_eq_true] at h
    have h1 := h (n - 2) (by rw [List.mem_range]; omega)
    rw [List.all_eq_true] at h1
    have h2 := h1 (s - 2) (by rw [List.mem_range]; omega)
    simpa using h2
set_option maxRecDepth 20000 in
set_option maxHeartbeats 4000000 in
theorem once_walk (p q : Nat) (hp : p < 256) (hq : q < 256) (w : World) :
    Calls Try.prog 7 #[.int .u8 p, .int .u8 q] w fun e w' => e = .returned (.bool true) ∧ Below w.heap.size w w' := by
  have hp0 : (0 : Int) ≤ p := by omega
  have hp1 : (p : Int) < 256 := by omega
  have hq0 : (0 : Int) ≤ q := by omega
  have hq1 : (q : Int) < 256 := by omega
  go_enter Try.func7, Try.ntmps7
  go_wp2_with fail
  obtain ⟨n, en⟩ : ∃ n : Nat, (p : Int) % 18 = n := ⟨p % 18, by omega⟩
  obtain ⟨s, es⟩ : ∃ s : Nat, (q : Int) % 6 = s := ⟨q % 6, by omega⟩
  have hn18 : n < 18 := by omega
  have hs6 : s < 6 := by omega
  rw [en, es]
  clear en es
  refine (robin_any _ _ _).mono ?_
  rintro e w1 ⟨v, c, rfl, own, hc, b1⟩
  by_cases hE : (s : Int) < 2 ∨ 4 < (s : Int) ∨ (n : Int) < s ∨ 16 < (n : Int)
  · have e1 : robinL n s = [] := by unfold robinL; rw [if_pos hE]
    have e2 : robinE n s = 12 := by unfold robinE; rw [if_pos hE]
    rw [e1] at own
    rw [e2] at hc
    subst hc
    obtain ⟨a1, c1, rfl, h1⟩ := own.slice
    clear own h1 e1 e2 hE
    go_wp2_with fail
    refine (awake_any _).mono ?_
    rintro e w2 ⟨rfl, b2⟩
    have b12 := b1.trans (b2.mono b1.size)
    go_wp2
    go_ret
    exact ⟨rfl, b12⟩
  have hs2 : 2 ≤ s := by omega
  have hs4 : s ≤ 4 := by omega
  have hsn : s ≤ n := by omega
  have hn16 : n ≤ 16 := by omega
  have e2 : robinE n s = 0 := by unfold robinE; rw [if_neg hE]
  rw [e2] at hc
  subst hc
  have hM : Hid (Modest49 (robinL n s)) := hid (robin_modest hs2 hs4 hsn hn16)
  have hD : Hid (Modest49 (dblL (robinL n s))) := hid (dbl_modest (by have := (robin_small hs2 hs4 hsn hn16).1; omega) (robin_small hs2 hs4 hsn hn16).2)
  have hC := hid (check_robin hs2 hs4 hsn hn16)
  have hO := hid (once_any hs2 hs4 hsn hn16)
  have hO2 := hid (fun (a b : Nat) ha hb hab => (meetN_dbl (robinL n s) a b).trans (congrArg (2 * ·) (hO.out a b ha hb hab)))
  have h0 : 0 < onceN n s := onceN_pos hs2 hsn
  have htwo : s = 2 → onceN n s = 1 := fun e => by subst e; rfl
  have hup : onceN n s ≤ 1820 := onceN_small hn16 hs4
  obtain ⟨f, ef⟩ : ∃ f, f = onceN n s := ⟨_, rfl⟩
  simp only [← ef] at hO hO2 h0 htwo hup
  obtain ⟨L, eL⟩ : ∃ L, L = robinL n s := ⟨_, rfl⟩
  rw [← eL] at own hM hD hC hO hO2
  have Htwo := hid htwo
  clear eL ef e2 hE htwo
  obtain ⟨a1, c1, rfl, h1⟩ := own.slice
  obtain ⟨l1, el1⟩ : ∃ l1, l1 = L.length := ⟨_, rfl⟩
  rw [← el1] at h1 ⊢
  have hl1 : l1 ≤ 10000 := by rw [el1]; exact hM.out.1
  clear own el1
  go_wp2_with fail
  refine (double_any a1 l1 c1 L _ hM.out h1).mono ?_
  rintro e w2 ⟨v2, rfl, own2, b2⟩
  have b12 := b1.trans (b2.mono b1.size)
  have h12 := h1.below b2 (Nat.le_refl _)
  obtain ⟨a2, c2, rfl, h2⟩ := own2.slice
  obtain ⟨D, eD⟩ : ∃ D, D = dblL L := ⟨_, rfl⟩
  rw [← eD] at h2 hD hC hO2 ⊢
  obtain ⟨l2, el2⟩ : ∃ l2, l2 = D.length := ⟨_, rfl⟩
  rw [← el2] at h2 ⊢
  have hl2 : l2 ≤ 10000 := by rw [el2]; exact hD.out.1
  have hMr := hid (fun r hr => (hM.out.2 r hr).1)
  have hDr := hid (fun r hr => (hD.out.2 r hr).1)
  clear own2 el2 eD b1 b2 h1 hM hD
  go_wp2_with fail
  refine (meetings_any a1 l1 c1 L 0 1 _ hl1 hMr.out h12).mono ?_
  rintro e w3 ⟨rfl, b3⟩
  have b13 := b12.trans (b3.mono b12.size)
  have h13 := h12.below b3 (Nat.le_refl _)
  have h23 := h2.below b3 (Nat.le_refl _)
  rw [show meetN L 0 1 = f from hO.out 0 1 (by omega) (by omega) (by omega)]
  clear b12 b3 h12 h2
  have hf0 : (0 : Int) < f := by omega
  go_wp2
  go_loopw [11] (fun i wr => ∃ a : Nat, a ≤ n ∧ i = .int .i64 a ∧ Below w3.heap.size w3 wr) (fun i _ => n - (intOf i).toNat)
  case atStart => exact ⟨0, Nat.zero_le _, rfl, Below.refl _ _⟩
  case round =>
    obtain ⟨a, ha, rfl, hb⟩ := hrel
    by_cases hlt : a < n
    · have ha0 : (0 : Int) ≤ a := by omega
      have han : (a : Int) < n := by omega
      go_wp2
      go_loopw [12] (fun i wr => ∃ b : Nat, b ≤ n ∧ i = .int .i64 b ∧ Below w3.heap.size w3 wr) (fun i _ => n - (intOf i).toNat)
      case atStart => exact ⟨0, Nat.zero_le _, rfl, hb⟩
      case round =>
        clear hb
        obtain ⟨b, hbn, rfl, hb⟩ := hrel
        by_cases hbl : b < n
        · have hb0 : (0 : Int) ≤ b := by omega
          have hbn' : (b : Int) < n := by omega
          go_wp2_with fail
          refine (meetings_any a1 l1 c1 L a b _ hl1 hMr.out (h13.below hb (Nat.le_refl _))).mono ?_
          rintro e w4 ⟨rfl, b4⟩
          have b34 := hb.trans (b4.mono hb.size)
          clear b4
          by_cases hab : a = b
          · have hab' : ((a : Int) != (b : Int)) = false := by simp [hab]
            subst hab
            go_wp2
            go_roundw
            case rel => exact ⟨a + 1, by omega, by go_num, b34⟩
            case measure => simp [intOf]; omega
          · have hab' : ((a : Int) != (b : Int)) = true := by simp; omega
            have hab2 : ((a : Int) == (b : Int)) = false := by simp; omega
            have hab3 : decide (a = b) = false := by simp; omega
            rw [hO.out a b hlt hbl hab]
            have hd2 := hid (hO2.out a b hlt hbl hab)
            have hf1 : (f : Int) ≤ 1820 := by omega
            have hsf : (((s : Int) == 2) = true ∧ ((f : Int) != 1) = false) ∨ ((s : Int) == 2) = false := by
              by_cases e : s = 2
              · have := Htwo.out e
                subst e this
                exact Or.inl ⟨rfl, rfl⟩
              · exact Or.inr (by simp; omega)
            rcases hsf with ⟨hs3, hf3⟩ | hs3
            all_goals
              go_wp2_with fail
              refine (meetings_any a2 l2 c2 D a b _ hl2 hDr.out (h23.below b34 (Nat.le_refl _))).mono ?_
              rintro e w5 ⟨rfl, b5⟩
              rw [hd2.out]
              have b35 := b34.trans (b5.mono b34.size)
              clear b5 b34 hb
              go_wp2
              go_roundw
              case rel => exact ⟨b + 1, by omega, by go_num, b35⟩
              case measure => simp [intOf]; omega
        · obtain rfl : b = n := by omega
          go_wp2
          go_roundw
          case rel => exact ⟨a + 1, by omega, by go_num, hb⟩
          case measure => simp [intOf]; omega
    · obtain rfl : a = n := by omega
      go_wp2_with fail
      refine (check_any a1 l1 c1 a L _ (h13.below hb (Nat.le_refl _))).mono ?_
      rintro e w4 ⟨rfl, b4⟩
      rw [hC.out.1]
      have b34 := hb.trans (b4.mono hb.size)
      clear b4 hb
      go_wp2_with fail
      refine (check_any a2 l2 c2 a D _ (h23.below b34 (Nat.le_refl _))).mono ?_
      rintro e w5 ⟨rfl, b5⟩
      rw [hC.out.2]
      have b35 := b34.trans (b5.mono b34.size)
      clear b5 b34
      go_wp2_with fail
      refine (awake_any _).mono ?_
      rintro e w6 ⟨rfl, b6⟩
      have b36 := b35.trans (b6.mono b35.size)
      have bW := b13.trans (b36.mono b13.size)
      clear b6 b35 b36
      go_wp2
      go_ret
      exact ⟨rfl, bW⟩
end Go.Proofs.Ytkdfplnoldckgaa
