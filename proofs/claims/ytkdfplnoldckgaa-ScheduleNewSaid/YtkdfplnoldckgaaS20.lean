/-
  The walks of has, met, bye and without of the reference.
-/
import Derived.Test.YtkdfplnoldckgaaRows
import Derived.Test.YtkdfplnoldckgaaSMem
import Derived.Test.YtkdfplnoldckgaaSPlain3
import Derived.Test.YtkdfplnoldckgaaS2
import Derived.Test.YtkdfplnoldckgaaS10
import Derived.Test.YtkdfplnoldckgaaS11
import Derived.WalkKit
import Derived.ProofKit
import Derived.OpenShut
import Derived.IntWalk
import Derived.Deep.DeepMust
import Derived.Outline
namespace Go.Proofs.Ytkdfplnoldckgaa
open Go.ChangeShapes Go.WideShapes Go.ChangeAt Go.RowKit

theorem rhas_none (ad : Option Addr) (cap : Nat) (p : Int) (w : World) :
    Calls Try.prog 40 #[.slice ad 0 cap, .int .i64 p] w fun e w' => e = .returned (.bool (hasB [] p)) ∧ w' = w := by
  rw [show (hasB [] p) = false from rfl]
  go_enter Try.func40, Try.ntmps40
  go_wp2
  refine wp_loop_rounds 1 ?_
  rw [rounds_succ]
  go_wp2
  go_ret
  exact ⟨rfl, rfl⟩

theorem rhas_some (b o n cap : Nat) (l : List Int) (p : Int) (w : World) (h : HeldL IntC w (some ⟨b, o, none⟩) n cap l) :
    Calls Try.prog 40 #[.slice (some ⟨b, o, none⟩) n cap, .int .i64 p] w fun e w' => e = .returned (.bool (hasB l p)) ∧ w' = w := by
  have hle := h.le
  have hmx := h.max
  have hl := hid h.len
  go_enter Try.func40, Try.ntmps40
  go_wp2
  go_loop [5] (fun i => ∃ k : Nat, k ≤ n ∧ i = .int .i64 k ∧ Hid (hasB (l.take k) p = false)) (fun i => n - (intOf i).toNat)
  case atStart => exact ⟨0, Nat.zero_le _, rfl, hid rfl⟩
  case round =>
    obtain ⟨k, hk, rfl, hf⟩ := hrel
    by_cases hlt : k < n
    · have hc := h.int k hlt
      have hk0 : (0 : Int) ≤ k := by omega
      have hkn : (k : Int) < n := by omega
      obtain ⟨x, ex⟩ : ∃ x, x = l.getD k 0 := ⟨_, rfl⟩
      rw [← ex] at hc
      have hst := hid (hasB_take l p k (by rw [hl.out]; exact hlt))
      have htr := hid (hasB_true l p k (by rw [hl.out]; exact hlt))
      have Hex := hid ex
      clear ex h
      cases hxp : (x == p)
      · go_wp2
        go_round
        case rel => exact ⟨k + 1, by omega, by go_num, hid (by rw [hst.out, hf.out, ← Hex.out, hxp]; rfl)⟩
        case measure => simp [intOf]; omega
      · go_wp2
        go_ret
        exact ⟨ret_bool (htr.out (by rw [← Hex.out]; exact hxp)).symm, rfl⟩
    · obtain rfl : k = n := by omega
      have hfa := hid (show hasB l p = false by rw [← hasB_all l p k (by rw [hl.out]; exact Nat.le_refl _)]; exact hf.out)
      go_wp2
      go_ret
      exact ⟨ret_bool hfa.out.symm, rfl⟩
theorem rhas_any (ad : Option Addr) (n cap : Nat) (l : List Int) (p : Int) (w : World) (h : HeldL IntC w ad n cap l) :
    Calls Try.prog 40 #[.slice ad n cap, .int .i64 p] w fun e w' => e = .returned (.bool (hasB l p)) ∧ w' = w := by
  by_cases h0 : n = 0
  · subst h0
    obtain rfl : l = [] := List.eq_nil_of_length_eq_zero h.len
    exact rhas_none ad cap p w
  · obtain ⟨b, o, rfl⟩ := h.head (by omega)
    exact rhas_some b o n cap l p w h

theorem rmet_none (ad : Option Addr) (cap : Nat) (a c : Int) (w : World) :
    Calls Try.prog 46 #[.slice ad 0 cap, .int .i64 a, .int .i64 c] w fun e w' => e = .returned (.bool (metB [] a c)) ∧ w' = w := by
  rw [show (metB [] a c) = false from rfl]
  go_enter Try.func46, Try.ntmps46
  go_wp2
  refine wp_loop_rounds 1 ?_
  rw [rounds_succ]
  go_wp2
  go_ret
  exact ⟨rfl, rfl⟩

set_option maxHeartbeats 1000000 in
theorem rmet_some (b o n cap : Nat) (L : List (List Int)) (a c : Int) (w : World) (h : HeldL IntsC w (some ⟨b, o, none⟩) n cap L) :
    Calls Try.prog 46 #[.slice (some ⟨b, o, none⟩) n cap, .int .i64 a, .int .i64 c] w fun e w' => e = .returned (.bool (metB L a c)) ∧ w' = w := by
  have hle := h.le
  have hmx := h.max
  have hl := hid h.len
  go_enter Try.func46, Try.ntmps46
  go_wp2
  go_loop [7] (fun i => ∃ k : Nat, k ≤ n ∧ i = .int .i64 k ∧ Hid (metB (L.take k) a c = false)) (fun i => n - (intOf i).toNat)
  case atStart => exact ⟨0, Nat.zero_le _, rfl, hid rfl⟩
  case round =>
    obtain ⟨k, hk, rfl, hf⟩ := hrel
    by_cases hlt : k < n
    · obtain ⟨ae, me, ce, hc, hE⟩ := h.elem k hlt
      have hk0 : (0 : Int) ≤ k := by omega
      have hkn : (k : Int) < n := by omega
      obtain ⟨x, ex⟩ : ∃ x, x = L.getD k [] := ⟨_, rfl⟩
      rw [← ex] at hE
      have hst := hid (metB_take L a c k (by rw [hl.out]; exact hlt))
      have htr := hid (metB_true L a c k (by rw [hl.out]; exact hlt))
      rw [← ex] at hst htr
      clear ex h
      cases hab : (a == c)
      · have hab2 : (a != c) = true := by simp [bne, hab]
        go_wp2_with fail
        refine (rhas_any ae me ce x a _ hE).mono ?_
        rintro e w2 ⟨rfl, rfl⟩
        cases hA : hasB x a
        · go_wp2
          go_round
          case rel => exact ⟨k + 1, by omega, by go_num, hid (by rw [hst.out, hf.out, metOne_a a c x hA]; rfl)⟩
          case measure => simp [intOf]; omega
        · go_wp2_with fail
          refine (rhas_any ae me ce x c _ hE).mono ?_
          rintro e w3 ⟨rfl, rfl⟩
          cases hC : hasB x c
          · go_wp2
            go_round
            case rel => exact ⟨k + 1, by omega, by go_num, hid (by rw [hst.out, hf.out, metOne_c a c x hC]; rfl)⟩
            case measure => simp [intOf]; omega
          · go_wp2
            go_ret
            exact ⟨ret_bool (htr.out (metOne_yes a c x hab hA hC)).symm, rfl⟩
      · have hab2 : (a != c) = false := by simp [bne, hab]
        go_wp2
        go_round
        case rel => exact ⟨k + 1, by omega, by go_num, hid (by rw [hst.out, hf.out, metOne_same a c x hab]; rfl)⟩
        case measure => simp [intOf]; omega
    · obtain rfl : k = n := by omega
      have hfa := hid (show metB L a c = false by rw [← List.take_of_length_le (show L.length ≤ k by rw [hl.out]; exact Nat.le_refl _)]; exact hf.out)
      go_wp2
      go_ret
      exact ⟨ret_bool hfa.out.symm, rfl⟩
theorem rmet_any (ad : Option Addr) (n cap : Nat) (L : List (List Int)) (a c : Int) (w : World) (h : HeldL IntsC w ad n cap L) :
    Calls Try.prog 46 #[.slice ad n cap, .int .i64 a, .int .i64 c] w fun e w' => e = .returned (.bool (metB L a c)) ∧ w' = w := by
  by_cases h0 : n = 0
  · subst h0
    obtain rfl : L = [] := List.eq_nil_of_length_eq_zero h.len
    exact rmet_none ad cap a c w
  · obtain ⟨b, o, rfl⟩ := h.head (by omega)
    exact rmet_some b o n cap L a c w h

theorem rbye_none (ad : Option Addr) (cap : Nat) (p : Int) (w : World) :
    Calls Try.prog 41 #[.slice ad 0 cap, .int .i64 p] w fun e w' => e = .returned (.bool (byeB [] p)) ∧ w' = w := by
  rw [show (byeB [] p) = false from rfl]
  go_enter Try.func41, Try.ntmps41
  go_wp2
  refine wp_loop_rounds 1 ?_
  rw [rounds_succ]
  go_wp2
  go_ret
  exact ⟨rfl, rfl⟩

set_option maxHeartbeats 1000000 in
theorem rbye_some (b o n cap : Nat) (L : List (List Int)) (p : Int) (w : World) (h : HeldL IntsC w (some ⟨b, o, none⟩) n cap L) :
    Calls Try.prog 41 #[.slice (some ⟨b, o, none⟩) n cap, .int .i64 p] w fun e w' => e = .returned (.bool (byeB L p)) ∧ w' = w := by
  have hle := h.le
  have hmx := h.max
  have hl := hid h.len
  go_enter Try.func41, Try.ntmps41
  go_wp2
  go_loop [5] (fun i => ∃ k : Nat, k ≤ n ∧ i = .int .i64 k ∧ Hid (byeB (L.take k) p = false)) (fun i => n - (intOf i).toNat)
  case atStart => exact ⟨0, Nat.zero_le _, rfl, hid rfl⟩
  case round =>
    obtain ⟨k, hk, rfl, hf⟩ := hrel
    by_cases hlt : k < n
    · obtain ⟨ae, me, ce, hc, hE⟩ := h.elem k hlt
      have hk0 : (0 : Int) ≤ k := by omega
      have hkn : (k : Int) < n := by omega
      obtain ⟨x, ex⟩ : ∃ x, x = L.getD k [] := ⟨_, rfl⟩
      rw [← ex] at hE
      have hst := hid (byeB_take L p k (by rw [hl.out]; exact hlt))
      have htr := hid (byeB_true L p k (by rw [hl.out]; exact hlt))
      rw [← ex] at hst htr
      have hxl := hE.len
      clear ex h
      cases h1 : ((me : Int) == 1)
      · have hw := hid (byeOne_len p x me hxl h1)
        clear hE hxl
        go_wp2
        go_round
        case rel => exact ⟨k + 1, by omega, by go_num, hid (by rw [hst.out, hf.out, hw.out]; rfl)⟩
        case measure => simp [intOf]; omega
      · obtain rfl : me = 1 := by simp at h1; omega
        obtain ⟨be, oe, rfl⟩ := hE.head (by omega)
        have hc0 := hE.int 0 (by omega)
        rw [Nat.add_zero] at hc0
        obtain ⟨y, ey⟩ : ∃ y, y = x.getD 0 0 := ⟨_, rfl⟩
        rw [← ey] at hc0
        have hv := fun bb hh => hid (byeOne_val p x bb hxl (by rw [← ey]; exact hh))
        clear hE hxl ey h1
        cases hyp : (y == p)
        · have hw := hv false hyp
          clear hv
          go_wp2
          go_round
          case rel => exact ⟨k + 1, by omega, by go_num, hid (by rw [hst.out, hf.out, hw.out]; rfl)⟩
          case measure => simp [intOf]; omega
        · have hw := hv true hyp
          clear hv
          go_wp2
          go_ret
          exact ⟨ret_bool (htr.out hw.out).symm, rfl⟩
    · obtain rfl : k = n := by omega
      have hfa := hid (show byeB L p = false by rw [← List.take_of_length_le (show L.length ≤ k by rw [hl.out]; exact Nat.le_refl _)]; exact hf.out)
      go_wp2
      go_ret
      exact ⟨ret_bool hfa.out.symm, rfl⟩
theorem rbye_any (ad : Option Addr) (n cap : Nat) (L : List (List Int)) (p : Int) (w : World) (h : HeldL IntsC w ad n cap L) :
    Calls Try.prog 41 #[.slice ad n cap, .int .i64 p] w fun e w' => e = .returned (.bool (byeB L p)) ∧ w' = w := by
  by_cases h0 : n = 0
  · subst h0
    obtain rfl : L = [] := List.eq_nil_of_length_eq_zero h.len
    exact rbye_none ad cap p w
  · obtain ⟨b, o, rfl⟩ := h.head (by omega)
    exact rbye_some b o n cap L p w h
set_option maxHeartbeats 1000000 in
theorem rwithout_some (b o n q : Nat) (cap : Nat) (adX : Option Addr) (hif : (if cap = q + 1 then (some ⟨b, o, none⟩ : Option Addr) else some ⟨b, o + (q + 1), none⟩) = adX) (l : List Int) (w : World) (hn : n ≤ 1000) (hq : q < n) (h : HeldL IntC w (some ⟨b, o, none⟩) n cap l) (hs : HeldL IntC w adX (n - (q + 1)) (cap - (q + 1)) (l.drop (q + 1))) :
    Calls Try.prog 42 #[.slice (some ⟨b, o, none⟩) n cap, .int .i64 q] w fun e w' => ∃ v, e = .returned v ∧ OwnL IntC w.heap.size 3 w' v (l.eraseIdx q) ∧ Below w.heap.size w w' := by
  obtain ⟨i0, hi, hz0, hz1, hz2⟩ := info_parts info_int
  have hcl := h.le
  have hcm := h.max
  have hq0 : (0 : Int) ≤ q := by omega
  have hqn' : (q : Int) ≤ n := by omega
  have hqn1 : (q : Int) < n := by omega
  have hqc : (q : Int) ≤ (cap : Nat) := by omega
  have hq10 : (0 : Int) ≤ (q : Int) + 1 := by omega
  have hq1n : (q : Int) + 1 ≤ n := by omega
  have hq1c : (q : Int) + 1 ≤ (cap : Nat) := by omega
  have hqt : ((q : Int) + 1).toNat = q + 1 := by omega
  have Hr := hid (show l.eraseIdx q = l.take q ++ l.drop (q + 1) from List.eraseIdx_eq_take_drop_succ l q)
  have ht := h.take q (by omega)
  have htl := ht.len
  have own0 : OwnL IntC w.heap.size 3 w (.slice none 0 0) [] := OwnL.nil _ _ _ _
  go_enter Try.func42, Try.ntmps42
  go_wp2_with (first
    | (at_builtin; refine wpList_append_run rfl (.tmp 6) (.tmp 9) 36 rfl (.slice none 0 0) _ (by rfl) (by rfl) (run_append_ints _ w.heap.size 36 _ 3 i0 _ 8 Try.underlying36 hi hz0 hz1 hz2 rfl _ [] own0 _ q _ (l.take q) ht (by rw [maxLen_eq]; simp; omega) (by simp; omega) (Nat.le_refl _)) ?_; rintro v1 w1 ⟨own1, b1, _, _⟩; rw [List.nil_append] at own1; have hs2 := hs.below b1 (Nat.le_refl _); obtain ⟨a1, c1, rfl, z1⟩ := own1.slice; clear z1; obtain ⟨l1, el1⟩ : ∃ l1, l1 = (l.take q).length := ⟨_, rfl⟩; rw [← el1] at own1 ⊢; clear el1)
    | (at_builtin; refine wpList_append_run rfl (.tmp 11) (.tmp 15) 36 rfl (.slice a1 l1 c1) _ (by rfl) (by rfl) (run_append_ints _ w.heap.size 36 _ 3 i0 _ 8 Try.underlying36 hi hz0 hz1 hz2 rfl _ (l.take q) own1 _ (n - (q + 1)) _ (l.drop (q + 1)) hs2 (by rw [htl, maxLen_eq]; omega) (by rw [htl]; omega) b1.size) ?_; rintro v2 w2 ⟨own2, b2, _, _⟩))
  go_ret
  exact ⟨_, rfl, by rw [Hr.out]; exact own2, b1.trans b2⟩
theorem rwithout_any (ad : Option Addr) (n cap q : Nat) (l : List Int) (w : World) (hn : n ≤ 1000) (hq : q < n) (h : HeldL IntC w ad n cap l) :
    Calls Try.prog 42 #[.slice ad n cap, .int .i64 q] w fun e w' => ∃ v, e = .returned v ∧ OwnL IntC w.heap.size 3 w' v (l.eraseIdx q) ∧ Below w.heap.size w w' := by
  obtain ⟨b, o, rfl⟩ := h.head (by omega)
  have hle := h.le
  by_cases hcq : cap = q + 1
  · obtain rfl : n = q + 1 := by omega
    refine rwithout_some b o (q + 1) q cap (some ⟨b, o, none⟩) (if_pos hcq) l w hn hq h ?_
    have e : l.drop (q + 1) = [] := List.drop_of_length_le (by rw [h.len]; exact Nat.le_refl _)
    rw [e, Nat.sub_self]
    exact HeldL.emptyAny _ _ (by have := h.max; omega)
  · exact rwithout_some b o n q cap _ (if_neg hcq) l w hn hq h (h.drop (q + 1) (by omega))
end Go.Proofs.Ytkdfplnoldckgaa
