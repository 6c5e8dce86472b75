/-
  The walks of rested and without.
-/
import Derived.Test.YtkdfplnoldckgaaRows
import Derived.Test.YtkdfplnoldckgaaSMem
import Derived.Test.YtkdfplnoldckgaaSPlain3
import Derived.Test.YtkdfplnoldckgaaS2
import Derived.Test.YtkdfplnoldckgaaS10
import Derived.WalkKit
import Derived.ProofKit
import Derived.OpenShut
import Derived.Deep.QuietTactic
import Derived.Deep.RegionHeld3
import Derived.Deep.DrawnRows
import Derived.BigQuiet
import Derived.IntWalk
import Derived.Deep.DeepMust
import Derived.Outline
namespace Go.Proofs.Ytkdfplnoldckgaa
open Go.ChangeShapes Go.WideShapes Go.ChangeAt Go.RowKit
attribute [local go_sem ↓] Go.wp_at_zero Go.wp_at_succ
theorem byeOne_len (p : Int) (l : List Int) (n : Nat) (hl : l.length = n) (h : ((n : Int) == 1) = false) : byeOne p l = false := by
  unfold byeOne; rw [hl]
  have : (n == 1) = false := by simp at h ⊢; omega
  rw [this]; rfl
theorem byeOne_val (p : Int) (l : List Int) (b : Bool) (hl : l.length = 1) (h : (l.getD 0 0 == p) = b) : byeOne p l = b := by
  unfold byeOne; rw [hl, h]; rfl
theorem rested_none (ad : Option Addr) (cap : Nat) (p : Int) (w : World) :
    Calls Try.prog 37 #[.slice ad 0 cap, .int .i64 p] w fun e w' => e = .returned (.bool (byeB [] p)) ∧ Below w.heap.size w w' := by
  rw [show byeB [] p = false from rfl]
  go_enter Try.func37, Try.ntmps37
  go_wp2
  refine wp_loop_rounds 1 ?_
  rw [rounds_succ]
  go_wp2
  go_ret
  exact ⟨rfl, Below.refl _ _⟩
set_option maxHeartbeats 1000000 in
theorem rested_some (b o n cap : Nat) (L : List (List Int)) (p : Int) (w : World) (h : HeldL IntsC w (some ⟨b, o, none⟩) n cap L) :
    Calls Try.prog 37 #[.slice (some ⟨b, o, none⟩) n cap, .int .i64 p] w fun e w' => e = .returned (.bool (byeB L p)) ∧ Below w.heap.size w w' := by
  have hle := h.le
  have hmx := h.max
  have hl := hid h.len
  go_enter Try.func37, Try.ntmps37
  go_wp2
  go_loopw [9] (fun i wr => ∃ k : Nat, k ≤ n ∧ i = .int .i64 k ∧ Below w.heap.size w wr ∧ Hid (byeB (L.take k) p = false)) (fun i _ => n - (intOf i).toNat)
  case atStart => exact ⟨0, Nat.zero_le _, rfl, Below.refl _ _, hid rfl⟩
  case round =>
    obtain ⟨k, hk, rfl, hb, hf⟩ := hrel
    by_cases hlt : k < n
    · obtain ⟨ae, me, ce, hc, hE⟩ := (h.below hb (Nat.le_refl _)).elem k hlt
      have hk0 : (0 : Int) ≤ k := by omega
      have hkn : (k : Int) < n := by omega
      obtain ⟨x, ex⟩ : ∃ x, x = L.getD k [] := ⟨_, rfl⟩
      rw [← ex] at hE
      have hst := hid (byeB_take L p k (by rw [hl.out]; exact hlt))
      have htr := hid (byeB_true L p k (by rw [hl.out]; exact hlt))
      rw [← ex] at hst htr
      have bs := hb.size
      have bW : Below wr.heap.size wr (wr.alloc (.cells #[.slice ae me ce] 38)) := (Below.refl _ _).alloc (Nat.le_refl _) _
      have hb1 := hb.alloc bs (.cells #[.slice ae me ce] 38)
      have hE1 := hE.below bW (Nat.le_refl _)
      have hxl := hE1.len
      clear ex h hE bW
      cases h1 : ((me : Int) == 1)
      · have hw := hid (byeOne_len p x me hxl h1)
        clear hE1 hb hxl
        go_wp2
        go_roundw
        case rel => exact ⟨k + 1, by omega, by go_num, hb1, hid (by rw [hst.out, hf.out, hw.out]; rfl)⟩
        case measure => simp [intOf]; omega
      · obtain rfl : me = 1 := by simp at h1; omega
        obtain ⟨be, oe, rfl⟩ := hE1.head (by omega)
        have hc0 := hE1.int 0 (by omega)
        rw [Nat.add_zero] at hc0
        obtain ⟨y, ey⟩ : ∃ y, y = x.getD 0 0 := ⟨_, rfl⟩
        rw [← ey] at hc0
        have hv := fun bb hh => hid (byeOne_val p x bb hxl (by rw [← ey]; exact hh))
        clear hE1 hb hxl ey h1
        cases hyp : (y == p)
        · have hw := hv false hyp
          clear hv
          go_wp2
          go_roundw
          case rel => exact ⟨k + 1, by omega, by go_num, hb1, hid (by rw [hst.out, hf.out, hw.out]; rfl)⟩
          case measure => simp [intOf]; omega
        · have hw := hv true hyp
          clear hv
          go_wp2
          go_ret
          exact ⟨ret_bool (htr.out hw.out).symm, hb1⟩
    · obtain rfl : k = n := by omega
      have hfa := hid (show byeB L p = false by rw [← List.take_of_length_le (show L.length ≤ k by rw [hl.out]; exact Nat.le_refl _)]; exact hf.out)
      go_wp2
      go_ret
      exact ⟨ret_bool hfa.out.symm, hb⟩
theorem rested_any (ad : Option Addr) (n cap : Nat) (L : List (List Int)) (p : Int) (w : World) (h : HeldL IntsC w ad n cap L) :
    Calls Try.prog 37 #[.slice ad n cap, .int .i64 p] w fun e w' => e = .returned (.bool (byeB L p)) ∧ Below w.heap.size w w' := by
  by_cases h0 : n = 0
  · subst h0
    obtain rfl : L = [] := List.eq_nil_of_length_eq_zero h.len
    exact rested_none ad cap p w
  · obtain ⟨b, o, rfl⟩ := h.head (by omega)
    exact rested_some b o n cap L p w h

set_option maxRecDepth 100000 in
set_option maxHeartbeats 1000000 in
theorem without_some (b o n q : Nat) (cap : Nat) (adX : Option Addr) (hif : (if cap = q + 1 then (some ⟨b, o, none⟩ : Option Addr) else some ⟨b, o + (q + 1), none⟩) = adX) (l : List Int) (w : World) (hn : n ≤ 1000) (hq : q < n) (h : HeldL IntC w (some ⟨b, o, none⟩) n cap l) (hs : HeldL IntC w adX (n - (q + 1)) (cap - (q + 1)) (l.drop (q + 1))) :
    Calls Try.prog 38 #[.slice (some ⟨b, o, none⟩) n cap, .int .i64 q] w fun e w' => ∃ v, e = .returned v ∧ OwnL IntC w.heap.size 3 w' v (l.eraseIdx q) ∧ Below w.heap.size w w' := by
  obtain ⟨i0, hi, hz0, hz1, hz2⟩ := info_parts info_int
  have hcl := h.le
  have hcm := h.max
  have hq0 : (0 : Int) ≤ q := by omega
  have hqn' : (q : Int) ≤ n := by omega
  have hqn1 : (q : Int) < n := by omega
  have hqc : (q : Int) ≤ (cap : Nat) := by omega
  have hq10 : (0 : Int) ≤ (q : Int) + 1 := by omega
  have hq1n : (q : Int) + 1 ≤ n := by omega
  have hq1c : (q : Int) + 1 ≤ (cap : Nat) := by omega
  have hw1 : IntKind.i64.wrap ((q : Int) + 1) = (q : Int) + 1 := IntWalk.i64_in _ (by omega)
  have hqt : ((q : Int) + 1).toNat = q + 1 := by omega
  have Hr := hid (show l.eraseIdx q = l.take q ++ l.drop (q + 1) from List.eraseIdx_eq_take_drop_succ l q)
  have ht := h.take q (by omega)
  have own0 : OwnL IntC w.heap.size 3 (w.alloc (.cells #[] 3)).drew (.slice (some ⟨w.heap.size, 0, none⟩) 0 0) [] := (OwnL.made IntC _ _ w (Nat.le_refl _)).drew
  have b0 : Below w.heap.size w (w.alloc (.cells #[] 3)).drew := ((Below.refl _ w).alloc (Nat.le_refl _) _).drew
  have ht1 := ht.below b0 (Nat.le_refl _)
  have hs1 := hs.below b0 (Nat.le_refl _)
  have htl := ht.len
  have bs0 := b0.size
  go_enter Try.func38, Try.ntmps38
  go_wp2
  go_region_held3 (fun _ => True) (exact trivial) (first
    | (refine step_append_run rfl (.tmp 5) (.tmp 8) 36 rfl (.slice (some ⟨w.heap.size, 0, none⟩) 0 0) _ (by rfl) (by rfl) (run_append_ints _ w.heap.size 36 _ 3 i0 _ 8 Try.underlying36 hi hz0 hz1 hz2 rfl _ [] own0 _ q _ (l.take q) ht1 (by rw [maxLen_eq]; simp; omega) (by simp; omega) bs0) ?_; rintro v1 w1 ⟨own1, b1, _, _⟩; rw [List.nil_append] at own1; have bb1 := b0.trans b1; have hs2 := hs.below bb1 (Nat.le_refl _))
    | (refine step_append_run rfl (.tmp 9) (.tmp 13) 36 rfl v1 _ (by rfl) (by rfl) (run_append_ints _ w.heap.size 36 _ 3 i0 _ 8 Try.underlying36 hi hz0 hz1 hz2 rfl _ (l.take q) own1 _ (n - (q + 1)) _ (l.drop (q + 1)) hs2 (by rw [htl, maxLen_eq]; omega) (by rw [htl]; omega) bb1.size) ?_; rintro v2 w2 ⟨own2, b2, _, _⟩))
  go_wp2
  go_ret
  exact ⟨_, rfl, by rw [Hr.out]; exact own2, bb1.trans b2⟩

theorem HeldL.emptyAny {w : World} (ad : Option Addr) (cap : Nat) (hc : (cap : Int) ≤ 9223372036854775807) : HeldL IntC w ad 0 cap [] := fun _ _ => ⟨ad, 0, cap, rfl, rfl, Nat.zero_le _, hc, fun i hi => by simp at hi⟩
theorem without_any (ad : Option Addr) (n cap q : Nat) (l : List Int) (w : World) (hn : n ≤ 1000) (hq : q < n) (h : HeldL IntC w ad n cap l) :
    Calls Try.prog 38 #[.slice ad n cap, .int .i64 q] w fun e w' => ∃ v, e = .returned v ∧ OwnL IntC w.heap.size 3 w' v (l.eraseIdx q) ∧ Below w.heap.size w w' := by
  obtain ⟨b, o, rfl⟩ := h.head (by omega)
  have hle := h.le
  by_cases hcq : cap = q + 1
  · obtain rfl : n = q + 1 := by omega
    refine without_some b o (q + 1) q cap (some ⟨b, o, none⟩) (if_pos hcq) l w hn hq h ?_
    have e : l.drop (q + 1) = [] := List.drop_of_length_le (by rw [h.len]; exact Nat.le_refl _)
    rw [e, Nat.sub_self]
    exact HeldL.emptyAny _ _ (by have := h.max; omega)
  · exact without_some b o n q cap _ (if_neg hcq) l w hn hq h (h.drop (q + 1) (by omega))
end Go.Proofs.Ytkdfplnoldckgaa
