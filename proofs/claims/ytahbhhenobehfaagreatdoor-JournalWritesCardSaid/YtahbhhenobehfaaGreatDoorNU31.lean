/-
  The walks of Ints, Terms and Same on lists and records that are equal.
-/
import Derived.Test.YtahbhhenobehfaaGreatDoorM40
import Derived.BigRegion
import Derived.Deep.RegionHeld3
namespace Go.Proofs.YtahbhhenobehfaaGreatDoor
open Go.ChangeShapes Go.WideShapes Go.ChangeAt Go.RowKit

theorem ints_none (a1 a2 : Option Addr) (c1 c2 : Nat) (w : World) :
    Calls Tryz.prog 55 #[.slice a1 0 c1, .slice a2 0 c2] w fun e w' => e = .returned (.bool true) ∧ Below w.heap.size w w' := by
  go_enter Tryz.func55, Tryz.ntmps55
  go_wp2
  refine wp_loop_rounds 1 ?_
  rw [rounds_succ]
  go_wp2
  go_ret
  exact ⟨rfl, Below.refl _ _⟩
set_option maxHeartbeats 1000000 in
theorem ints_some (b1 o1 b2 o2 : Nat) (n c1 c2 : Nat) (l : List Int) (w : World) (h1 : HeldL IntC w (some ⟨b1, o1, none⟩) n c1 l) (h2 : HeldL IntC w (some ⟨b2, o2, none⟩) n c2 l) :
    Calls Tryz.prog 55 #[.slice (some ⟨b1, o1, none⟩) n c1, .slice (some ⟨b2, o2, none⟩) n c2] w fun e w' => e = .returned (.bool true) ∧ Below w.heap.size w w' := by
  have hm : (n : Int) ≤ 9223372036854775807 := by have := h1.le; have := h1.max; omega
  go_enter Tryz.func55, Tryz.ntmps55
  go_wp2
  go_loopw [5, 13] (fun _ i wr => ∃ k : Nat, k ≤ n ∧ i = .int .i64 k ∧ Below w.heap.size w wr) (fun _ i _ => n - (intOf i).toNat)
  case atStart => exact ⟨0, Nat.zero_le _, rfl, Below.refl _ _⟩
  case round =>
    obtain ⟨k, hk, rfl, hb⟩ := hrel
    by_cases hlt : k < n
    · have d1 := (h1.below hb (Nat.le_refl _)).int k hlt
      have d2 := (h2.below hb (Nat.le_refl _)).int k hlt
      obtain ⟨x, ex⟩ : ∃ x, x = l.getD k 0 := ⟨_, rfl⟩
      rw [← ex] at d1 d2
      have hk0 : (0 : Int) ≤ k := by omega
      have hkn : (k : Int) < n := by omega
      have hb' := hid hb.drew
      clear ex hb h1 h2
      go_wp2
      go_region
      go_wp2
      go_roundw
      case rel => exact ⟨k + 1, by omega, by go_num, hb'.out⟩
      case measure => simp [intOf]; omega
    · obtain rfl : n = k := by omega
      clear h1 h2
      go_wp2
      go_ret
      exact ⟨rfl, hb⟩
theorem ints_any (a1 a2 : Option Addr) (n1 n2 c1 c2 : Nat) (l : List Int) (w : World) (h1 : HeldL IntC w a1 n1 c1 l) (h2 : HeldL IntC w a2 n2 c2 l) :
    Calls Tryz.prog 55 #[.slice a1 n1 c1, .slice a2 n2 c2] w fun e w' => e = .returned (.bool true) ∧ Below w.heap.size w w' := by
  obtain rfl : n1 = n2 := h1.len.symm.trans h2.len
  by_cases h0 : n1 = 0
  · subst h0; exact ints_none a1 a2 c1 c2 w
  · obtain ⟨b1, o1, rfl⟩ := h1.head (by omega)
    obtain ⟨b2, o2, rfl⟩ := h2.head (by omega)
    exact ints_some b1 o1 b2 o2 n1 c1 c2 l w h1 h2
theorem terms_none (a1 a2 : Option Addr) (c1 c2 : Nat) (w : World) :
    Calls Tryz.prog 54 #[.slice a1 0 c1, .slice a2 0 c2] w fun e w' => e = .returned (.bool true) ∧ Below w.heap.size w w' := by
  go_enter Tryz.func54, Tryz.ntmps54
  go_wp2
  refine wp_loop_rounds 1 ?_
  rw [rounds_succ]
  go_wp2
  go_ret
  exact ⟨rfl, Below.refl _ _⟩
theorem eqterm_any (m : ByteArray) (a1 a2 : Option Addr) (n c1 c2 : Nat) (l : List Tm) (w : World) (h1 : TmsAt w a1 n c1 l) (h2 : TmsAt w a2 n c2 l)
    (hT : ∀ w', TmsAt w' a1 n c1 l → TmsAt w' a2 n c2 l → Calls Tryz.prog 54 #[.slice a1 n c1, .slice a2 n c2] w' fun e w'' => e = .returned (.bool true) ∧ Below w'.heap.size w' w'') :
    Calls Tryz.prog 86 #[.agg #[.string m, .slice a1 n c1], .agg #[.string m, .slice a2 n c2]] w fun e w' => e = .returned (.bool true) ∧ Below w.heap.size w w' := by
  have b0 : Below w.heap.size w ((w.alloc (.cells #[.string m, .slice a1 n c1] 76)).alloc (.cells #[.string m, .slice a2 n c2] 76)) := ((Below.refl _ _).alloc (Nat.le_refl _) _).alloc (by simp) _
  have HA := (Has.new w #[.string m, .slice a1 n c1] 76).alloc (.cells #[.string m, .slice a2 n c2] 76)
  have HB := Has.newAt (w := w.alloc (.cells #[.string m, .slice a1 n c1] 76)) (n := w.heap.size + 1) (vs := #[.string m, .slice a2 n c2]) (T := 76) (by simp)
  obtain ⟨w2, ew2⟩ : ∃ w2, w2 = (w.alloc (.cells #[.string m, .slice a1 n c1] 76)).alloc (.cells #[.string m, .slice a2 n c2] 76) := ⟨_, rfl⟩
  rw [← ew2] at b0 HA HB
  have q1 := HA.cell (j := 0) rfl
  have q2 := HA.cell (j := 1) rfl
  have q3 := HB.cell (j := 0) rfl
  have q4 := HB.cell (j := 1) rfl
  have hC := hid (hT w2 (h1.below b0 (Nat.le_refl _)) (h2.below b0 (Nat.le_refl _)))
  have hb := hid b0
  rw [ew2] at q1 q2 q3 q4
  have hew := hid ew2
  clear h1 h2 hT HA HB b0 ew2
  go_enter Tryz.func86, Tryz.ntmps86
  go_wp2_with fail
  rw [← hew.out]
  refine hC.out.mono ?_
  rintro e w3 ⟨rfl, o3⟩
  have b3 := hid (hb.out.trans (o3.mono hb.out.size))
  clear q1 q2 q3 q4 o3
  go_wp2
  go_ret
  exact ⟨rfl, b3.out⟩
theorem true_parts {w : World} {f : FuncId} {args : Array Value} (h : Calls Tryz.prog f args w fun e w' => e = .returned (.bool true) ∧ Below w.heap.size w w') :
    Calls Tryz.prog f args w fun e w' => (∃ v, e = .returned v ∧ v = .bool true ∧ Below w.heap.size w w') ∨ (∃ c, e = .panicked c ∧ False) := by
  refine h.mono ?_
  rintro e w' ⟨rfl, o⟩
  exact Or.inl ⟨_, rfl, rfl, o⟩
set_option maxRecDepth 20000 in
set_option maxHeartbeats 4000000 in
theorem eqterms_any : ∀ (d : Nat) (a1 a2 : Option Addr) (n c1 c2 : Nat) (l : List Tm) (w : World), (∀ t ∈ l, groundB d t = true) → TmsAt w a1 n c1 l → TmsAt w a2 n c2 l →
    Calls Tryz.prog 54 #[.slice a1 n c1, .slice a2 n c2] w fun e w' => e = .returned (.bool true) ∧ Below w.heap.size w w'
  | 0, a1, a2, n, c1, c2, l, w, hg, h1, _ => by
    have hl : l = [] := by
      cases l with
      | nil => rfl
      | cons t r => have := hg t (by simp); rw [groundB_zero] at this; cases this
    subst hl
    obtain rfl : 0 = n := h1.len
    exact terms_none a1 a2 c1 c2 w
  | d + 1, a1, a2, n, c1, c2, l, w, hg, h1, h2 => by
    have ih := hid (eqterms_any d)
    by_cases h0 : n = 0
    · subst h0; exact terms_none a1 a2 c1 c2 w
    obtain ⟨b1, o1, rfl⟩ := h1.head (by omega)
    obtain ⟨b2, o2, rfl⟩ := h2.head (by omega)
    have hl := hid h1.len
    have hle := h1.le
    have hmx := h1.max
    have hle2 := h2.le
    have hmx2 := h2.max
    have hg' := hid hg
    have hcf : ∀ (xv : Array Value) (wx : World), (callFunc 86 xv).run Tryz.prog wx = .ok (.enter 86 xv) wx := fun xv wx => by simp [go_sem]
    clear hg
    go_enter Tryz.func54, Tryz.ntmps54
    go_wp2
    go_loopw [5, 13] (fun _ i wr => ∃ k : Nat, k ≤ n ∧ i = .int .i64 k ∧ Below w.heap.size w wr) (fun _ i _ => n - (intOf i).toNat)
    case atStart => exact ⟨0, Nat.zero_le _, rfl, Below.refl _ _⟩
    case round =>
      obtain ⟨k, hk, rfl, hb⟩ := hrel
      by_cases hlt : k < n
      · have hkl : k < l.length := by rw [hl.out]; exact hlt
        have g1 := h1.below hb.drew (Nat.le_refl _)
        have g2 := h2.below hb.drew (Nat.le_refl _)
        obtain ⟨m, l2, x1, n1', y1, et, hm, p0, p1, p2⟩ := g1.at' k hkl
        obtain ⟨m', l2', x2, n2', y2, et2, _, s0, s1, s2⟩ := g2.at' k hkl
        rw [et] at et2
        obtain ⟨rfl, rfl⟩ : m = m' ∧ l2 = l2' := by injection et2 with h1 h2; exact ⟨h1, h2⟩
        obtain rfl : n1' = n2' := p2.len.symm.trans s2.len
        have hgk := hid (show ∀ t ∈ l2, groundB d t = true by
          have := hg'.out l[k] (List.getElem_mem _)
          rw [et] at this
          by_cases h0 : 0 < l2.length
          · rw [groundB_node d m l2 h0] at this
            simp only [Bool.and_eq_true, List.all_eq_true] at this
            exact this.2.1
          · intro t ht
            exact absurd (List.length_pos_of_mem ht) h0)
        have hC := hid (eqterm_any m x1 x2 n1' y1 y2 l2 wr.drew p2 s2 (fun w' q1 q2 => ih.out x1 x2 n1' y1 y2 l2 w' hgk.out q1 q2))
        have hk0 : (0 : Int) ≤ k := by omega
        have hkn : (k : Int) < n := by omega
        have e0 : wr.cell? ⟨b1, o1 + k * 2, none⟩ = some (.string m) := p0
        have e1 : wr.cell? ⟨b1, o1 + k * 2 + 1, none⟩ = some (.slice x1 n1' y1) := p1
        have e2 : wr.cell? ⟨b2, o2 + k * 2, none⟩ = some (.string m) := s0
        have e3 : wr.cell? ⟨b2, o2 + k * 2 + 1, none⟩ = some (.slice x2 n1' y2) := s1
        have hb' := hid hb.drew
        clear et et2 g1 g2 p0 p1 p2 s0 s1 s2 hb h1 h2
        go_wp2
        go_region_law (first
          | (refine step_call_or rfl 86 #[.tmp 19, .tmp 23] _ rfl hcf #[.agg #[.string m, .slice x1 n1' y1], .agg #[.string m, .slice x2 n1' y2]] (by simp [Act.eval]) (true_parts hC.out) (fun _ _ h => h.elim) ?_
             rintro v6 w6 ⟨rfl, o6⟩))
        all_goals
          have hb6 := hid (hb'.out.trans (o6.mono hb'.out.size))
          clear o6 e0 e1 e2 e3
          go_wp2
          go_roundw
          case rel => exact ⟨k + 1, by omega, by go_num, hb6.out⟩
          case measure => simp [intOf]; omega
      · obtain rfl : n = k := by omega
        have hb' := hid hb
        clear h1 h2 hb
        go_wp2
        go_ret
        exact ⟨rfl, hb'.out⟩
set_option maxRecDepth 20000 in
set_option maxHeartbeats 16000000 in
theorem same_any (r : Rec) (ar1 ar2 ag1 ag2 ae1 ae2 : Option Addr) (nr1 nr2 cr1 cr2 ng1 ng2 cg1 cg2 ne1 ne2 ce1 ce2 : Nat) (w : World) (h1 : RecAt w r ar1 nr1 cr1 ag1 ng1 cg1 ae1 ne1 ce1) (h2 : RecAt w r ar2 nr2 cr2 ag2 ng2 cg2 ae2 ne2 ce2) (hg : ∀ y ∈ r.rounds, ∀ t ∈ y.joint, groundB 4 t = true) :
    Calls Tryz.prog 23 #[.agg (recV r ar1 nr1 cr1 ag1 ng1 cg1 ae1 ne1 ce1), .agg (recV r ar2 nr2 cr2 ag2 ng2 cg2 ae2 ne2 ce2)] w fun e w' => e = .returned (.bool true) ∧ Below w.heap.size w w' := by
  obtain ⟨R, eR⟩ : ∃ R, R = r := ⟨_, rfl⟩
  have ER := hid eR
  have hr1 := h1.rounds
  have hr2 := h2.rounds
  have hg1 := h1.goals
  have hg2 := h2.goals
  have he1 := h1.excl
  have he2 := h2.excl
  obtain ⟨name, text, seed, start, clock, rounds, ended, goals, excl⟩ := r
  simp only at hr1 hr2 hg1 hg2 he1 he2 hg
  unfold recV
  simp only
  obtain rfl : nr1 = nr2 := hr1.len.symm.trans hr2.len
  have hle1 := hr1.le
  have hmx1 := hr1.max
  have hle2 := hr2.le
  have hmx2 := hr2.max
  have hrl := hid hr1.len
  have hgr := hid hg
  clear eR h1 h2 hg
  have b0 : Below w.heap.size w ((w.alloc (.cells #[.string name, .string text, .int .u64 seed, .int .i64 start, .int .i64 clock, .slice ar1 nr1 cr1, .bool ended, .slice ag1 ng1 cg1, .slice ae1 ne1 ce1] 27)).alloc (.cells #[.string name, .string text, .int .u64 seed, .int .i64 start, .int .i64 clock, .slice ar2 nr1 cr2, .bool ended, .slice ag2 ng2 cg2, .slice ae2 ne2 ce2] 27)) := ((Below.refl _ _).alloc (Nat.le_refl _) _).alloc (by simp) _
  have HA := (Has.new w #[.string name, .string text, .int .u64 seed, .int .i64 start, .int .i64 clock, .slice ar1 nr1 cr1, .bool ended, .slice ag1 ng1 cg1, .slice ae1 ne1 ce1] 27).alloc (.cells #[.string name, .string text, .int .u64 seed, .int .i64 start, .int .i64 clock, .slice ar2 nr1 cr2, .bool ended, .slice ag2 ng2 cg2, .slice ae2 ne2 ce2] 27)
  have HB := Has.newAt (w := w.alloc (.cells #[.string name, .string text, .int .u64 seed, .int .i64 start, .int .i64 clock, .slice ar1 nr1 cr1, .bool ended, .slice ag1 ng1 cg1, .slice ae1 ne1 ce1] 27)) (n := w.heap.size + 1) (vs := #[.string name, .string text, .int .u64 seed, .int .i64 start, .int .i64 clock, .slice ar2 nr1 cr2, .bool ended, .slice ag2 ng2 cg2, .slice ae2 ne2 ce2]) (T := 27) (by simp)
  go_enter Tryz.func23, Tryz.ntmps23
  obtain ⟨w0, ew0⟩ : ∃ w0, w0 = (w.alloc (.cells #[.string name, .string text, .int .u64 seed, .int .i64 start, .int .i64 clock, .slice ar1 nr1 cr1, .bool ended, .slice ag1 ng1 cg1, .slice ae1 ne1 ce1] 27)).alloc (.cells #[.string name, .string text, .int .u64 seed, .int .i64 start, .int .i64 clock, .slice ar2 nr1 cr2, .bool ended, .slice ag2 ng2 cg2, .slice ae2 ne2 ce2] 27) := ⟨_, rfl⟩
  have HKA := hid (show ∀ w', Below w0.heap.size w0 w' → w'.cell? ⟨w.heap.size, 0, none⟩ = some (.string name) ∧ w'.cell? ⟨w.heap.size, 1, none⟩ = some (.string text) ∧ w'.cell? ⟨w.heap.size, 2, none⟩ = some (.int .u64 seed) ∧ w'.cell? ⟨w.heap.size, 3, none⟩ = some (.int .i64 start) ∧ w'.cell? ⟨w.heap.size, 4, none⟩ = some (.int .i64 clock) ∧ w'.cell? ⟨w.heap.size, 5, none⟩ = some (.slice ar1 nr1 cr1) ∧ w'.cell? ⟨w.heap.size, 6, none⟩ = some (.bool ended) ∧ w'.cell? ⟨w.heap.size, 7, none⟩ = some (.slice ag1 ng1 cg1) ∧ w'.cell? ⟨w.heap.size, 8, none⟩ = some (.slice ae1 ne1 ce1) from fun w' hb => by
    rw [← ew0] at HA
    have H' := HA.below hb HA.lt
    exact ⟨H'.cell (j := 0) rfl, H'.cell (j := 1) rfl, H'.cell (j := 2) rfl, H'.cell (j := 3) rfl, H'.cell (j := 4) rfl, H'.cell (j := 5) rfl, H'.cell (j := 6) rfl, H'.cell (j := 7) rfl, H'.cell (j := 8) rfl⟩)
  have HKB := hid (show ∀ w', Below w0.heap.size w0 w' → w'.cell? ⟨w.heap.size + 1, 0, none⟩ = some (.string name) ∧ w'.cell? ⟨w.heap.size + 1, 1, none⟩ = some (.string text) ∧ w'.cell? ⟨w.heap.size + 1, 2, none⟩ = some (.int .u64 seed) ∧ w'.cell? ⟨w.heap.size + 1, 3, none⟩ = some (.int .i64 start) ∧ w'.cell? ⟨w.heap.size + 1, 4, none⟩ = some (.int .i64 clock) ∧ w'.cell? ⟨w.heap.size + 1, 5, none⟩ = some (.slice ar2 nr1 cr2) ∧ w'.cell? ⟨w.heap.size + 1, 6, none⟩ = some (.bool ended) ∧ w'.cell? ⟨w.heap.size + 1, 7, none⟩ = some (.slice ag2 ng2 cg2) ∧ w'.cell? ⟨w.heap.size + 1, 8, none⟩ = some (.slice ae2 ne2 ce2) from fun w' hb => by
    rw [← ew0] at HB
    have H' := HB.below hb HB.lt
    exact ⟨H'.cell (j := 0) rfl, H'.cell (j := 1) rfl, H'.cell (j := 2) rfl, H'.cell (j := 3) rfl, H'.cell (j := 4) rfl, H'.cell (j := 5) rfl, H'.cell (j := 6) rfl, H'.cell (j := 7) rfl, H'.cell (j := 8) rfl⟩)
  have qa := HKA.out w0 (Below.refl _ _)
  have qb := HKB.out w0 (Below.refl _ _)
  rw [ew0] at qa qb
  obtain ⟨a0, a1, a2, a3, a4, a5, a6, a7, a8⟩ := qa
  obtain ⟨b0', b1, b2, b3, b4, b5, b6, b7, b8⟩ := qb
  rw [← ew0] at b0
  have hew := hid ew0
  clear ew0 HA HB
  cases ended
  all_goals
    go_wp2
    rw [← hew.out]
    clear a0 a1 a2 a3 a4 a6 b0' b1 b2 b3 b4 b6
    have hcf : ∀ (xv : Array Value) (wx : World), (callFunc 54 xv).run Tryz.prog wx = .ok (.enter 54 xv) wx := fun xv wx => by simp [go_sem]
    go_loopw [58] (fun i wr => ∃ k : Nat, k ≤ nr1 ∧ i = .int .i64 k ∧ Below w0.heap.size w0 wr) (fun i _ => nr1 - (intOf i).toNat)
    case atStart => exact ⟨0, Nat.zero_le _, rfl, Below.refl _ _⟩
    case round =>
      obtain ⟨k, hk, rfl, hb⟩ := hrel
      have hbT := b0.trans (hb.mono b0.size)
      have z0 := HKA.out wr hb
      have z1 := HKB.out wr hb
      by_cases hlt : k < nr1
      · have hkl : k < rounds.length := by rw [hrl.out]; exact hlt
        have g1 := hr1.below hbT (Nat.le_refl _)
        have g2 := hr2.below hbT (Nat.le_refl _)
        obtain ⟨x1, o1, rfl⟩ := g1.head (by omega)
        obtain ⟨x2, o2, rfl⟩ := g2.head (by omega)
        obtain ⟨aj1, nj1, cj1, af1, nf1, cf1, p0, p1, pt1, pf1⟩ := g1.at' k hkl
        obtain ⟨aj2, nj2, cj2, af2, nf2, cf2, s0, s1, pt2, pf2⟩ := g2.at' k hkl
        obtain rfl : nj1 = nj2 := pt1.len.symm.trans pt2.len
        have hgk := hid (hgr.out _ (List.getElem_mem hkl))
        have hdr := (Below.refl wr.heap.size wr).drew
        have hCT := hid (eqterms_any 4 aj1 aj2 nj1 cj1 cj2 _ wr.drew hgk.out (pt1.below hdr (Nat.le_refl _)) (pt2.below hdr (Nat.le_refl _)))
        have hf1 := hid pf1
        have hf2 := hid pf2
        have hk0 : (0 : Int) ≤ k := by omega
        have hkn : (k : Int) < nr1 := by omega
        have KS := hid (show ∀ w', Below wr.heap.size wr w' → w'.cell? ⟨w.heap.size, 5, none⟩ = some (.slice (some ⟨x1, o1, none⟩) nr1 cr1) ∧ w'.cell? ⟨w.heap.size + 1, 5, none⟩ = some (.slice (some ⟨x2, o2, none⟩) nr1 cr2) ∧ w'.cell? ⟨x1, o1 + k * 2, none⟩ = some (.slice aj1 nj1 cj1) ∧ w'.cell? ⟨x2, o2 + k * 2, none⟩ = some (.slice aj2 nj1 cj2) ∧ w'.cell? ⟨x1, o1 + k * 2 + 1, none⟩ = some (.slice af1 nf1 cf1) ∧ w'.cell? ⟨x2, o2 + k * 2 + 1, none⟩ = some (.slice af2 nf2 cf2) from fun w' h =>
          ⟨(h.cell (p := ⟨w.heap.size, 5, none⟩) (lt_of_cell z0.2.2.2.2.2.1)).trans z0.2.2.2.2.2.1, (h.cell (p := ⟨w.heap.size + 1, 5, none⟩) (lt_of_cell z1.2.2.2.2.2.1)).trans z1.2.2.2.2.2.1, (h.cell (p := ⟨x1, o1 + k * 2, none⟩) (lt_of_cell p0)).trans p0, (h.cell (p := ⟨x2, o2 + k * 2, none⟩) (lt_of_cell s0)).trans s0, (h.cell (p := ⟨x1, o1 + k * 2 + 1, none⟩) (lt_of_cell p1)).trans p1, (h.cell (p := ⟨x2, o2 + k * 2 + 1, none⟩) (lt_of_cell s1)).trans s1⟩)
        have m0 := KS.out wr (Below.refl _ _)
        have md := KS.out wr.drew hdr
        have hb' := hid hb
        clear p0 p1 pt1 pf1 s0 s1 pt2 pf2 g1 g2 hdr z0 z1 hbT hb hr1 hr2
        go_wp2
        go_region_held3 (fun wx => wx.cell? ⟨w.heap.size, 5, none⟩ = some (.slice (some ⟨x1, o1, none⟩) nr1 cr1) ∧ wx.cell? ⟨w.heap.size + 1, 5, none⟩ = some (.slice (some ⟨x2, o2, none⟩) nr1 cr2) ∧ wx.cell? ⟨x1, o1 + k * 2, none⟩ = some (.slice aj1 nj1 cj1) ∧ wx.cell? ⟨x2, o2 + k * 2, none⟩ = some (.slice aj2 nj1 cj2) ∧ wx.cell? ⟨x1, o1 + k * 2 + 1, none⟩ = some (.slice af1 nf1 cf1) ∧ wx.cell? ⟨x2, o2 + k * 2 + 1, none⟩ = some (.slice af2 nf2 cf2))
          (first | (with_reducible exact m0) | (with_reducible exact md) | (with_reducible exact m1) | (with_reducible exact m2))
          (first
            | (go_at_call 54; ((with_reducible refine hCT.out.mono ?_); rintro e w6 ⟨rfl, o6⟩; have o6 : Below wr.heap.size wr w6 := ((Below.refl wr.heap.size wr).drew).trans ⟨o6.os, o6.tape, o6.output, o6.size, o6.block⟩; have m1 := KS.out _ o6; have f1 := hf1.out.below o6 (Nat.le_refl _); have f2 := hf2.out.below o6 (Nat.le_refl _)))
            | (go_at_call 55; ((with_reducible refine (ints_any af1 af2 nf1 nf2 cf1 cf2 _ _ f1 f2).mono ?_); rintro e w7 ⟨rfl, o7⟩; have o7 : Below wr.heap.size wr w7 := o6.trans (Below.mono ⟨o7.os, o7.tape, o7.output, o7.size, o7.block⟩ o6.size); have m2 := KS.out _ o7)))
        have hb7 := hid (hb'.out.trans (o7.mono hb'.out.size))
        clear m0 md m1 m2 o6 o7 f1 f2
        go_wp2
        go_roundw
        case rel => exact ⟨k + 1, by omega, by go_num, hb7.out⟩
        case measure => simp [intOf]; omega
      · obtain rfl : nr1 = k := by omega
        obtain ⟨_, _, _, _, _, _, _, u7, u8'⟩ := z0
        obtain ⟨_, _, _, _, _, _, _, v7, v8'⟩ := z1
        have hA := hid HKA
        have q1 := hg1.below hbT (Nat.le_refl _)
        have q2 := hg2.below hbT (Nat.le_refl _)
        have hb' := hid hb
        have hbT' := hid hbT
        clear hr1 hr2 hb hbT
        go_wp2_with fail
        refine (ints_any ag1 ag2 ng1 ng2 cg1 cg2 goals wr q1 q2).mono ?_
        rintro e w6 ⟨rfl, o6⟩
        have hb6 := hb'.out.trans (o6.mono hb'.out.size)
        have hbT6 := hid (hbT'.out.trans (o6.mono hbT'.out.size))
        have u8 := (HKA.out w6 hb6).2.2.2.2.2.2.2.2
        have v8 := (HKB.out w6 hb6).2.2.2.2.2.2.2.2
        have e1 := he1.below hbT6.out (Nat.le_refl _)
        have e2 := he2.below hbT6.out (Nat.le_refl _)
        clear o6 hb6 u7 u8' v7 v8' q1 q2
        go_wp2_with fail
        refine (bools_any ae1 ae2 ne1 ne2 ce1 ce2 excl excl w6 e1 e2).mono ?_
        rintro e w7 ⟨rfl, nq, rfl⟩
        rw [show sameB excl excl = true by unfold sameB; exact decide_eq_true rfl]
        have hb7 := hid (hbT6.out.trans (below_drew _ nq))
        clear u8 v8 e1 e2
        go_wp2
        go_ret
        exact ⟨rfl, hb7.out⟩
end Go.Proofs.YtahbhhenobehfaaGreatDoor
