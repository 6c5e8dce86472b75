/-
  The walk of the law JournalPlays.
-/
import Derived.Test.YtpekfdpdjeoeaaaRows
import Derived.Test.YtpekfdpdjeoeaaaJPlain
import Derived.Test.YtpekfdpdjeoeaaaHeap
import Derived.Test.YtpekfdpdjeoeaaaJ6
import Derived.Test.YtpekfdpdjeoeaaaJ7
import Derived.Test.YtpekfdpdjeoeaaaJ8
import Derived.Test.YtpekfdpdjeoeaaaJ9
import Derived.WalkKit
import Derived.ProofKit
import Derived.OpenShut
import Derived.BigRegion
import Derived.Deep.QuietTactic
import Derived.Deep.RegionWith
import Derived.Deep.RegionHeld3
import Derived.StillTailTactics
import Derived.Deep.DrawnRows
import Derived.BigQuiet
import Derived.Outline
namespace Go.Proofs.Ytpekfdpdjeoeaaa
open Go.ChangeShapes Go.WideShapes Go.ChangeAt Go.RowKit

def ActsAt (w : World) (a : Option Addr) (n : Nat) : Prop := ∀ i, i < n → ∃ b o k kp s, a = some ⟨b, o, none⟩ ∧ w.cell? ⟨b, o + i * 3, none⟩ = some (.int .i64 k) ∧ w.cell? ⟨b, o + i * 3 + 1, none⟩ = some (.int .i64 kp) ∧ w.cell? ⟨b, o + i * 3 + 2, none⟩ = some (.string s)
theorem ActsAt.head {w : World} {a : Option Addr} {n : Nat} (h : ActsAt w a n) (hn : 0 < n) : ∃ b o, a = some ⟨b, o, none⟩ := by
  obtain ⟨b, o, _, _, _, e, _⟩ := h 0 hn
  exact ⟨b, o, e⟩
theorem ActsAt.at {w : World} {b o n : Nat} (h : ActsAt w (some ⟨b, o, none⟩) n) (i : Nat) (hi : i < n) : ∃ k kp s, w.cell? ⟨b, o + i * 3, none⟩ = some (.int .i64 k) ∧ w.cell? ⟨b, o + i * 3 + 1, none⟩ = some (.int .i64 kp) ∧ w.cell? ⟨b, o + i * 3 + 2, none⟩ = some (.string s) := by
  obtain ⟨b', o', k, kp, s, e, h0, h1, h2⟩ := h i hi
  cases e
  exact ⟨k, kp, s, h0, h1, h2⟩
theorem plays_many (a : Option Addr) (n cap : Nat) (w : World) (hn : 30 < n) (hm : n ≤ 9223372036854775807) :
    Calls Try.prog 5 #[.slice a n cap] w fun e w' => e = .returned (.bool true) ∧ Below w.heap.size w w' := by
  go_enter Try.func5, Try.ntmps5
  go_wp2_with fail
  refine (awake_any _).mono ?_
  rintro e w1 ⟨rfl, b1⟩
  go_wp2
  go_ret
  exact ⟨rfl, b1⟩
theorem _root_.Go.Proofs.Ytpekfdpdjeoeaaa.Only.cell3 {l : List Nat} {a c : World} (h : Only l a c) {p : Addr} (hp : p.block < a.heap.size) (hn : p.block ∉ l) : c.cell? p = a.cell? p := World.cell?_of_block (h.block p.block hp hn)
attribute [local go_sem ↓] Go.wp_at_zero Go.wp_at_succ
set_option maxHeartbeats 2000000 in
theorem plays_some (b o : Nat) (n cap : Nat) (w : World) (hn : n ≤ 30) (ha : ActsAt w (some ⟨b, o, none⟩) n) :
    Calls Try.prog 5 #[.slice (some ⟨b, o, none⟩) n cap] w fun e w' => e = .returned (.bool true) ∧ Below w.heap.size w w' := by
  go_enter Try.func5, Try.ntmps5
  go_wp2_with fail
  refine (new_any w).mono ?_
  rintro e w1 ⟨rfl, h1, b1⟩
  have l1 := h1.lt
  go_wp2_with fail
  have hj1 : JAt (w1.alloc (.cells #[.string ⟨#[]⟩, .int .i64 0] 40)) w.heap.size [] 0 := h1.below ((Below.refl _ _).alloc (Nat.le_refl _) _) (Nat.le_refl _)
  have hk1 : KAt (w1.alloc (.cells #[.string ⟨#[]⟩, .int .i64 0] 40)) w1.heap.size [] 0 := Has.new _ _ _
  have bb1 : Below w.heap.size w (w1.alloc (.cells #[.string ⟨#[]⟩, .int .i64 0] 40)) := b1.alloc b1.size _
  have bs1 := b1.size
  clear h1 b1
  go_loopw [5, 6, 7, 19] (fun _ _ _ i wr => ∃ (k : Nat) (B : List UInt8) (F : Nat), k ≤ n ∧ i = .int .i64 k ∧ JAt wr w.heap.size B F ∧ KAt wr w1.heap.size B F ∧ F ≤ B.length ∧ B.length ≤ k * 206 ∧ Below w.heap.size w wr) (fun _ _ _ i _ => n - (intOf i).toNat)
  case atStart => exact ⟨0, [], 0, Nat.zero_le _, rfl, hj1, hk1, Nat.le_refl _, Nat.le_refl _, bb1⟩
  case round =>
    clear hj1 hk1 bb1
    obtain ⟨k, B, F, hk, rfl, hj, hkA, hF, hlen, hb⟩ := hrel
    by_cases hlt : k < n
    · obtain ⟨kd, kp, s, c0, c1, c2⟩ := ha.at k hlt
      have ha0 := c0
      have c0 := (hb.cell (lt_of_cell c0)).trans c0
      have c1 := (hb.cell (lt_of_cell c1)).trans c1
      have c2 := (hb.cell (lt_of_cell c2)).trans c2
      have hk0 : (0 : Int) ≤ k := by omega
      have hkn : (k : Int) < n := by omega
      have hbj : b ∉ [w.heap.size] := by have := lt_of_cell (ha0 : w.cell? ⟨b, o + k * 3, none⟩ = _); simp at this ⊢; omega
      have hbk : b ∉ [w1.heap.size] := by have := lt_of_cell (ha0 : w.cell? ⟨b, o + k * 3, none⟩ = _); simp at this ⊢; omega
      clear ha ha0
      by_cases hs : 200 < s.size
      · go_wp2_with fail
        refine (awake_any _).mono ?_
        rintro e w2 ⟨rfl, b2⟩
        have b3 : Below w.heap.size w w2 := hb.trans (b2.mono hb.size)
        clear b2 hb c0 c1 c2 hj hkA
        go_wp2
        go_ret
        exact ⟨rfl, b3⟩
      · rcases (show kd = 0 ∨ kd = 1 ∨ kd = 2 ∨ (decide (kd = 0) = false ∧ decide (kd = 1) = false ∧ decide (kd = 2) = false) from by simp only [decide_eq_false_iff_not]; omega) with rfl | rfl | rfl | ⟨g0, g1, g2⟩
        · go_wp2
          go_region_held3 (fun wx => wx.cell? ⟨b, o + k * 3, none⟩ = some (.int .i64 0) ∧ wx.cell? ⟨b, o + k * 3 + 2, none⟩ = some (.string s)) (first | exact ⟨c0, c2⟩ | exact ⟨c0', c2'⟩ | exact ⟨c0'', c2''⟩)
            (first
              | (go_at_call 15; refine (append_any _ B F s _ ?_ ?_ ?_).mono ?_; exact hj.below (by repeat' (first | with_reducible exact Below.refl _ _ | with_reducible refine Below.drew ?_)) (Nat.le_refl _); omega; omega; rintro e w2 ⟨rfl, h2, o2⟩; have o2 : Only [w.heap.size] wr w2 := ⟨o2.os, o2.tape, o2.output, o2.size, o2.block⟩; have c0' := (o2.cell3 (lt_of_cell c0) hbj).trans c0; have c2' := (o2.cell3 (lt_of_cell c2) hbj).trans c2; have kA2 := KAt.onlyJ hj hkA o2)
              | (go_at_call 16; refine (kappend_any _ B F s _ ?_ ?_ ?_).mono ?_; exact kA2.below (by repeat' (first | with_reducible exact Below.refl _ _ | with_reducible refine Below.drew ?_)) (Nat.le_refl _); omega; omega; rintro e w3 ⟨rfl, h3, o3⟩; have o3 : Only [w1.heap.size] w2 w3 := ⟨o3.os, o3.tape, o3.output, o3.size, o3.block⟩; have c0'' := (o3.cell3 (lt_of_cell c0') hbk).trans c0'; have c2'' := (o3.cell3 (lt_of_cell c2') hbk).trans c2'))
          have J3 := JAt.onlyK h2 kA2 o3
          have b3 : Below w.heap.size w w3 := o3.toBelow (o2.toBelow hb (by simp) hb.size) (by simp; omega) (Nat.le_trans hb.size o2.size)
          have HL : (actB B s.data.toList).length ≤ (k + 1) * 206 := by rw [actB_length]; have := kept_le B; simp only [Array.length_toList]; change _ + (s.size + 6) ≤ _; omega
          obtain ⟨F', eF, HF⟩ : ∃ F' : Nat, actF B F = F' ∧ F' ≤ (actB B s.data.toList).length := by
            rw [actB_length]; unfold actF
            split
            · exact ⟨F, rfl, by omega⟩
            · exact ⟨kept B, rfl, by omega⟩
          rw [eF] at h3 J3
          obtain ⟨B', eB⟩ : ∃ B', B' = actB B s.data.toList := ⟨_, rfl⟩
          rw [← eB] at HL HF h3 J3
          clear eB eF hj hkA hb c0 c1 c2 c0' c2' c2'' h2 o2 kA2 o3 hF hlen
          have d0 : w3.cell? ⟨w1.heap.size, 0, none⟩ = some (.string ⟨B'.toArray⟩) := Has.cell h3 (j := 0) rfl
          have hz3 := h3.lt
          go_wp2_with fail
          refine (rScan_any ⟨B'.toArray⟩ _ (by rw [bsize]; omega)).mono ?_
          rintro e w4 ⟨v, rfl, own4, o4⟩
          rw [show (ByteArray.mk B'.toArray).data.toList = B' from rfl] at own4 ⊢
          obtain ⟨ad1, cap1, rfl, r4⟩ := RowS.ofOwn own4
          have J4 := J3.below o4 (Nat.le_refl _)
          have K4 := h3.below o4 (Nat.le_refl _)
          have b4 := b3.trans (o4.mono b3.size)
          have hct := scanL_count B'.length B' (Nat.le_refl _)
          obtain ⟨m, em⟩ : ∃ m, m = (scanL B').1.length := ⟨_, rfl⟩
          rw [← em]
          rw [← em] at hct
          have hm : m ≤ 9223372036854775807 := by omega
          have Em := hid em
          clear own4 em hct b3 o4 h3 J3 d0 hz3
          have d0 : w4.cell? ⟨w1.heap.size, 0, none⟩ = some (.string ⟨B'.toArray⟩) := Has.cell K4 (j := 0) rfl
          go_wp2
          go_region_held3 (fun wx => wx.cell? ⟨w1.heap.size, 0, none⟩ = some (.string ⟨B'.toArray⟩)) (first | exact d0 | exact d0' | exact d0'')
            (first
              | (go_at_call 21; refine (bytes_any _ B' F' _ ?_).mono ?_; exact J4.below (by repeat' (first | with_reducible exact Below.refl _ _ | with_reducible refine Below.drew ?_)) (Nat.le_refl _); rintro e w5 ⟨rfl, rfl⟩)
              | (go_at_call 22; refine (payloads_any _ B' F' _ ?_ ?_).mono ?_; exact J4.below (by repeat' (first | with_reducible exact Below.refl _ _ | with_reducible refine Below.drew ?_)) (Nat.le_refl _); omega; rintro e w5 ⟨v, rfl, own5, o5⟩; obtain ⟨ad2, cap2, rfl, r5⟩ := RowS.ofOwn own5; rw [← Em.out]; have o5 : Below w4.heap.size w4 w5 := ⟨o5.os, o5.tape, o5.output, o5.size, o5.block⟩; have d0' : w5.cell? ⟨w1.heap.size, 0, none⟩ = some (.string ⟨B'.toArray⟩) := Has.cell (K4.below o5 (Nat.le_refl _)) (j := 0) rfl; have r4' := r4.below o5 (Nat.le_refl _))
              | (go_at_call 13; refine (strings_any ad2 ad1 m cap2 cap1 (scanL B').1 _ hm Em.out.symm ?_ ?_).mono ?_; exact r5.below (by repeat' (first | with_reducible exact Below.refl _ _ | with_reducible refine Below.drew ?_)) (Nat.le_refl _); exact r4'.below (by repeat' (first | with_reducible exact Below.refl _ _ | with_reducible refine Below.drew ?_)) (Nat.le_refl _); rintro e w6 ⟨rfl, o6⟩; have o6 : Below w5.heap.size w5 w6 := ⟨o6.os, o6.tape, o6.output, o6.size, o6.block⟩; have d0'' : w6.cell? ⟨w1.heap.size, 0, none⟩ = some (.string ⟨B'.toArray⟩) := Has.cell ((K4.below o5 (Nat.le_refl _)).below o6 (Nat.le_refl _)) (j := 0) rfl))
          have J6 := (J4.below o5 (Nat.le_refl _)).below o6 (Nat.le_refl _)
          have K6 := (K4.below o5 (Nat.le_refl _)).below o6 (Nat.le_refl _)
          have b5 := b4.trans (o5.mono b4.size)
          have b6 := b5.trans (o6.mono b5.size)
          have J6h := hid J6
          clear J6
          have K6h := hid K6
          clear K6
          have HLh := hid HL
          clear HL
          have HFh := hid HF
          clear HF
          have b6h := hid b6
          clear b6
          clear J4 K4 o5 o6 b4 b5 r4 r4' r5 d0 d0' d0'' own5 Em hm
          set_option maxRecDepth 20000 in go_wp2
          go_roundw
          case rel => exact ⟨k + 1, B', F', by omega, by go_num, J6h.out, K6h.out, HFh.out, HLh.out, b6h.out⟩
          case measure => simp [intOf]; omega
        · go_wp2
          go_quiet (fail)
          obtain ⟨wq, eq⟩ : ∃ wq, wq = wr.drewN nq := ⟨_, rfl⟩
          rw [← eq]
          have Z : Below wr.heap.size wr wq := by rw [eq]; exact ⟨rfl, rfl, rfl, Nat.le_refl _, fun _ _ => rfl⟩
          clear eq
          have c0 := (Z.cell (lt_of_cell c0)).trans c0
          have c1 := (Z.cell (lt_of_cell c1)).trans c1
          have hj := hj.below Z (Nat.le_refl _)
          have hkA := hkA.below Z (Nat.le_refl _)
          have hb := hb.trans (Z.mono hb.size)
          clear Z c2
          go_wp2_with fail
          refine (sync_any _ B F _ hj).mono ?_
          rintro e w2 ⟨rfl, h2, o2⟩
          have c0' := (o2.cell3 (lt_of_cell c0) hbj).trans c0
          have kA2 := KAt.onlyJ hj hkA o2
          go_wp2_with fail
          refine (ksync_any _ B F _ kA2).mono ?_
          rintro e w3 ⟨rfl, h3, o3⟩
          have c0'' := (o3.cell3 (lt_of_cell c0') hbk).trans c0'
          have J3 := JAt.onlyK h2 kA2 o3
          have b3 : Below w.heap.size w w3 := o3.toBelow (o2.toBelow hb (by simp) hb.size) (by simp; omega) (Nat.le_trans hb.size o2.size)
          obtain ⟨B', F', HF, HL, J3, h3⟩ : ∃ (B' : List UInt8) (F' : Nat), F' ≤ B'.length ∧ B'.length ≤ (k + 1) * 206 ∧ JAt w3 w.heap.size B' F' ∧ KAt w3 w1.heap.size B' F' := ⟨B, B.length, Nat.le_refl _, by omega, J3, h3⟩
          clear hj hkA hb c0 c1 c0' h2 o2 kA2 o3 hF hlen
          have d0 : w3.cell? ⟨w1.heap.size, 0, none⟩ = some (.string ⟨B'.toArray⟩) := Has.cell h3 (j := 0) rfl
          have hz3 := h3.lt
          go_wp2_with fail
          refine (rScan_any ⟨B'.toArray⟩ _ (by rw [bsize]; omega)).mono ?_
          rintro e w4 ⟨v, rfl, own4, o4⟩
          rw [show (ByteArray.mk B'.toArray).data.toList = B' from rfl] at own4 ⊢
          obtain ⟨ad1, cap1, rfl, r4⟩ := RowS.ofOwn own4
          have J4 := J3.below o4 (Nat.le_refl _)
          have K4 := h3.below o4 (Nat.le_refl _)
          have b4 := b3.trans (o4.mono b3.size)
          have hct := scanL_count B'.length B' (Nat.le_refl _)
          obtain ⟨m, em⟩ : ∃ m, m = (scanL B').1.length := ⟨_, rfl⟩
          rw [← em]
          rw [← em] at hct
          have hm : m ≤ 9223372036854775807 := by omega
          have Em := hid em
          clear own4 em hct b3 o4 h3 J3 d0 hz3
          have d0 : w4.cell? ⟨w1.heap.size, 0, none⟩ = some (.string ⟨B'.toArray⟩) := Has.cell K4 (j := 0) rfl
          go_wp2
          go_region_held3 (fun wx => wx.cell? ⟨w1.heap.size, 0, none⟩ = some (.string ⟨B'.toArray⟩)) (first | exact d0 | exact d0' | exact d0'')
            (first
              | (go_at_call 21; refine (bytes_any _ B' F' _ ?_).mono ?_; exact J4.below (by repeat' (first | with_reducible exact Below.refl _ _ | with_reducible refine Below.drew ?_)) (Nat.le_refl _); rintro e w5 ⟨rfl, rfl⟩)
              | (go_at_call 22; refine (payloads_any _ B' F' _ ?_ ?_).mono ?_; exact J4.below (by repeat' (first | with_reducible exact Below.refl _ _ | with_reducible refine Below.drew ?_)) (Nat.le_refl _); omega; rintro e w5 ⟨v, rfl, own5, o5⟩; obtain ⟨ad2, cap2, rfl, r5⟩ := RowS.ofOwn own5; rw [← Em.out]; have o5 : Below w4.heap.size w4 w5 := ⟨o5.os, o5.tape, o5.output, o5.size, o5.block⟩; have d0' : w5.cell? ⟨w1.heap.size, 0, none⟩ = some (.string ⟨B'.toArray⟩) := Has.cell (K4.below o5 (Nat.le_refl _)) (j := 0) rfl; have r4' := r4.below o5 (Nat.le_refl _))
              | (go_at_call 13; refine (strings_any ad2 ad1 m cap2 cap1 (scanL B').1 _ hm Em.out.symm ?_ ?_).mono ?_; exact r5.below (by repeat' (first | with_reducible exact Below.refl _ _ | with_reducible refine Below.drew ?_)) (Nat.le_refl _); exact r4'.below (by repeat' (first | with_reducible exact Below.refl _ _ | with_reducible refine Below.drew ?_)) (Nat.le_refl _); rintro e w6 ⟨rfl, o6⟩; have o6 : Below w5.heap.size w5 w6 := ⟨o6.os, o6.tape, o6.output, o6.size, o6.block⟩; have d0'' : w6.cell? ⟨w1.heap.size, 0, none⟩ = some (.string ⟨B'.toArray⟩) := Has.cell ((K4.below o5 (Nat.le_refl _)).below o6 (Nat.le_refl _)) (j := 0) rfl))
          have J6 := (J4.below o5 (Nat.le_refl _)).below o6 (Nat.le_refl _)
          have K6 := (K4.below o5 (Nat.le_refl _)).below o6 (Nat.le_refl _)
          have b5 := b4.trans (o5.mono b4.size)
          have b6 := b5.trans (o6.mono b5.size)
          have J6h := hid J6
          clear J6
          have K6h := hid K6
          clear K6
          have HLh := hid HL
          clear HL
          have HFh := hid HF
          clear HF
          have b6h := hid b6
          clear b6
          clear J4 K4 o5 o6 b4 b5 r4 r4' r5 d0 d0' d0'' own5 Em hm
          set_option maxRecDepth 20000 in go_wp2
          go_roundw
          case rel => exact ⟨k + 1, B', F', by omega, by go_num, J6h.out, K6h.out, HFh.out, HLh.out, b6h.out⟩
          case measure => simp [intOf]; omega
        · go_wp2
          go_quiet (fail)
          obtain ⟨wq, eq⟩ : ∃ wq, wq = wr.drewN nq := ⟨_, rfl⟩
          rw [← eq]
          have Z : Below wr.heap.size wr wq := by rw [eq]; exact ⟨rfl, rfl, rfl, Nat.le_refl _, fun _ _ => rfl⟩
          clear eq
          have c0 := (Z.cell (lt_of_cell c0)).trans c0
          have c1 := (Z.cell (lt_of_cell c1)).trans c1
          have hj := hj.below Z (Nat.le_refl _)
          have hkA := hkA.below Z (Nat.le_refl _)
          have hb := hb.trans (Z.mono hb.size)
          clear Z c2
          go_wp2_with fail
          refine (crash_any _ B F B.length kp _ hj rfl (by omega) hF).mono ?_
          rintro e w2 ⟨rfl, h2, o2⟩
          have c1' := (o2.cell3 (lt_of_cell c1) hbj).trans c1
          have kA2 := KAt.onlyJ hj hkA o2
          go_wp2_with fail
          refine (kcrash_any _ B F B.length kp _ kA2 rfl (by omega) hF).mono ?_
          rintro e w3 ⟨rfl, h3, o3⟩
          have J3 := JAt.onlyK h2 kA2 o3
          have b3 : Below w.heap.size w w3 := o3.toBelow (o2.toBelow hb (by simp) hb.size) (by simp; omega) (Nat.le_trans hb.size o2.size)
          have hcb := crash_bd B.length F kp hF
          obtain ⟨B', F', HF, HL, J3, h3⟩ : ∃ (B' : List UInt8) (F' : Nat), F' ≤ B'.length ∧ B'.length ≤ (k + 1) * 206 ∧ JAt w3 w.heap.size B' F' ∧ KAt w3 w1.heap.size B' F' := ⟨_, _, by rw [List.length_take]; omega, by rw [List.length_take]; omega, J3, h3⟩
          clear hj hkA hb c0 c1 c1' h2 o2 kA2 o3 hF hlen hcb
          have d0 : w3.cell? ⟨w1.heap.size, 0, none⟩ = some (.string ⟨B'.toArray⟩) := Has.cell h3 (j := 0) rfl
          have hz3 := h3.lt
          go_wp2_with fail
          refine (rScan_any ⟨B'.toArray⟩ _ (by rw [bsize]; omega)).mono ?_
          rintro e w4 ⟨v, rfl, own4, o4⟩
          rw [show (ByteArray.mk B'.toArray).data.toList = B' from rfl] at own4 ⊢
          obtain ⟨ad1, cap1, rfl, r4⟩ := RowS.ofOwn own4
          have J4 := J3.below o4 (Nat.le_refl _)
          have K4 := h3.below o4 (Nat.le_refl _)
          have b4 := b3.trans (o4.mono b3.size)
          have hct := scanL_count B'.length B' (Nat.le_refl _)
          obtain ⟨m, em⟩ : ∃ m, m = (scanL B').1.length := ⟨_, rfl⟩
          rw [← em]
          rw [← em] at hct
          have hm : m ≤ 9223372036854775807 := by omega
          have Em := hid em
          clear own4 em hct b3 o4 h3 J3 d0 hz3
          have d0 : w4.cell? ⟨w1.heap.size, 0, none⟩ = some (.string ⟨B'.toArray⟩) := Has.cell K4 (j := 0) rfl
          go_wp2
          go_region_held3 (fun wx => wx.cell? ⟨w1.heap.size, 0, none⟩ = some (.string ⟨B'.toArray⟩)) (first | exact d0 | exact d0' | exact d0'')
            (first
              | (go_at_call 21; refine (bytes_any _ B' F' _ ?_).mono ?_; exact J4.below (by repeat' (first | with_reducible exact Below.refl _ _ | with_reducible refine Below.drew ?_)) (Nat.le_refl _); rintro e w5 ⟨rfl, rfl⟩)
              | (go_at_call 22; refine (payloads_any _ B' F' _ ?_ ?_).mono ?_; exact J4.below (by repeat' (first | with_reducible exact Below.refl _ _ | with_reducible refine Below.drew ?_)) (Nat.le_refl _); omega; rintro e w5 ⟨v, rfl, own5, o5⟩; obtain ⟨ad2, cap2, rfl, r5⟩ := RowS.ofOwn own5; rw [← Em.out]; have o5 : Below w4.heap.size w4 w5 := ⟨o5.os, o5.tape, o5.output, o5.size, o5.block⟩; have d0' : w5.cell? ⟨w1.heap.size, 0, none⟩ = some (.string ⟨B'.toArray⟩) := Has.cell (K4.below o5 (Nat.le_refl _)) (j := 0) rfl; have r4' := r4.below o5 (Nat.le_refl _))
              | (go_at_call 13; refine (strings_any ad2 ad1 m cap2 cap1 (scanL B').1 _ hm Em.out.symm ?_ ?_).mono ?_; exact r5.below (by repeat' (first | with_reducible exact Below.refl _ _ | with_reducible refine Below.drew ?_)) (Nat.le_refl _); exact r4'.below (by repeat' (first | with_reducible exact Below.refl _ _ | with_reducible refine Below.drew ?_)) (Nat.le_refl _); rintro e w6 ⟨rfl, o6⟩; have o6 : Below w5.heap.size w5 w6 := ⟨o6.os, o6.tape, o6.output, o6.size, o6.block⟩; have d0'' : w6.cell? ⟨w1.heap.size, 0, none⟩ = some (.string ⟨B'.toArray⟩) := Has.cell ((K4.below o5 (Nat.le_refl _)).below o6 (Nat.le_refl _)) (j := 0) rfl))
          have J6 := (J4.below o5 (Nat.le_refl _)).below o6 (Nat.le_refl _)
          have K6 := (K4.below o5 (Nat.le_refl _)).below o6 (Nat.le_refl _)
          have b5 := b4.trans (o5.mono b4.size)
          have b6 := b5.trans (o6.mono b5.size)
          have J6h := hid J6
          clear J6
          have K6h := hid K6
          clear K6
          have HLh := hid HL
          clear HL
          have HFh := hid HF
          clear HF
          have b6h := hid b6
          clear b6
          clear J4 K4 o5 o6 b4 b5 r4 r4' r5 d0 d0' d0'' own5 Em hm
          set_option maxRecDepth 20000 in go_wp2
          go_roundw
          case rel => exact ⟨k + 1, B', F', by omega, by go_num, J6h.out, K6h.out, HFh.out, HLh.out, b6h.out⟩
          case measure => simp [intOf]; omega
        · have g0' : (kd == 0) = false := by simpa using g0
          have g1' : (kd == 1) = false := by simpa using g1
          have g2' : (kd == 2) = false := by simpa using g2
          clear g0 g1 g2
          go_wp2
          go_quiet (fail)
          obtain ⟨wq, eq⟩ : ∃ wq, wq = wr.drewN nq := ⟨_, rfl⟩
          rw [← eq]
          have Z : Below wr.heap.size wr wq := by rw [eq]; exact ⟨rfl, rfl, rfl, Nat.le_refl _, fun _ _ => rfl⟩
          clear eq
          have c0 := (Z.cell (lt_of_cell c0)).trans c0
          have c1 := (Z.cell (lt_of_cell c1)).trans c1
          have hj := hj.below Z (Nat.le_refl _)
          have hkA := hkA.below Z (Nat.le_refl _)
          have hb := hb.trans (Z.mono hb.size)
          clear Z c2
          have b3 := hb
          obtain ⟨B', F', HF, HL, J3, h3⟩ : ∃ (B' : List UInt8) (F' : Nat), F' ≤ B'.length ∧ B'.length ≤ (k + 1) * 206 ∧ JAt wq w.heap.size B' F' ∧ KAt wq w1.heap.size B' F' := ⟨B, F, hF, by omega, hj, hkA⟩
          clear hj hkA hb c1 hF hlen
          have d0 : wq.cell? ⟨w1.heap.size, 0, none⟩ = some (.string ⟨B'.toArray⟩) := Has.cell h3 (j := 0) rfl
          have hz3 := h3.lt
          go_wp2_with fail
          refine (rScan_any ⟨B'.toArray⟩ _ (by rw [bsize]; omega)).mono ?_
          rintro e w4 ⟨v, rfl, own4, o4⟩
          rw [show (ByteArray.mk B'.toArray).data.toList = B' from rfl] at own4 ⊢
          obtain ⟨ad1, cap1, rfl, r4⟩ := RowS.ofOwn own4
          have J4 := J3.below o4 (Nat.le_refl _)
          have K4 := h3.below o4 (Nat.le_refl _)
          have b4 := b3.trans (o4.mono b3.size)
          have hct := scanL_count B'.length B' (Nat.le_refl _)
          obtain ⟨m, em⟩ : ∃ m, m = (scanL B').1.length := ⟨_, rfl⟩
          rw [← em]
          rw [← em] at hct
          have hm : m ≤ 9223372036854775807 := by omega
          have Em := hid em
          clear own4 em hct b3 o4 h3 J3 d0 hz3
          have d0 : w4.cell? ⟨w1.heap.size, 0, none⟩ = some (.string ⟨B'.toArray⟩) := Has.cell K4 (j := 0) rfl
          go_wp2
          go_region_held3 (fun wx => wx.cell? ⟨w1.heap.size, 0, none⟩ = some (.string ⟨B'.toArray⟩)) (first | exact d0 | exact d0' | exact d0'')
            (first
              | (go_at_call 21; refine (bytes_any _ B' F' _ ?_).mono ?_; exact J4.below (by repeat' (first | with_reducible exact Below.refl _ _ | with_reducible refine Below.drew ?_)) (Nat.le_refl _); rintro e w5 ⟨rfl, rfl⟩)
              | (go_at_call 22; refine (payloads_any _ B' F' _ ?_ ?_).mono ?_; exact J4.below (by repeat' (first | with_reducible exact Below.refl _ _ | with_reducible refine Below.drew ?_)) (Nat.le_refl _); omega; rintro e w5 ⟨v, rfl, own5, o5⟩; obtain ⟨ad2, cap2, rfl, r5⟩ := RowS.ofOwn own5; rw [← Em.out]; have o5 : Below w4.heap.size w4 w5 := ⟨o5.os, o5.tape, o5.output, o5.size, o5.block⟩; have d0' : w5.cell? ⟨w1.heap.size, 0, none⟩ = some (.string ⟨B'.toArray⟩) := Has.cell (K4.below o5 (Nat.le_refl _)) (j := 0) rfl; have r4' := r4.below o5 (Nat.le_refl _))
              | (go_at_call 13; refine (strings_any ad2 ad1 m cap2 cap1 (scanL B').1 _ hm Em.out.symm ?_ ?_).mono ?_; exact r5.below (by repeat' (first | with_reducible exact Below.refl _ _ | with_reducible refine Below.drew ?_)) (Nat.le_refl _); exact r4'.below (by repeat' (first | with_reducible exact Below.refl _ _ | with_reducible refine Below.drew ?_)) (Nat.le_refl _); rintro e w6 ⟨rfl, o6⟩; have o6 : Below w5.heap.size w5 w6 := ⟨o6.os, o6.tape, o6.output, o6.size, o6.block⟩; have d0'' : w6.cell? ⟨w1.heap.size, 0, none⟩ = some (.string ⟨B'.toArray⟩) := Has.cell ((K4.below o5 (Nat.le_refl _)).below o6 (Nat.le_refl _)) (j := 0) rfl))
          have J6 := (J4.below o5 (Nat.le_refl _)).below o6 (Nat.le_refl _)
          have K6 := (K4.below o5 (Nat.le_refl _)).below o6 (Nat.le_refl _)
          have b5 := b4.trans (o5.mono b4.size)
          have b6 := b5.trans (o6.mono b5.size)
          have J6h := hid J6
          clear J6
          have K6h := hid K6
          clear K6
          have HLh := hid HL
          clear HL
          have HFh := hid HF
          clear HF
          have b6h := hid b6
          clear b6
          clear J4 K4 o5 o6 b4 b5 r4 r4' r5 d0 d0' d0'' own5 Em hm
          set_option maxRecDepth 20000 in go_wp2
          go_roundw
          case rel => exact ⟨k + 1, B', F', by omega, by go_num, J6h.out, K6h.out, HFh.out, HLh.out, b6h.out⟩
          case measure => simp [intOf]; omega
    · have hkk : k = n := by omega
      subst hkk
      clear hj hkA
      go_wp2_with fail
      refine (awake_any _).mono ?_
      rintro e w2 ⟨rfl, b2⟩
      have b3 : Below w.heap.size w w2 := hb.trans (b2.mono hb.size)
      clear b2 hb
      go_wp2
      go_ret
      exact ⟨rfl, b3⟩

theorem plays_zero (a : Option Addr) (cap : Nat) (w : World) :
    Calls Try.prog 5 #[.slice a 0 cap] w fun e w' => e = .returned (.bool true) ∧ Below w.heap.size w w' := by
  go_enter Try.func5, Try.ntmps5
  go_wp2_with fail
  refine (new_any w).mono ?_
  rintro e w1 ⟨rfl, h1, b1⟩
  have l1 := h1.lt
  go_wp2_with fail
  have bb1 : Below w.heap.size w (w1.alloc (.cells #[.string ⟨#[]⟩, .int .i64 0] 40)) := b1.alloc b1.size _
  clear h1 b1
  refine wp_loop_rounds 1 ?_
  rw [rounds_succ]
  go_wp2_with fail
  refine (awake_any _).mono ?_
  rintro e w2 ⟨rfl, b2⟩
  have b3 : Below w.heap.size w w2 := bb1.trans (b2.mono bb1.size)
  clear b2 bb1
  go_wp2
  go_ret
  exact ⟨rfl, b3⟩
theorem plays_any (a : Option Addr) (n cap : Nat) (w : World) (hm : n ≤ 9223372036854775807) (ha : ActsAt w a n) :
    Calls Try.prog 5 #[.slice a n cap] w fun e w' => e = .returned (.bool true) ∧ Below w.heap.size w w' := by
  by_cases h : 30 < n
  · exact plays_many a n cap w h hm
  · by_cases h0 : n = 0
    · subst h0
      exact plays_zero a cap w
    · obtain ⟨b, o, rfl⟩ := ha.head (by omega)
      exact plays_some b o n cap w (by omega) ha
end Go.Proofs.Ytpekfdpdjeoeaaa
