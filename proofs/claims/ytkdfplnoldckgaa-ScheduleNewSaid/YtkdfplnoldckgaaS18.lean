/-
  The walk of the chapter's examples.
-/
import Derived.Test.YtkdfplnoldckgaaRows
import Derived.Test.YtkdfplnoldckgaaSMem
import Derived.Test.YtkdfplnoldckgaaS1
import Derived.Test.YtkdfplnoldckgaaS9
import Derived.Test.YtkdfplnoldckgaaS12
import Derived.Test.YtkdfplnoldckgaaS13
import Derived.Test.YtkdfplnoldckgaaS17
import Derived.WalkKit
import Derived.ProofKit
import Derived.OpenShut
import Derived.Deep.DeepMust
import Derived.Outline
namespace Go.Proofs.Ytkdfplnoldckgaa
open Go.ChangeShapes Go.WideShapes Go.ChangeAt Go.RowKit

theorem ints_bel (a1 a2 : Option Addr) (n m c1 c2 : Nat) (l : List Int) (w : World) (h1 : HeldL IntC w a1 n c1 l) (h2 : HeldL IntC w a2 m c2 l) :
    Calls Try.prog 35 #[.slice a1 n c1, .slice a2 m c2] w fun e w' => e = .returned (.bool true) ∧ Below w.heap.size w w' :=
  (ints_any a1 a2 n m c1 c2 l w h1 h2).mono fun e w' ⟨he, q, hq⟩ => ⟨he, by rw [hq]; exact ⟨rfl, rfl, rfl, Nat.le_refl _, fun _ _ => rfl⟩⟩
def eL2 : List (List (List Int)) := [[[0, 3], [1, 2]], [[3, 1], [2, 0]], [[2, 3], [0, 1]]]
def eL3 : List (List (List Int)) := [[[0, 1, 2]], [[1, 3, 0]], [[3, 0, 2]], [[1, 2, 3]]]
theorem eL2_eq : robinL 4 2 = eL2 := by decide
theorem eL3_eq : robinL 4 3 = eL3 := by decide
theorem eE2 : robinE 4 2 = 0 := by decide
theorem eE3 : robinE 4 3 = 0 := by decide
theorem eE17 : robinE 17 2 = 12 := by decide
theorem eS : swiss [2, 0, 1, 3] [[0, 2]] 2 = (0, [[2, 1], [0, 3]]) := by decide
theorem eC : checkE 4 eL2 = 0 := by decide
theorem eM : meetN eL2 0 1 = 1 := by decide
/-- A slice of the call's own: its parts by name. -/
theorem held_of {α : Type} {C : World → Value → α → Prop} {B n : Nat} {E : TypeId} {w : World} {v : Value} {l : List α} (h : OwnL C B E w v l) (hn : l.length = n) (h0 : 0 < n) : ∃ b o c, v = .slice (some ⟨b, o, none⟩) n c ∧ HeldL C w (some ⟨b, o, none⟩) n c l := by
  subst hn
  obtain ⟨ad, c, rfl, hh⟩ := h.slice
  obtain ⟨b, o, rfl⟩ := hh.head h0
  exact ⟨b, o, c, rfl, hh⟩
theorem elem_of {α : Type} {C : World → Value → α → Prop} {w : World} {b o n cap : Nat} {l : List (List α)} (h : HeldL (SliceOf C) w (some ⟨b, o, none⟩) n cap l) (i m : Nat) (hi : i < n) (hm : (l.getD i []).length = m) (h0 : 0 < m) :
    ∃ b' o' c, w.cell? ⟨b, o + i, none⟩ = some (.slice (some ⟨b', o', none⟩) m c) ∧ HeldL C w (some ⟨b', o', none⟩) m c (l.getD i []) := by
  obtain ⟨ad, m', c, hc, hh⟩ := h.elem i hi
  obtain rfl : m' = m := hh.len.symm.trans hm
  obtain ⟨b', o', rfl⟩ := hh.head h0
  exact ⟨b', o', c, hc, hh⟩
theorem lit_held {w : World} {b n : Nat} {T : TypeId} {l : List Int} (h : Has w b (ints l) T) (hn : l.length = n) (hm : (n : Int) ≤ 9223372036854775807) : HeldL IntC w (some ⟨b, 0, none⟩) n n l := rests_ints h trivial hn hm
set_option maxRecDepth 100000 in
set_option maxHeartbeats 16000000 in
theorem awake_any (w : World) : Calls Try.prog 13 #[] w fun e w' => e = .returned (.bool true) ∧ Below w.heap.size w w' := by
  go_enter Try.func13, Try.ntmps13
  go_wp2_with fail
  refine (robin_any 4 2 _).mono ?_
  rintro e w1 ⟨v1, c1, rfl, own1, rfl, b1⟩
  rw [eL2_eq] at own1
  rw [eE2]
  obtain ⟨bl, ol, cl, rfl, hl1⟩ := held_of (n := 3) own1 rfl (by omega)
  clear own1
  go_wp2_with fail
  refine (robin_any 4 3 _).mono ?_
  rintro e w2 ⟨v2, c2, rfl, own2, rfl, b2⟩
  rw [eL3_eq] at own2
  rw [eE3]
  obtain ⟨bm, om, cm, rfl, hm2⟩ := held_of (n := 4) own2 rfl (by omega)
  clear own2
  have hl2 := hl1.below b2 (Nat.le_refl _)
  have b12 := b1.trans (b2.mono b1.size)
  clear hl1 b1 b2
  obtain ⟨br, or, cr, hcr, hr⟩ := elem_of hl2 1 2 (by omega) rfl (by omega)
  obtain ⟨bs, os, cs, hcs, hs⟩ := elem_of hm2 2 1 (by omega) rfl (by omega)
  obtain ⟨bp, op, cp, hcp, hp⟩ := elem_of hr 0 2 (by omega) rfl (by omega)
  obtain ⟨bq, oq, cq, hcq, hq⟩ := elem_of hs 0 3 (by omega) rfl (by omega)
  rw [Nat.add_zero] at hcp hcq
  have hp : HeldL IntC w2 (some ⟨bp, op, none⟩) 2 cp [3, 1] := hp
  have hq : HeldL IntC w2 (some ⟨bq, oq, none⟩) 3 cq [3, 0, 2] := hq
  have B3 : Below w2.heap.size w2 (w2.alloc (.cells #[.int .i64 3, .int .i64 1] 3)) := (Below.refl _ _).alloc (Nat.le_refl _) _
  have hn3 : HeldL IntC (w2.alloc (.cells #[.int .i64 3, .int .i64 1] 3)) (some ⟨w2.heap.size, 0, none⟩) 2 2 [3, 1] := lit_held (l := [3, 1]) (Has.new w2 (ints [3, 1]) _) rfl (by omega)
  have hp3 := hp.below B3 (Nat.le_refl _)
  go_wp2_with fail
  refine (ints_bel _ _ 2 2 _ _ [3, 1] _ hp3 hn3).mono ?_
  rintro e w3 ⟨rfl, b3⟩
  have b23 : Below w2.heap.size w2 w3 := B3.trans (b3.mono B3.size)
  clear hp hp3 hn3 B3 b3
  have hcs3 := (b23.cell (p := ⟨bm, om + 2, none⟩) (lt_of_cell hcs)).trans hcs
  have hcq3 := (b23.cell (p := ⟨bs, os, none⟩) (lt_of_cell hcq)).trans hcq
  have hq3 := hq.below b23 (Nat.le_refl _)
  have B4 : Below w3.heap.size w3 (w3.alloc (.cells #[.int .i64 3, .int .i64 0, .int .i64 2] 3)) := (Below.refl _ _).alloc (Nat.le_refl _) _
  have hn4 : HeldL IntC (w3.alloc (.cells #[.int .i64 3, .int .i64 0, .int .i64 2] 3)) (some ⟨w3.heap.size, 0, none⟩) 3 3 [3, 0, 2] := lit_held (l := [3, 0, 2]) (Has.new w3 (ints [3, 0, 2]) _) rfl (by omega)
  have hq4 := hq3.below B4 (Nat.le_refl _)
  go_wp2_with fail
  refine (ints_bel _ _ 3 3 _ _ [3, 0, 2] _ hq4 hn4).mono ?_
  rintro e w4 ⟨rfl, b4⟩
  have b24 : Below w2.heap.size w2 w4 := b23.trans ((B4.trans (b4.mono B4.size)).mono b23.size)
  have hl4 := hl2.below b24 (Nat.le_refl _)
  have b04 := b12.trans (b24.mono b12.size)
  clear hq hq3 hq4 hn4 B4 b4 b23 b24 hcs hcs3 hcq hcq3 hcr hcp hr hs hm2 hl2 b12
  obtain ⟨W, eW⟩ : ∃ W, W = (((w4.alloc (.cells #[.int .i64 2, .int .i64 0, .int .i64 0, .int .i64 0, .int .i64 0, .int .i64 0, .int .i64 0, .int .i64 0, .int .i64 0, .int .i64 0, .int .i64 0, .int .i64 0, .int .i64 1, .int .i64 0, .int .i64 0, .int .i64 0, .int .i64 0, .int .i64 0, .int .i64 3, .int .i64 0, .int .i64 0, .int .i64 0, .int .i64 0, .int .i64 0] 43)).alloc (.cells #[.int .i64 0, .int .i64 2] 3)).alloc (.cells #[.slice (some ⟨w4.heap.size + 1, 0, none⟩) 2 2] 38)) := ⟨_, rfl⟩
  have bW : Below w4.heap.size w4 W := by rw [eW]; exact (((Below.refl _ _).alloc (Nat.le_refl _) _).alloc (by simp) _).alloc (by simp; omega) _
  have hS1 : Has W w4.heap.size #[.int .i64 2, .int .i64 0, .int .i64 0, .int .i64 0, .int .i64 0, .int .i64 0, .int .i64 0, .int .i64 0, .int .i64 0, .int .i64 0, .int .i64 0, .int .i64 0, .int .i64 1, .int .i64 0, .int .i64 0, .int .i64 0, .int .i64 0, .int .i64 0, .int .i64 3, .int .i64 0, .int .i64 0, .int .i64 0, .int .i64 0, .int .i64 0] 43 := by rw [eW]; exact ((Has.new w4 _ _).alloc _).alloc _
  have hS2 : Has W (w4.heap.size + 1) #[.int .i64 0, .int .i64 2] 3 := by rw [eW]; exact (Has.newAt (by simp)).alloc _
  have hS3 : Has W (w4.heap.size + 1 + 1) #[.slice (some ⟨w4.heap.size + 1, 0, none⟩) 2 2] 38 := by rw [eW]; exact Has.newAt (by simp)
  have hStd : StdAt W (some ⟨w4.heap.size, 0, none⟩) 4 [2, 0, 1, 3] := ⟨rfl, fun i hi => by
    rcases (show i = 0 ∨ i = 1 ∨ i = 2 ∨ i = 3 by omega) with rfl | rfl | rfl | rfl
    all_goals exact ⟨_, 0, 0, 0, 0, 0, 0, rfl, hS1.cell rfl, hS1.cell rfl, hS1.cell rfl, hS1.cell rfl, hS1.cell rfl, hS1.cell rfl⟩⟩
  have hPl : HeldL IntsC W (some ⟨w4.heap.size + 1 + 1, 0, none⟩) 1 1 [[0, 2]] := rests_one hS3 trivial (rests_ints (l := [0, 2]) hS2 trivial rfl (by omega))
  rw [eW] at hStd hPl
  have bW' := bW
  rw [eW] at bW'
  clear hS1 hS2 hS3 eW bW
  go_wp2_with fail
  refine (swiss_any _ _ 4 4 1 1 2 [2, 0, 1, 3] [[0, 2]] _ hStd hPl).mono ?_
  rintro e w5 ⟨v5, rfl, own5, b5⟩
  rw [eS] at own5
  rw [eS]
  have b45 := bW'.trans (b5.mono bW'.size)
  clear hStd hPl bW' b5
  replace own5 : OwnL IntsC _ 38 w5 v5 [[2, 1], [0, 3]] := own5
  obtain ⟨bt, ot, ct, rfl, ht⟩ := held_of (n := 2) own5 rfl (by omega)
  clear own5
  go_wp2_with fail
  refine (robin_any 17 2 _).mono ?_
  rintro e w6 ⟨v6, c6, rfl, _, rfl, b6⟩
  rw [eE17]
  have b46 := b45.trans (b6.mono b45.size)
  have ht6 := ht.below b6 (Nat.le_refl _)
  have hl6 := hl4.below b46 (Nat.le_refl _)
  have b06 := b04.trans (b46.mono b04.size)
  clear ht b6 b45 b46 hl4 b04
  obtain ⟨bx, ox, cx, hcx, hx⟩ := elem_of ht6 0 2 (by omega) rfl (by omega)
  obtain ⟨by', oy, cy, hcy, hy⟩ := elem_of ht6 1 2 (by omega) rfl (by omega)
  rw [Nat.add_zero] at hcx
  have hx : HeldL IntC w6 (some ⟨bx, ox, none⟩) 2 cx [2, 1] := hx
  have hy : HeldL IntC w6 (some ⟨by', oy, none⟩) 2 cy [0, 3] := hy
  have B7 : Below w6.heap.size w6 (w6.alloc (.cells #[.int .i64 2, .int .i64 1] 3)) := (Below.refl _ _).alloc (Nat.le_refl _) _
  have hn7 : HeldL IntC (w6.alloc (.cells #[.int .i64 2, .int .i64 1] 3)) (some ⟨w6.heap.size, 0, none⟩) 2 2 [2, 1] := lit_held (l := [2, 1]) (Has.new w6 (ints [2, 1]) _) rfl (by omega)
  have hx7 := hx.below B7 (Nat.le_refl _)
  go_wp2_with fail
  refine (ints_bel _ _ 2 2 _ _ [2, 1] _ hx7 hn7).mono ?_
  rintro e w7 ⟨rfl, b7⟩
  have b67 : Below w6.heap.size w6 w7 := B7.trans (b7.mono B7.size)
  clear hx hx7 hn7 B7 b7
  have hcy7 := (b67.cell (p := ⟨bt, ot + 1, none⟩) (lt_of_cell hcy)).trans hcy
  have hy7 := hy.below b67 (Nat.le_refl _)
  have B8 : Below w7.heap.size w7 (w7.alloc (.cells #[.int .i64 0, .int .i64 3] 3)) := (Below.refl _ _).alloc (Nat.le_refl _) _
  have hn8 : HeldL IntC (w7.alloc (.cells #[.int .i64 0, .int .i64 3] 3)) (some ⟨w7.heap.size, 0, none⟩) 2 2 [0, 3] := lit_held (l := [0, 3]) (Has.new w7 (ints [0, 3]) _) rfl (by omega)
  have hy8 := hy7.below B8 (Nat.le_refl _)
  go_wp2_with fail
  refine (ints_bel _ _ 2 2 _ _ [0, 3] _ hy8 hn8).mono ?_
  rintro e w8 ⟨rfl, b8⟩
  have b68 : Below w6.heap.size w6 w8 := b67.trans ((B8.trans (b8.mono B8.size)).mono b67.size)
  have hl8 := hl6.below b68 (Nat.le_refl _)
  have b08 := b06.trans (b68.mono b06.size)
  clear hy hy7 hy8 hn8 B8 b8 b67 b68 hcx hcy hcy7 hl6 b06 ht6
  go_wp2_with fail
  refine (check_some bl ol 3 cl 4 eL2 _ (by omega) (by omega) hl8).mono ?_
  rintro e w9 ⟨rfl, b9⟩
  rw [eC]
  have hl9 := hl8.below b9 (Nat.le_refl _)
  have b09 := b08.trans (b9.mono b08.size)
  clear hl8 b9 b08
  go_wp2_with fail
  refine (meetings_some bl ol 3 cl eL2 0 1 _ (by omega) (by decide) hl9).mono ?_
  rintro e w10 ⟨rfl, b10⟩
  rw [eM]
  have b010 := b09.trans (b10.mono b09.size)
  clear hl9 b10 b09
  go_wp2
  go_ret
  exact ⟨rfl, b010⟩
end Go.Proofs.Ytkdfplnoldckgaa
