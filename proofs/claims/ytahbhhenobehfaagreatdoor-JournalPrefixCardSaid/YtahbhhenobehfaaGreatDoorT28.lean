/-
  The walk of part of the law.
-/
import Derived.Test.YtahbhhenobehfaaGreatDoorTPart
import Derived.Test.YtahbhhenobehfaaGreatDoorT26
namespace Go.Proofs.YtahbhhenobehfaaGreatDoor
open Go.ChangeShapes Go.WideShapes Go.ChangeAt Go.RowKit

theorem fine_rounds {r : Rec} (h : wfB r = true) : r.rounds.length ≤ 65 := by
  have h1 := (wfB_parts h).1
  unfold headB at h1
  simp only [Bool.and_eq_true, decide_eq_true_eq] at h1
  exact h1.2.2.2.2
theorem nine_sets (a0 a1 a2 a3 a4 a5 a6 a7 a8 b0 b1 b2 b3 b4 b5 b6 b7 b8 : Value) : (((((((((#[a0, a1, a2, a3, a4, a5, a6, a7, a8].setIfInBounds 0 b0).setIfInBounds 1 b1).setIfInBounds 2 b2).setIfInBounds 3 b3).setIfInBounds 4 b4).setIfInBounds 5 b5).setIfInBounds 6 b6).setIfInBounds 7 b7).setIfInBounds 8 b8) = #[b0, b1, b2, b3, b4, b5, b6, b7, b8] := by simp
theorem Has.nine {w : World} {g : Nat} {T : TypeId} {a0 a1 a2 a3 a4 a5 a6 a7 a8 : Value} (H : Has w g #[a0, a1, a2, a3, a4, a5, a6, a7, a8] T) (b0 b1 b2 b3 b4 b5 b6 b7 b8 : Value) : Has (((((((((w.setCell ⟨g, 0, none⟩ b0).setCell ⟨g, 1, none⟩ b1).setCell ⟨g, 2, none⟩ b2).setCell ⟨g, 3, none⟩ b3).setCell ⟨g, 4, none⟩ b4).setCell ⟨g, 5, none⟩ b5).setCell ⟨g, 6, none⟩ b6).setCell ⟨g, 7, none⟩ b7).setCell ⟨g, 8, none⟩ b8) g #[b0, b1, b2, b3, b4, b5, b6, b7, b8] T := by
  have h := (Has.set (Has.set (Has.set (Has.set (Has.set (Has.set (Has.set (Has.set (Has.set H 0 b0) 1 b1) 2 b2) 3 b3) 4 b4) 5 b5) 6 b6) 7 b7) 8 b8)
  rw [nine_sets] at h
  exact h
/-- A record as a value, read in a world. -/
def RecV (w : World) (v : Value) (r : Rec) : Prop := ∃ ar nr cr ag ng cg ae ne ce, v = .agg #[.string r.name, .string r.text, .int .u64 r.seed, .int .i64 r.start, .int .i64 r.clock, .slice ar nr cr, .bool r.ended, .slice ag ng cg, .slice ae ne ce] ∧ RecAt w r ar nr cr ag ng cg ae ne ce
set_option maxRecDepth 20000 in
set_option maxHeartbeats 4000000 in
theorem part_any (r : Rec) (ar : Option Addr) (nr cr : Nat) (ag : Option Addr) (ng cg : Nat) (ae : Option Addr) (ne ce : Nat) (m : Nat) (w : World) (h : RecAt w r ar nr cr ag ng cg ae ne ce) (hw : wfB r = true) :
    Calls Tryz.prog 10 #[.agg #[.string r.name, .string r.text, .int .u64 r.seed, .int .i64 r.start, .int .i64 r.clock, .slice ar nr cr, .bool r.ended, .slice ag ng cg, .slice ae ne ce], .int .i64 m] w fun e w' => ∃ v, e = .returned v ∧ RecV w' v (partR r m) ∧ Below w.heap.size w w' := by
  have hl := h.rounds.len
  have hle := h.rounds.le
  have hmx := h.rounds.max
  by_cases hmn : nr ≤ m
  · have hmi : (nr : Int) ≤ m := by omega
    have hP := hid (partR_all (r := r) (m := m) (by omega))
    have H := hid h
    clear h hmn
    go_enter Tryz.func10, Tryz.ntmps10
    go_wp2
    refine bodyPost_ret (v := .agg #[.string r.name, .string r.text, .int .u64 r.seed, .int .i64 r.start, .int .i64 r.clock, .slice ar nr cr, .bool r.ended, .slice ag ng cg, .slice ae ne ce]) (by simp [results, Tryz.results10, go_sem]) rfl ?_
    have b2 := ((Below.refl w.heap.size w).alloc (Nat.le_refl _) (.cells #[.string r.name, .string r.text, .int .u64 r.seed, .int .i64 r.start, .int .i64 r.clock, .slice ar nr cr, .bool r.ended, .slice ag ng cg, .slice ae ne ce] 27)).alloc (by simp) (.cells #[.string r.name, .string r.text, .int .u64 r.seed, .int .i64 r.start, .int .i64 r.clock, .slice ar nr cr, .bool r.ended, .slice ag ng cg, .slice ae ne ce] 27)
    exact ⟨_, rfl, ⟨ar, nr, cr, ag, ng, cg, ae, ne, ce, by rw [hP.out], by rw [hP.out]; exact H.out.below b2 (Nat.le_refl _)⟩, b2⟩
  · have hmi : ¬ (nr : Int) ≤ m := by omega
    have hm0 : (0 : Int) ≤ m := by omega
    have hmc : (m : Int) ≤ cr := by omega
    have hP := hid (partR_cut (r := r) (m := m) (by omega))
    have hR := h.rounds.take m (by omega)
    have hs := hid (seats_le (all_take (wfB_parts hw).2.2.1 m))
    have hm65 := hid (show m ≤ 1000 by have := (fine_rounds hw); omega)
    obtain ⟨_, hn1, hn2⟩ : True ∧ r.name.size ≤ maxLen ∧ r.text.size ≤ maxLen := ⟨trivial, h.name, h.text⟩
    obtain ⟨b, o, rfl⟩ := h.rounds.head (by omega)
    obtain ⟨name, text, seed, start, clock, rounds, ended, goals, excl⟩ := r
    simp only at hP hR hs hn1 hn2 ⊢
    have H := hid h
    clear h hmn hw hl
    go_enter Tryz.func10, Tryz.ntmps10
    go_wp2_with fail
    have b1 := (Below.refl w.heap.size w).alloc (Nat.le_refl _) (.cells #[.string name, .string text, .int .u64 seed, .int .i64 start, .int .i64 clock, .slice (some ⟨b, o, none⟩) m cr, .bool false, .slice none 0 0, .slice ae ne ce] 27)
    have b2 := b1.alloc b1.size (.cells #[.string ⟨#[]⟩, .string ⟨#[]⟩, .int .u64 0, .int .i64 0, .int .i64 0, .slice none 0 0, .bool false, .slice none 0 0, .slice none 0 0] 27)
    have H1 := (Has.new w #[.string name, .string text, .int .u64 seed, .int .i64 start, .int .i64 clock, .slice (some ⟨b, o, none⟩) m cr, .bool false, .slice none 0 0, .slice ae ne ce] 27).alloc (.cells #[.string ⟨#[]⟩, .string ⟨#[]⟩, .int .u64 0, .int .i64 0, .int .i64 0, .slice none 0 0, .bool false, .slice none 0 0, .slice none 0 0] 27)
    have H2 := Has.newAt (w := w.alloc (.cells #[.string name, .string text, .int .u64 seed, .int .i64 start, .int .i64 clock, .slice (some ⟨b, o, none⟩) m cr, .bool false, .slice none 0 0, .slice ae ne ce] 27)) (vs := #[.string ⟨#[]⟩, .string ⟨#[]⟩, .int .u64 0, .int .i64 0, .int .i64 0, .slice none 0 0, .bool false, .slice none 0 0, .slice none 0 0]) (T := 27) (n := w.heap.size + 1) (by simp)
    obtain ⟨w2, ew2⟩ : ∃ w2, w2 = (w.alloc (.cells #[.string name, .string text, .int .u64 seed, .int .i64 start, .int .i64 clock, .slice (some ⟨b, o, none⟩) m cr, .bool false, .slice none 0 0, .slice ae ne ce] 27)).alloc (.cells #[.string ⟨#[]⟩, .string ⟨#[]⟩, .int .u64 0, .int .i64 0, .int .i64 0, .slice none 0 0, .bool false, .slice none 0 0, .slice none 0 0] 27) := ⟨_, rfl⟩
    have hw2 : w2.heap.size = w.heap.size + 2 := by rw [ew2]; simp
    rw [← ew2] at b2 H1 H2
    rw [← ew2]
    clear ew2 b1
    refine (rexcl_any (some ⟨b, o, none⟩) m cr (rounds.take m) w2 (hR.below b2 (Nat.le_refl _)) hm65.out hs.out).mono ?_
    rintro e w3 ⟨v3, rfl, own3, o3⟩
    replace H1 := H1.below o3 H1.lt
    replace H2 := H2.below o3 H2.lt
    obtain ⟨a3, c3', rfl, hx3⟩ := own3.slice
    have f8 := H1.free 8
    have c0 := H1.cell (j := 0) rfl
    have c1 := H1.cell (j := 1) rfl
    have c2 := H1.cell (j := 2) rfl
    have c3 := H1.cell (j := 3) rfl
    have c4 := H1.cell (j := 4) rfl
    have c5 := H1.cell (j := 5) rfl
    have c6 := H1.cell (j := 6) rfl
    have c7 := H1.cell (j := 7) rfl
    have c8 := H1.cell (j := 8) rfl
    have d0 := H2.cell (j := 0) rfl
    have d1 := H2.cell (j := 1) rfl
    have d2 := H2.cell (j := 2) rfl
    have d3 := H2.cell (j := 3) rfl
    have d4 := H2.cell (j := 4) rfl
    have d5 := H2.cell (j := 5) rfl
    have d6 := H2.cell (j := 6) rfl
    have d7 := H2.cell (j := 7) rfl
    have d8 := H2.cell (j := 8) rfl
    have e0 := H2.free 0
    have e1 := H2.free 1
    have e2 := H2.free 2
    have e3 := H2.free 3
    have e4 := H2.free 4
    have e5 := H2.free 5
    have e6 := H2.free 6
    have e7 := H2.free 7
    have e8 := H2.free 8
    go_wp2_with fail
    obtain ⟨wF, eF⟩ : ∃ wF, wF = ((((((((((w3.setCell ⟨w.heap.size, 8, none⟩ (.slice a3 (exclL (List.take m rounds)).length c3')).setCell ⟨w.heap.size + 1, 0, none⟩ (.string name)).setCell ⟨w.heap.size + 1, 1, none⟩ (.string text)).setCell ⟨w.heap.size + 1, 2, none⟩ (.int .u64 seed)).setCell ⟨w.heap.size + 1, 3, none⟩ (.int .i64 start)).setCell ⟨w.heap.size + 1, 4, none⟩ (.int .i64 clock)).setCell ⟨w.heap.size + 1, 5, none⟩ (.slice (some ⟨b, o, none⟩) m cr)).setCell ⟨w.heap.size + 1, 6, none⟩ (.bool false)).setCell ⟨w.heap.size + 1, 7, none⟩ (.slice none 0 0)).setCell ⟨w.heap.size + 1, 8, none⟩ (.slice a3 (exclL (List.take m rounds)).length c3')) := ⟨_, rfl⟩
    have HF := Has.nine (H2.other (a := ⟨w.heap.size, 8, none⟩) (by simp) (.slice a3 (exclL (List.take m rounds)).length c3')) (.string name) (.string text) (.int .u64 seed) (.int .i64 start) (.int .i64 clock) (.slice (some ⟨b, o, none⟩) m cr) (.bool false) (.slice none 0 0) (.slice a3 (exclL (List.take m rounds)).length c3')
    have hO := (Only.setIn (Only.setIn (Only.setIn (Only.setIn (Only.setIn (Only.setIn (Only.setIn (Only.setIn (Only.setIn (Only.setIn (Only.refl [w.heap.size, w.heap.size + 1] w3) (b := w.heap.size) (o := 8) (by simp) (.slice a3 (exclL (List.take m rounds)).length c3')) (b := w.heap.size + 1) (o := 0) (by simp) (.string name)) (b := w.heap.size + 1) (o := 1) (by simp) (.string text)) (b := w.heap.size + 1) (o := 2) (by simp) (.int .u64 seed)) (b := w.heap.size + 1) (o := 3) (by simp) (.int .i64 start)) (b := w.heap.size + 1) (o := 4) (by simp) (.int .i64 clock)) (b := w.heap.size + 1) (o := 5) (by simp) (.slice (some ⟨b, o, none⟩) m cr)) (b := w.heap.size + 1) (o := 6) (by simp) (.bool false)) (b := w.heap.size + 1) (o := 7) (by simp) (.slice none 0 0)) (b := w.heap.size + 1) (o := 8) (by simp) (.slice a3 (exclL (List.take m rounds)).length c3'))
    rw [← eF] at HF hO
    rw [← eF]
    clear eF
    have r0 := HF.cell (j := 0) rfl
    have r1 := HF.cell (j := 1) rfl
    have r2 := HF.cell (j := 2) rfl
    have r3 := HF.cell (j := 3) rfl
    have r4 := HF.cell (j := 4) rfl
    have r5 := HF.cell (j := 5) rfl
    have r6 := HF.cell (j := 6) rfl
    have r7 := HF.cell (j := 7) rfl
    have r8 := HF.cell (j := 8) rfl
    refine bodyPost_ret (v := .agg #[.string name, .string text, .int .u64 seed, .int .i64 start, .int .i64 clock, .slice (some ⟨b, o, none⟩) m cr, .bool false, .slice none 0 0, .slice a3 (exclL (List.take m rounds)).length c3']) (by simp [results, Tryz.results10, go_sem, r0, r1, r2, r3, r4, r5, r6, r7, r8]) rfl ?_
    have hbF : Below w.heap.size w wF := hO.toBelow (b2.trans (o3.mono b2.size)) (by simp) (by have := o3.size; omega)
    have own4 := own3.agr (w' := wF) ⟨hO.size, fun k hk hs => hO.block k hk (by simp; omega)⟩ (fun g e => by have h1 := own3.lt g e; exact hO.block g h1.2 (by simp; omega))
    obtain ⟨a4, c4', e4, hx4⟩ := own4.slice
    cases e4
    exact ⟨_, rfl, ⟨some ⟨b, o, none⟩, m, cr, none, 0, 0, a3, (exclL (List.take m rounds)).length, c3', by rw [hP.out], by rw [hP.out]; exact ⟨hR.below hbF (Nat.le_refl _), (Rests.empty (fun _ => True) wF).held, hx4, hn1, hn2⟩⟩, hbF⟩
end Go.Proofs.YtahbhhenobehfaaGreatDoor
