/-
  The walk of part of the law.
  The walks of begins of package journal and Begins of the reference, and of part.
  The walk of Write of package journal.
  What both Recovers answer; equal lists of texts; records that are at hand.
-/
import Derived.Test.YtahbhhenobehfaaGreatDoorM24
import Derived.Test.YtahbhhenobehfaaGreatDoorNT26
import Derived.Test.YtahbhhenobehfaaGreatDoorM7
import Derived.Test.YtahbhhenobehfaaGreatDoorShelf
import Derived.Test.YtahbhhenobehfaaGreatDoorM38
import Derived.Test.YtahbhhenobehfaaGreatDoorM18
import Derived.Test.YtahbhhenobehfaaGreatDoorNT17
namespace Go.Proofs.YtahbhhenobehfaaGreatDoor
open Go.ChangeShapes Go.WideShapes Go.ChangeAt Go.RowKit

theorem fine_rounds {r : Rec} (h : wfB r = true) : r.rounds.length ≤ 65 := by
  have h1 := (wfB_parts h).1
  unfold headB at h1
  simp only [Bool.and_eq_true, decide_eq_true_eq] at h1
  exact h1.2.2.2.2
theorem nine_sets (a0 a1 a2 a3 a4 a5 a6 a7 a8 b0 b1 b2 b3 b4 b5 b6 b7 b8 : Value) : (((((((((#[a0, a1, a2, a3, a4, a5, a6, a7, a8].setIfInBounds 0 b0).setIfInBounds 1 b1).setIfInBounds 2 b2).setIfInBounds 3 b3).setIfInBounds 4 b4).setIfInBounds 5 b5).setIfInBounds 6 b6).setIfInBounds 7 b7).setIfInBounds 8 b8) = #[b0, b1, b2, b3, b4, b5, b6, b7, b8] := by simp
theorem Has.nine {w : World} {g : Nat} {T : TypeId} {a0 a1 a2 a3 a4 a5 a6 a7 a8 : Value} (H : Has w g #[a0, a1, a2, a3, a4, a5, a6, a7, a8] T) (b0 b1 b2 b3 b4 b5 b6 b7 b8 : Value) : Has (((((((((w.setCell ⟨g, 0, none⟩ b0).setCell ⟨g, 1, none⟩ b1).setCell ⟨g, 2, none⟩ b2).setCell ⟨g, 3, none⟩ b3).setCell ⟨g, 4, none⟩ b4).setCell ⟨g, 5, none⟩ b5).setCell ⟨g, 6, none⟩ b6).setCell ⟨g, 7, none⟩ b7).setCell ⟨g, 8, none⟩ b8) g #[b0, b1, b2, b3, b4, b5, b6, b7, b8] T := by
  have h := (Has.set (Has.set (Has.set (Has.set (Has.set (Has.set (Has.set (Has.set (Has.set H 0 b0) 1 b1) 2 b2) 3 b3) 4 b4) 5 b5) 6 b6) 7 b7) 8 b8)
  rw [nine_sets] at h
  exact h
/-- A record as a value, read in a world. -/
def RecV (w : World) (v : Value) (r : Rec) : Prop := ∃ ar nr cr ag ng cg ae ne ce, v = .agg #[.string r.name, .string r.text, .int .u64 r.seed, .int .i64 r.start, .int .i64 r.clock, .slice ar nr cr, .bool r.ended, .slice ag ng cg, .slice ae ne ce] ∧ RecAt w r ar nr cr ag ng cg ae ne ce
set_option maxRecDepth 20000 in
set_option maxHeartbeats 4000000 in
theorem part_any (r : Rec) (ar : Option Addr) (nr cr : Nat) (ag : Option Addr) (ng cg : Nat) (ae : Option Addr) (ne ce : Nat) (m : Nat) (w : World) (h : RecAt w r ar nr cr ag ng cg ae ne ce) (hw : wfB r = true) :
    Calls Tryz.prog 10 #[.agg #[.string r.name, .string r.text, .int .u64 r.seed, .int .i64 r.start, .int .i64 r.clock, .slice ar nr cr, .bool r.ended, .slice ag ng cg, .slice ae ne ce], .int .i64 m] w fun e w' => ∃ v, e = .returned v ∧ RecV w' v (partR r m) ∧ Below w.heap.size w w' := by
  have hl := h.rounds.len
  have hle := h.rounds.le
  have hmx := h.rounds.max
  by_cases hmn : nr ≤ m
  · have hmi : (nr : Int) ≤ m := by omega
    have hP := hid (partR_all (r := r) (m := m) (by omega))
    have H := hid h
    clear h hmn
    go_enter Tryz.func10, Tryz.ntmps10
    go_wp2
    refine bodyPost_ret (v := .agg #[.string r.name, .string r.text, .int .u64 r.seed, .int .i64 r.start, .int .i64 r.clock, .slice ar nr cr, .bool r.ended, .slice ag ng cg, .slice ae ne ce]) (by simp [results, Tryz.results10, go_sem]) rfl ?_
    have b2 := ((Below.refl w.heap.size w).alloc (Nat.le_refl _) (.cells #[.string r.name, .string r.text, .int .u64 r.seed, .int .i64 r.start, .int .i64 r.clock, .slice ar nr cr, .bool r.ended, .slice ag ng cg, .slice ae ne ce] 27)).alloc (by simp) (.cells #[.string r.name, .string r.text, .int .u64 r.seed, .int .i64 r.start, .int .i64 r.clock, .slice ar nr cr, .bool r.ended, .slice ag ng cg, .slice ae ne ce] 27)
    exact ⟨_, rfl, ⟨ar, nr, cr, ag, ng, cg, ae, ne, ce, by rw [hP.out], by rw [hP.out]; exact H.out.below b2 (Nat.le_refl _)⟩, b2⟩
  · have hmi : ¬ (nr : Int) ≤ m := by omega
    have hm0 : (0 : Int) ≤ m := by omega
    have hmc : (m : Int) ≤ cr := by omega
    have hP := hid (partR_cut (r := r) (m := m) (by omega))
    have hR := h.rounds.take m (by omega)
    have hs := hid (seats_le (all_take (wfB_parts hw).2.2.1 m))
    have hm65 := hid (show m ≤ 1000 by have := (fine_rounds hw); omega)
    obtain ⟨_, hn1, hn2⟩ : True ∧ r.name.size ≤ maxLen ∧ r.text.size ≤ maxLen := ⟨trivial, h.name, h.text⟩
    obtain ⟨b, o, rfl⟩ := h.rounds.head (by omega)
    obtain ⟨name, text, seed, start, clock, rounds, ended, goals, excl⟩ := r
    simp only at hP hR hs hn1 hn2 ⊢
    have H := hid h
    clear h hmn hw hl
    go_enter Tryz.func10, Tryz.ntmps10
    go_wp2_with fail
    have b1 := (Below.refl w.heap.size w).alloc (Nat.le_refl _) (.cells #[.string name, .string text, .int .u64 seed, .int .i64 start, .int .i64 clock, .slice (some ⟨b, o, none⟩) m cr, .bool false, .slice none 0 0, .slice ae ne ce] 27)
    have b2 := b1.alloc b1.size (.cells #[.string ⟨#[]⟩, .string ⟨#[]⟩, .int .u64 0, .int .i64 0, .int .i64 0, .slice none 0 0, .bool false, .slice none 0 0, .slice none 0 0] 27)
    have H1 := (Has.new w #[.string name, .string text, .int .u64 seed, .int .i64 start, .int .i64 clock, .slice (some ⟨b, o, none⟩) m cr, .bool false, .slice none 0 0, .slice ae ne ce] 27).alloc (.cells #[.string ⟨#[]⟩, .string ⟨#[]⟩, .int .u64 0, .int .i64 0, .int .i64 0, .slice none 0 0, .bool false, .slice none 0 0, .slice none 0 0] 27)
    have H2 := Has.newAt (w := w.alloc (.cells #[.string name, .string text, .int .u64 seed, .int .i64 start, .int .i64 clock, .slice (some ⟨b, o, none⟩) m cr, .bool false, .slice none 0 0, .slice ae ne ce] 27)) (vs := #[.string ⟨#[]⟩, .string ⟨#[]⟩, .int .u64 0, .int .i64 0, .int .i64 0, .slice none 0 0, .bool false, .slice none 0 0, .slice none 0 0]) (T := 27) (n := w.heap.size + 1) (by simp)
    obtain ⟨w2, ew2⟩ : ∃ w2, w2 = (w.alloc (.cells #[.string name, .string text, .int .u64 seed, .int .i64 start, .int .i64 clock, .slice (some ⟨b, o, none⟩) m cr, .bool false, .slice none 0 0, .slice ae ne ce] 27)).alloc (.cells #[.string ⟨#[]⟩, .string ⟨#[]⟩, .int .u64 0, .int .i64 0, .int .i64 0, .slice none 0 0, .bool false, .slice none 0 0, .slice none 0 0] 27) := ⟨_, rfl⟩
    have hw2 : w2.heap.size = w.heap.size + 2 := by rw [ew2]; simp
    rw [← ew2] at b2 H1 H2
    rw [← ew2]
    clear ew2 b1
    refine (rexcl_any (some ⟨b, o, none⟩) m cr (rounds.take m) w2 (hR.below b2 (Nat.le_refl _)) hm65.out hs.out).mono ?_
    rintro e w3 ⟨v3, rfl, own3, o3⟩
    replace H1 := H1.below o3 H1.lt
    replace H2 := H2.below o3 H2.lt
    obtain ⟨a3, c3', rfl, hx3⟩ := own3.slice
    have f8 := H1.free 8
    have c0 := H1.cell (j := 0) rfl
    have c1 := H1.cell (j := 1) rfl
    have c2 := H1.cell (j := 2) rfl
    have c3 := H1.cell (j := 3) rfl
    have c4 := H1.cell (j := 4) rfl
    have c5 := H1.cell (j := 5) rfl
    have c6 := H1.cell (j := 6) rfl
    have c7 := H1.cell (j := 7) rfl
    have c8 := H1.cell (j := 8) rfl
    have d0 := H2.cell (j := 0) rfl
    have d1 := H2.cell (j := 1) rfl
    have d2 := H2.cell (j := 2) rfl
    have d3 := H2.cell (j := 3) rfl
    have d4 := H2.cell (j := 4) rfl
    have d5 := H2.cell (j := 5) rfl
    have d6 := H2.cell (j := 6) rfl
    have d7 := H2.cell (j := 7) rfl
    have d8 := H2.cell (j := 8) rfl
    have e0 := H2.free 0
    have e1 := H2.free 1
    have e2 := H2.free 2
    have e3 := H2.free 3
    have e4 := H2.free 4
    have e5 := H2.free 5
    have e6 := H2.free 6
    have e7 := H2.free 7
    have e8 := H2.free 8
    go_wp2_with fail
    obtain ⟨wF, eF⟩ : ∃ wF, wF = ((((((((((w3.setCell ⟨w.heap.size, 8, none⟩ (.slice a3 (exclL (List.take m rounds)).length c3')).setCell ⟨w.heap.size + 1, 0, none⟩ (.string name)).setCell ⟨w.heap.size + 1, 1, none⟩ (.string text)).setCell ⟨w.heap.size + 1, 2, none⟩ (.int .u64 seed)).setCell ⟨w.heap.size + 1, 3, none⟩ (.int .i64 start)).setCell ⟨w.heap.size + 1, 4, none⟩ (.int .i64 clock)).setCell ⟨w.heap.size + 1, 5, none⟩ (.slice (some ⟨b, o, none⟩) m cr)).setCell ⟨w.heap.size + 1, 6, none⟩ (.bool false)).setCell ⟨w.heap.size + 1, 7, none⟩ (.slice none 0 0)).setCell ⟨w.heap.size + 1, 8, none⟩ (.slice a3 (exclL (List.take m rounds)).length c3')) := ⟨_, rfl⟩
    have HF := Has.nine (H2.other (a := ⟨w.heap.size, 8, none⟩) (by simp) (.slice a3 (exclL (List.take m rounds)).length c3')) (.string name) (.string text) (.int .u64 seed) (.int .i64 start) (.int .i64 clock) (.slice (some ⟨b, o, none⟩) m cr) (.bool false) (.slice none 0 0) (.slice a3 (exclL (List.take m rounds)).length c3')
    have hO := (Only.setIn (Only.setIn (Only.setIn (Only.setIn (Only.setIn (Only.setIn (Only.setIn (Only.setIn (Only.setIn (Only.setIn (Only.refl [w.heap.size, w.heap.size + 1] w3) (b := w.heap.size) (o := 8) (by simp) (.slice a3 (exclL (List.take m rounds)).length c3')) (b := w.heap.size + 1) (o := 0) (by simp) (.string name)) (b := w.heap.size + 1) (o := 1) (by simp) (.string text)) (b := w.heap.size + 1) (o := 2) (by simp) (.int .u64 seed)) (b := w.heap.size + 1) (o := 3) (by simp) (.int .i64 start)) (b := w.heap.size + 1) (o := 4) (by simp) (.int .i64 clock)) (b := w.heap.size + 1) (o := 5) (by simp) (.slice (some ⟨b, o, none⟩) m cr)) (b := w.heap.size + 1) (o := 6) (by simp) (.bool false)) (b := w.heap.size + 1) (o := 7) (by simp) (.slice none 0 0)) (b := w.heap.size + 1) (o := 8) (by simp) (.slice a3 (exclL (List.take m rounds)).length c3'))
    rw [← eF] at HF hO
    rw [← eF]
    clear eF
    have r0 := HF.cell (j := 0) rfl
    have r1 := HF.cell (j := 1) rfl
    have r2 := HF.cell (j := 2) rfl
    have r3 := HF.cell (j := 3) rfl
    have r4 := HF.cell (j := 4) rfl
    have r5 := HF.cell (j := 5) rfl
    have r6 := HF.cell (j := 6) rfl
    have r7 := HF.cell (j := 7) rfl
    have r8 := HF.cell (j := 8) rfl
    refine bodyPost_ret (v := .agg #[.string name, .string text, .int .u64 seed, .int .i64 start, .int .i64 clock, .slice (some ⟨b, o, none⟩) m cr, .bool false, .slice none 0 0, .slice a3 (exclL (List.take m rounds)).length c3']) (by simp [results, Tryz.results10, go_sem, r0, r1, r2, r3, r4, r5, r6, r7, r8]) rfl ?_
    have hbF : Below w.heap.size w wF := hO.toBelow (b2.trans (o3.mono b2.size)) (by simp) (by have := o3.size; omega)
    have own4 := own3.agr (w' := wF) ⟨hO.size, fun k hk hs => hO.block k hk (by simp; omega)⟩ (fun g e => by have h1 := own3.lt g e; exact hO.block g h1.2 (by simp; omega))
    obtain ⟨a4, c4', e4, hx4⟩ := own4.slice
    cases e4
    exact ⟨_, rfl, ⟨some ⟨b, o, none⟩, m, cr, none, 0, 0, a3, (exclL (List.take m rounds)).length, c3', by rw [hP.out], by rw [hP.out]; exact ⟨hR.below hbF (Nat.le_refl _), (Rests.empty (fun _ => True) wF).held, hx4, hn1, hn2⟩⟩, hbF⟩
end Go.Proofs.YtahbhhenobehfaaGreatDoor
namespace Go.Proofs.YtahbhhenobehfaaGreatDoor
open Go.ChangeShapes Go.WideShapes Go.ChangeAt Go.RowKit

theorem RowS.ofHeld {w : World} {ad : Option Addr} {n cap : Nat} {l : List (List UInt8)} (h : HeldL StrC w ad n cap l) : RowS w ad l := fun i hi => by
  obtain ⟨_, _, _, hx⟩ := h.lst
  obtain ⟨b, o, u, e, hc, hu⟩ := hx i hi
  refine ⟨b, o, e, ?_⟩
  rw [hc, hu, List.getD_eq_getElem?_getD, List.getElem?_eq_getElem hi]; rfl
theorem RowS.take {w : World} {ad : Option Addr} {l : List (List UInt8)} (h : RowS w ad l) (k : Nat) : RowS w ad (l.take k) := fun i hi => by
  rw [List.length_take] at hi
  obtain ⟨b, o, e, hc⟩ := h i (by omega)
  refine ⟨b, o, e, ?_⟩
  rw [hc]
  simp [List.getD, show i < k from by omega]
def baL (l : List (List UInt8)) : List ByteArray := l.map fun x => ByteArray.mk x.toArray
theorem baL_at {w : World} {b o : Nat} {l : List (List UInt8)} (h : RowS w (some ⟨b, o, none⟩) l) : ∀ j, j < (baL l).length → w.cell? ⟨b, o + j, none⟩ = some (.string ((baL l).getD j ByteArray.empty)) := fun j hj => by
  rw [baL, List.length_map] at hj
  obtain ⟨b', o', e, hc⟩ := h j hj
  cases e
  rw [hc]
  unfold baL
  rw [List.getD_eq_getElem?_getD, List.getD_eq_getElem?_getD, List.getElem?_map, List.getElem?_eq_getElem hj]
  rfl
set_option maxHeartbeats 1000000 in
theorem begins_any (P : List (List UInt8)) (b1 o1 n1 c1 : Nat) (a2 : Option Addr) (k c2 : Nat) (w : World) (hP : P.length = n1) (hk : k ≤ n1) (hc : n1 ≤ c1) (hm : (c1 : Int) ≤ 9223372036854775807) (h1 : RowS w (some ⟨b1, o1, none⟩) P) (h2 : RowS w a2 (P.take k)) :
    Calls Tryz.prog 38 #[.slice (some ⟨b1, o1, none⟩) n1 c1, .slice a2 k c2] w fun e w' => e = .returned (.bool true) ∧ Below w.heap.size w w' := by
  have hki : (k : Int) ≤ n1 := by omega
  have hkc : (k : Int) ≤ c1 := by omega
  have HP := hid hP
  by_cases h0 : k = 0
  · subst h0
    have hE := hid (Tryz.slices_Equal_string_empty (some ⟨b1, o1, none⟩) a2 c1 0 c2 w (by omega))
    clear h1 h2
    go_enter Tryz.func38, Tryz.ntmps38
    go_wp2_with fail
    refine hE.out.mono ?_
    rintro e w1 ⟨rfl, rfl⟩
    go_wp2
    go_ret
    exact ⟨rfl, Below.refl _ _⟩
  · obtain ⟨b2, o2, rfl⟩ := h2.head (by rw [List.length_take]; omega)
    have hE := hid (Tryz.slices_Equal_string b1 o1 k c1 b2 o2 k c2 (baL P) (baL (P.take k)) w (by unfold baL; rw [List.length_map]; omega) (by unfold baL; rw [List.length_map, List.length_take]; omega) (by omega) (by omega) (baL_at h1) (baL_at h2))
    have hD := hid (show decide ((baL P).take k = (baL (P.take k)).take k) = true from decide_eq_true (by unfold baL; rw [← List.map_take, ← List.map_take, List.take_take, Nat.min_self]))
    clear h1 h2
    go_enter Tryz.func38, Tryz.ntmps38
    go_wp2_with fail
    refine hE.out.mono ?_
    rintro e w1 ⟨rfl, q, rfl⟩
    rw [hD.out]
    go_wp2
    go_ret
    exact ⟨rfl, Below.drewN w q⟩
set_option maxHeartbeats 1000000 in
theorem rbegins_any (P : List (List UInt8)) (b1 o1 n1 c1 : Nat) (a2 : Option Addr) (k c2 : Nat) (w : World) (hP : P.length = n1) (hk : k ≤ n1) (hc : n1 ≤ c1) (hm : (c1 : Int) ≤ 9223372036854775807) (h1 : RowS w (some ⟨b1, o1, none⟩) P) (h2 : RowS w a2 (P.take k)) :
    Calls Tryz.prog 14 #[.slice a2 k c2, .slice (some ⟨b1, o1, none⟩) n1 c1] w fun e w' => e = .returned (.bool true) ∧ Below w.heap.size w w' := by
  have hki : (k : Int) ≤ n1 := by omega
  have hkc : (k : Int) ≤ c1 := by omega
  have hE := hid (strings_any a2 (some ⟨b1, o1, none⟩) k c2 c1 (P.take k) w (by omega) (by rw [List.length_take]; omega) h2 (h1.take k))
  clear h1 h2
  go_enter Tryz.func14, Tryz.ntmps14
  go_wp2_with fail
  refine hE.out.mono ?_
  rintro e w1 ⟨rfl, o1⟩
  go_wp2
  go_ret
  exact ⟨rfl, o1⟩
end Go.Proofs.YtahbhhenobehfaaGreatDoor
namespace Go.Proofs.YtahbhhenobehfaaGreatDoor
open Go.ChangeShapes Go.WideShapes Go.ChangeAt Go.RowKit

/-- A journal behind i appends of the payloads P from the k-th on. -/
def JInv (B : List UInt8) (F : Int) (P : List (List UInt8)) (k i : Nat) (Bi : List UInt8) (Fi : Int) : Prop :=
  (scanL Bi).1 = P.take (k + i) ∧ (i = 0 → Bi = B) ∧ (0 < i → Bi = allL (P.take (k + i))) ∧ (F ≤ kept B → Fi = F ∧ F ≤ kept Bi)
theorem JInv.start {B : List UInt8} {F : Int} {P : List (List UInt8)} {k : Nat} (h : (scanL B).1 = P.take k) : JInv B F P k 0 B F :=
  ⟨h, fun _ => rfl, fun h => absurd h (Nat.lt_irrefl _), fun h => ⟨rfl, h⟩⟩
theorem JInv.step {B : List UInt8} {F : Int} {P : List (List UInt8)} {k i : Nat} {Bi : List UInt8} {Fi : Int} (h : JInv B F P k i Bi Fi) (hP : ∀ p ∈ P, p.length ≤ 60000) (hi : k + i < P.length) :
    JInv B F P k (i + 1) (actB Bi (P[k + i])) (actF Bi Fi) := by
  obtain ⟨h1, h2, h3, h4⟩ := h
  have e : actB Bi (P[k + i]) = allL (P.take (k + (i + 1))) := by
    rw [actB_eq, h1, show k + (i + 1) = (k + i) + 1 by omega, List.take_succ_eq_append_getElem hi]
  have hs : ∀ p ∈ P.take (k + (i + 1)), p.length ≤ 60000 := fun p hp => hP p (List.mem_of_mem_take hp)
  refine ⟨by rw [e, scan_all _ hs], fun h => by omega, fun _ => e, fun hF => ?_⟩
  obtain ⟨q1, q2⟩ := h4 hF
  have hk : kept Bi ≤ kept (actB Bi (P[k + i])) := by
    rw [e, kept_all _ hs, kept_len, h1]
    exact allL_mono P _ _ (by omega)
  refine ⟨?_, by omega⟩
  unfold actF
  rw [q1, if_pos q2]
theorem JInv.len {B : List UInt8} {F : Int} {P : List (List UInt8)} {k i : Nat} {Bi : List UInt8} {Fi : Int} (h : JInv B F P k i Bi Fi) (hB : B.length ≤ 4000000) (hP : (allL P).length ≤ 4000000) : Bi.length ≤ 4000000 := by
  obtain ⟨h1, h2, h3, h4⟩ := h
  by_cases hi : i = 0
  · rw [h2 hi]; exact hB
  · rw [h3 (by omega)]
    have := allL_mono P (k + i) (k + i + P.length) (by omega)
    rw [List.take_of_length_le (l := P) (i := k + i + P.length) (by omega)] at this
    omega
set_option maxRecDepth 20000 in
set_option maxHeartbeats 4000000 in
theorem jwrite_any (j : Nat) (B : List UInt8) (F : Int) (k : Nat) (r : Rec) (ar : Option Addr) (nr cr : Nat) (ag : Option Addr) (ng cg : Nat) (ae : Option Addr) (ne ce : Nat) (w : World)
    (hJ : JAt w j B F) (h : RecAt w r ar nr cr ag ng cg ae ne ce) (hw : wfB r = true) (hf : RecFine r) (ht : Tab w) (hk : k ≤ (payL r).length) (hsc : (scanL B).1 = (payL r).take k) (hB : B.length ≤ 4000000) (hPs : ∀ p ∈ payL r, p.length ≤ 60000) (hPl : (allL (payL r)).length ≤ 4000000) :
    Calls Tryz.prog 9 #[.pointer (some ⟨j, 0, none⟩), .agg #[.string r.name, .string r.text, .int .u64 r.seed, .int .i64 r.start, .int .i64 r.clock, .slice ar nr cr, .bool r.ended, .slice ag ng cg, .slice ae ne ce]] w fun e w' => e = .returned (.int .i64 0) ∧ (∃ B' F', JAt w' j B' F' ∧ JInv B F (payL r) k ((payL r).length - k) B' F') ∧ Only [j] w w' := by
  obtain ⟨P, eP⟩ : ∃ P, P = payL r := ⟨_, rfl⟩
  rw [← eP] at hk hsc hPs hPl ⊢
  have b0 : Below w.heap.size w (w.alloc (.cells #[.string r.name, .string r.text, .int .u64 r.seed, .int .i64 r.start, .int .i64 r.clock, .slice ar nr cr, .bool r.ended, .slice ag ng cg, .slice ae ne ce] 27)) := (Below.refl _ _).alloc (Nat.le_refl _) _
  have H0 := Has.new w #[.string r.name, .string r.text, .int .u64 r.seed, .int .i64 r.start, .int .i64 r.clock, .slice ar nr cr, .bool r.ended, .slice ag ng cg, .slice ae ne ce] 27
  have HP := hid eP
  have hPn := hid (show P.length ≤ 1002 by rw [eP]; have h1 := payL_len2 r; have h2 := hf.rounds; omega)
  have Hk := hid hk
  have Hsc := hid hsc
  have HB := hid hB
  have HPs := hid hPs
  have HPl := hid hPl
  have Hw := hid hw
  have Hf := hid hf
  clear eP hk hsc hB hPs hPl hw hf
  go_enter Tryz.func9, Tryz.ntmps9
  go_wp2_with fail
  obtain ⟨w0, ew0⟩ : ∃ w0, w0 = w.alloc (.cells #[.string r.name, .string r.text, .int .u64 r.seed, .int .i64 r.start, .int .i64 r.clock, .slice ar nr cr, .bool r.ended, .slice ag ng cg, .slice ae ne ce] 27) := ⟨_, rfl⟩
  rw [← ew0] at b0 H0
  rw [← ew0]
  clear ew0
  have hz : w.heap.size < w0.heap.size := H0.lt
  have hJ0 := hJ.below b0 (Nat.le_refl _)
  have hR0 := h.below b0 (Nat.le_refl _)
  have hjl := hJ.lt
  refine (right_any j B F _ hJ0).mono ?_
  rintro e w1 ⟨rfl, rfl⟩
  have c0 := H0.cell (j := 0) rfl
  have c1 := H0.cell (j := 1) rfl
  have c2 := H0.cell (j := 2) rfl
  have c3 := H0.cell (j := 3) rfl
  have c4 := H0.cell (j := 4) rfl
  have c5 := H0.cell (j := 5) rfl
  have c6 := H0.cell (j := 6) rfl
  have c7 := H0.cell (j := 7) rfl
  have c8 := H0.cell (j := 8) rfl
  go_wp2_with fail
  refine (formed_any r ar nr cr ag ng cg ae ne ce _ hR0).mono ?_
  rintro e w2 ⟨rfl, o2⟩
  rw [Hw.out]
  have H2 := H0.below o2 H0.lt
  have hR2 := hR0.below o2 (Nat.le_refl _)
  have b2 := b0.trans (o2.mono b0.size)
  have T2 := tab_below ht b2 (Nat.le_refl _)
  clear c0 c1 c2 c3 c4 c5 c6 c7 c8
  have c0 := H2.cell (j := 0) rfl
  have c1 := H2.cell (j := 1) rfl
  have c2 := H2.cell (j := 2) rfl
  have c3 := H2.cell (j := 3) rfl
  have c4 := H2.cell (j := 4) rfl
  have c5 := H2.cell (j := 5) rfl
  have c6 := H2.cell (j := 6) rfl
  have c7 := H2.cell (j := 7) rfl
  have c8 := H2.cell (j := 8) rfl
  go_wp2_with fail
  refine (jpay_any r ar nr cr ag ng cg ae ne ce _ hR2 Hf.out T2).mono ?_
  rintro e w3 ⟨v3, rfl, own3, o3⟩
  rw [← HP.out] at own3
  have b3 := b2.trans (o3.mono b2.size)
  have hJ3 := hJ.below b3 (Nat.le_refl _)
  clear c0 c1 c2 c3 c4 c5 c6 c7 c8
  go_wp2_with fail
  refine (payloads_any j B F _ hJ3 HB.out).mono ?_
  rintro e w4 ⟨v4, rfl, hown4, o4⟩
  obtain ⟨a4, c4, rfl, hr4⟩ := RowS.ofOwn hown4
  rw [Hsc.out] at hr4
  have hlk := hid (show (scanL B).1.length = k by rw [Hsc.out, List.length_take]; have := Hk.out; omega)
  rw [hlk.out]
  have own4 := own3.below o4 (Nat.le_refl _)
  have b4 := b3.trans (o4.mono b3.size)
  clear hown4 own3
  obtain ⟨a3, c3, rfl, hx3⟩ := own4.slice
  have hP0 : 0 < P.length := by rw [HP.out]; have := payL_len r; omega
  obtain ⟨b1, o1, rfl⟩ := hx3.head hP0
  have hr3 := RowS.ofHeld hx3
  have hle3 := hx3.le
  have hmx3 := hx3.max
  go_wp2_with fail
  refine (begins_any P b1 o1 P.length c3 a4 k c4 _ rfl Hk.out hle3 hmx3 hr3 hr4).mono ?_
  rintro e w5 ⟨rfl, o5⟩
  obtain ⟨n, en⟩ : ∃ n, n = P.length := ⟨_, rfl⟩
  have En := hid en
  have hki : (k : Int) ≤ n := by have := Hk.out; omega
  have hkc : (k : Int) ≤ c3 := by omega
  have hnc : (n : Int) ≤ c3 := by omega
  have hn2 : n ≤ 1002 := by rw [en]; exact hPn.out
  rw [← en]
  have hr5 := hr3.below o5 (Nat.le_refl _)
  have own5 := own4.below o5 (Nat.le_refl _)
  have b5 := b4.trans (o5.mono b4.size)
  have hJ5 := hJ.below b5 (Nat.le_refl _)
  have hb1 : w.heap.size ≤ b1 := by have := (own5.lt b1 rfl).1; have := b2.size; omega
  clear en hr3 own4 own5 hx3 hr4 hR2 hR0 T2 H2 H0 hJ0 hJ3
  have hOw : Only [j] w w5 := Only.ofBelow b5 (Nat.le_refl _)
  by_cases hck : c3 = k
  · obtain rfl : n = k := by omega
    subst hck
    have hfin := hid (show JInv B F P c3 (P.length - c3) B F by rw [← En.out, Nat.sub_self]; exact JInv.start Hsc.out)
    clear hki hkc hnc hr5
    go_wp2
    refine wp_loop_rounds 1 ?_
    rw [rounds_succ]
    go_wp2
    go_ret
    exact ⟨rfl, ⟨B, F, hJ5, hfin.out⟩, hOw⟩
  · have hkc2 : (k : Int) < c3 := by omega
    have hck2 : ¬ k = c3 := fun e => hck e.symm
    go_wp2
    go_loopw [31] (fun i wr => ∃ q : Nat, q ≤ n - k ∧ i = .int .i64 q ∧ (∃ Bi Fi, JAt wr j Bi Fi ∧ Hid (JInv B F P k q Bi Fi)) ∧ Only [j] w5 wr) (fun i _ => (n - k) - (intOf i).toNat)
    case atStart => exact ⟨0, Nat.zero_le _, rfl, ⟨B, F, hJ5, hid (JInv.start Hsc.out)⟩, Only.refl _ _⟩
    case round =>
      obtain ⟨q, hq, rfl, ⟨Bi, Fi, hJi, hInv⟩, hO⟩ := hrel
      by_cases hlt : q < n - k
      · have hq0 : (0 : Int) ≤ q := by omega
        have hqi : (q : Int) < ((n - k : Nat) : Int) := by omega
        have hkq := hid (show k + q < P.length by rw [← En.out]; omega)
        obtain ⟨s, es, hc5⟩ := hr5.at (k + q) hkq.out
        have hcr := (World.cell?_of_block (w := w5) (w' := wr) (a := ⟨b1, o1 + (k + q), none⟩) (hO.block b1 (lt_of_cell hc5) (by simp; omega))).trans hc5
        rw [← Nat.add_assoc] at hcr
        have hsl := hid (show s.data.toList = P[k + q]'hkq.out by rw [es.out, List.getD_eq_getElem?_getD, List.getElem?_eq_getElem hkq.out]; simp)
        have hss := hid (show s.size ≤ 60000 by
          have h1 := HPs.out _ (List.getElem_mem hkq.out)
          rw [← hsl.out, blen] at h1; exact h1)
        have hBi := hid (hInv.out.len HB.out HPl.out)
        clear hc5 es
        go_wp2_with fail
        refine (append_any j Bi Fi s _ hJi hBi.out hss.out).mono ?_
        rintro e w6 ⟨rfl, hJ6, hO6⟩
        have hI6 := hid (hInv.out.step HPs.out hkq.out)
        rw [← hsl.out] at hI6
        have hO7 := hO.trans hO6 (fun x hx => Or.inl hx)
        clear hJi hcr hO hO6 hInv
        go_wp2
        go_roundw
        case rel => exact ⟨q + 1, by omega, by go_num, ⟨_, _, hJ6, hI6⟩, hO7⟩
        case measure => simp [intOf]; omega
      · obtain rfl : q = n - k := by omega
        have hInv2 := hid (show JInv B F P k (P.length - k) Bi Fi by rw [← En.out]; exact hInv.out)
        go_wp2
        go_ret
        exact ⟨rfl, ⟨Bi, Fi, hJi, hInv2.out⟩, hOw.trans hO (fun x hx => Or.inl hx)⟩
end Go.Proofs.YtahbhhenobehfaaGreatDoor
namespace Go.Proofs.YtahbhhenobehfaaGreatDoor
open Go.ChangeShapes Go.WideShapes Go.ChangeAt Go.RowKit

def zeroR : Rec := ⟨⟨#[]⟩, ⟨#[]⟩, 0, 0, 0, [], false, [], []⟩
/-- What a Recover has to answer when the payloads are l. -/
def RecovR (l : List (List UInt8)) (x : Rec) (g : Int) : Prop :=
  (∀ r, FineR r → payL r = l → g = 0 ∧ x = r) ∧ ((g = 0 ∧ FineR x ∧ payL x = l) ∨ (g ≠ 0 ∧ g = (if l.isEmpty = true then 21 else 1) ∧ x = zeroR))
def RecovSaid (l : List (List UInt8)) (w : World) (e : Ending) (w' : World) : Prop :=
  (∃ x ar nr cr ag ng cg ae ne ce g, e = .returned (.tuple #[.agg (recV x ar nr cr ag ng cg ae ne ce), .int .i64 g]) ∧ RecAt w' x ar nr cr ag ng cg ae ne ce ∧ RecovR l x g) ∧ Below w.heap.size w w'
theorem OwnL.only {α : Type} {C : World → Value → α → Prop} {base : Nat} {E : TypeId} {w w' : World} {v : Value} {l : List α} {L : List Nat} (h : OwnL C base E w v l) (ho : Only L w w') (hn : ∀ x ∈ L, x < base) : OwnL C base E w' v l :=
  h.agr ⟨ho.size, fun k hk hs => ho.block k hk (fun hm => by have hs' : base ≤ k := hs; have := hn k hm; omega)⟩ (fun g e => ho.block g (h.lt g e).2 (fun hm => by have := (h.lt g e).1; have := hn g hm; omega))
/-- A record whose lists are own. -/
structure OwnR (B : Nat) (w : World) (r : Rec) (vr vg ve : Value) : Prop where
  rounds : OwnM 2 RndC B 45 w vr r.rounds
  goals : OwnL IntC B 3 w vg r.goals
  excl : OwnL BoolC B 4 w ve r.excl
  name : r.name.size ≤ 100000
  text : r.text.size ≤ 100000
theorem OwnR.below {B : Nat} {w w' : World} {r : Rec} {vr vg ve : Value} (h : OwnR B w r vr vg ve) (hb : Below w.heap.size w w') : OwnR B w' r vr vg ve :=
  ⟨h.rounds.below hb (Nat.le_refl _), h.goals.below hb (Nat.le_refl _), h.excl.below hb (Nat.le_refl _), h.name, h.text⟩
theorem OwnR.only {B : Nat} {w w' : World} {r : Rec} {vr vg ve : Value} {L : List Nat} (h : OwnR B w r vr vg ve) (ho : Only L w w') (hn : ∀ x ∈ L, x < B) : OwnR B w' r vr vg ve :=
  ⟨h.rounds.only ho hn, h.goals.only ho hn, h.excl.only ho hn, h.name, h.text⟩
theorem OwnR.shape {B : Nat} {w : World} {r : Rec} {vr vg ve : Value} (h : OwnR B w r vr vg ve) : ∃ ar cr ag cg ae ce, vr = .slice ar r.rounds.length cr ∧ vg = .slice ag r.goals.length cg ∧ ve = .slice ae r.excl.length ce := by
  obtain ⟨ar, cr, e1⟩ := h.rounds.shape
  obtain ⟨ag, cg, e2, _⟩ := h.goals.slice
  obtain ⟨ae, ce, e3, _⟩ := h.excl.slice
  exact ⟨ar, cr, ag, cg, ae, ce, e1, e2, e3⟩
theorem OwnR.at {B : Nat} {w : World} {r : Rec} {ar ag ae : Option Addr} {nr ng ne cr cg ce : Nat} (h : OwnR B w r (.slice ar nr cr) (.slice ag ng cg) (.slice ae ne ce)) : RecAt w r ar nr cr ag ng cg ae ne ce := by
  obtain ⟨a1, c1, e1, h1⟩ := h.goals.slice
  obtain ⟨a2, c2, e2, h2⟩ := h.excl.slice
  cases e1
  cases e2
  exact ⟨RndsAt.ofLst (h.rounds.reads w (.refl _ _)), h1, h2, by have := h.name; unfold maxLen; omega, by have := h.text; unfold maxLen; omega⟩
theorem zero_at (w : World) : RecAt w zeroR none 0 0 none 0 0 none 0 0 :=
  ⟨⟨rfl, Nat.le_refl _, by decide, fun k hk => by cases hk⟩, Rests.empty _ _, Rests.empty _ _, by decide, by decide⟩
/-- Two lists of texts, held against one another by the library. -/
theorem equal_any (a1 a2 : Option Addr) (c1 c2 : Nat) (l1 l2 : List (List UInt8)) (w : World) (h1 : RowS w a1 l1) (h2 : RowS w a2 l2) (m1 : l1.length ≤ 1000000) (m2 : l2.length ≤ 1000000) :
    Calls Tryz.prog 48 #[.slice a1 l1.length c1, .slice a2 l2.length c2] w fun e w' => e = .returned (.bool (decide (l1 = l2))) ∧ Below w.heap.size w w' := by
  by_cases hl : l1.length = l2.length
  · by_cases h0 : l1.length = 0
    · have e1 : l1 = [] := List.eq_nil_of_length_eq_zero h0
      have e2 : l2 = [] := List.eq_nil_of_length_eq_zero (by omega)
      subst e1
      subst e2
      refine (Tryz.slices_Equal_string_empty a1 a2 c1 0 c2 w (by decide)).mono ?_
      rintro e w' ⟨rfl, rfl⟩
      exact ⟨by simp, Below.refl _ _⟩
    · obtain ⟨b1, o1, rfl⟩ := h1.head (by omega)
      obtain ⟨b2, o2, rfl⟩ := h2.head (by omega)
      refine (Tryz.slices_Equal_string b1 o1 l1.length c1 b2 o2 l2.length c2 (baL l1) (baL l2) w (by unfold baL; simp) (by unfold baL; simp) (by omega) (by omega) (baL_at h1) (baL_at h2)).mono ?_
      rintro e w' ⟨rfl, q, rfl⟩
      refine ⟨?_, below_drew _ _⟩
      rw [List.take_of_length_le (by unfold baL; simp), List.take_of_length_le (by unfold baL; simp)]
      refine congrArg (fun b => Ending.returned (Value.bool b)) (decide_eq_decide.2 ⟨fun h => ?_, fun h => by rw [h]⟩)
      have := congrArg (List.map (fun y : ByteArray => y.data.toList)) h
      unfold baL at this
      have e : ((fun y : ByteArray => y.data.toList) ∘ fun x : List UInt8 => (⟨x.toArray⟩ : ByteArray)) = id := by funext x; simp
      rw [List.map_map, List.map_map, e, List.map_id, List.map_id] at this
      exact this
  · refine (Tryz.slices_Equal_string_lens a1 a2 l1.length c1 l2.length c2 w hl).mono ?_
    rintro e w' ⟨rfl, rfl⟩
    exact ⟨by rw [decide_eq_false (fun e => hl (by rw [e]))], Below.refl _ _⟩
end Go.Proofs.YtahbhhenobehfaaGreatDoor
