/-
  The walk of ranked.
-/
import Derived.Test.YtkdfplnoldckgaaRows
import Derived.Test.YtkdfplnoldckgaaSMem
import Derived.Test.YtkdfplnoldckgaaSPlain6
import Derived.Test.YtkdfplnoldckgaaS2
import Derived.WalkKit
import Derived.ProofKit
import Derived.OpenShut
import Derived.Deep.DeepMust
import Derived.Outline
namespace Go.Proofs.Ytkdfplnoldckgaa
open Go.ChangeShapes Go.WideShapes Go.ChangeAt Go.RowKit

/-- Standings that came in: the players, whatever the other numbers. -/
def StdAt (w : World) (ad : Option Addr) (n : Nat) (ps : List Int) : Prop :=
  ps.length = n ∧ ∀ i, i < n → ∃ b o a1 a2 a3 a4 a5, ad = some ⟨b, o, none⟩ ∧ w.cell? ⟨b, o + i * 6, none⟩ = some (.int .i64 (ps.getD i 0)) ∧ w.cell? ⟨b, o + i * 6 + 1, none⟩ = some (.int .i64 a1) ∧ w.cell? ⟨b, o + i * 6 + 2, none⟩ = some (.int .i64 a2) ∧ w.cell? ⟨b, o + i * 6 + 3, none⟩ = some (.int .i64 a3) ∧ w.cell? ⟨b, o + i * 6 + 4, none⟩ = some (.int .i64 a4) ∧ w.cell? ⟨b, o + i * 6 + 5, none⟩ = some (.int .i64 a5)
theorem StdAt.below {w w' : World} {ad : Option Addr} {n B : Nat} {ps : List Int} (h : StdAt w ad n ps) (hb : Below B w w') (hB : w.heap.size ≤ B) : StdAt w' ad n ps := ⟨h.1, fun i hi => by
  obtain ⟨b, o, a1, a2, a3, a4, a5, e, c0, c1, c2, c3, c4, c5⟩ := h.2 i hi
  have hl := Nat.lt_of_lt_of_le (lt_of_cell c0) hB
  exact ⟨b, o, a1, a2, a3, a4, a5, e, (hb.cell (p := ⟨b, _, none⟩) hl).trans c0, (hb.cell (p := ⟨b, _, none⟩) hl).trans c1, (hb.cell (p := ⟨b, _, none⟩) hl).trans c2, (hb.cell (p := ⟨b, _, none⟩) hl).trans c3, (hb.cell (p := ⟨b, _, none⟩) hl).trans c4, (hb.cell (p := ⟨b, _, none⟩) hl).trans c5⟩⟩
theorem StdAt.head {w : World} {ad : Option Addr} {n : Nat} {ps : List Int} (h : StdAt w ad n ps) (hn : 0 < n) : ∃ b o, ad = some ⟨b, o, none⟩ := by
  obtain ⟨b, o, _, _, _, _, _, e, _⟩ := h.2 0 hn
  exact ⟨b, o, e⟩
theorem StdAt.at {w : World} {b o n : Nat} {ps : List Int} (h : StdAt w (some ⟨b, o, none⟩) n ps) (i : Nat) (hi : i < n) : ∃ a1 a2 a3 a4 a5, w.cell? ⟨b, o + i * 6, none⟩ = some (.int .i64 (ps.getD i 0)) ∧ w.cell? ⟨b, o + i * 6 + 1, none⟩ = some (.int .i64 a1) ∧ w.cell? ⟨b, o + i * 6 + 2, none⟩ = some (.int .i64 a2) ∧ w.cell? ⟨b, o + i * 6 + 3, none⟩ = some (.int .i64 a3) ∧ w.cell? ⟨b, o + i * 6 + 4, none⟩ = some (.int .i64 a4) ∧ w.cell? ⟨b, o + i * 6 + 5, none⟩ = some (.int .i64 a5) := by
  obtain ⟨b', o', a1, a2, a3, a4, a5, e, r⟩ := h.2 i hi
  cases e
  exact ⟨a1, a2, a3, a4, a5, r⟩
/-- What ranked returns. -/
def RankSaid (ps : List Int) (w : World) (e : Ending) (w' : World) : Prop :=
  ∃ v, e = .returned (.tuple #[v, .bool (stdOk [] ps)]) ∧ OwnL IntC w.heap.size 3 w' v (if stdOk [] ps = true then ps else []) ∧ Below w.heap.size w w'
set_option maxHeartbeats 4000000 in
theorem ranked_some (b o n cap : Nat) (ps : List Int) (w : World) (hn : n ≤ 1000) (h : StdAt w (some ⟨b, o, none⟩) n ps) :
    Calls Try.prog 36 #[.slice (some ⟨b, o, none⟩) n cap] w (RankSaid ps w) := by
  obtain ⟨i0, hi, hz0, hz1, hz2⟩ := info_parts info_int
  have hl := hid h.1
  have hbz : Below w.heap.size w (w.alloc (.cells #[.bool false, .bool false, .bool false, .bool false, .bool false, .bool false, .bool false, .bool false, .bool false, .bool false, .bool false, .bool false, .bool false, .bool false, .bool false, .bool false] 68)) := (Below.refl _ _).alloc (Nat.le_refl _) _
  have hBz : Has (w.alloc (.cells #[.bool false, .bool false, .bool false, .bool false, .bool false, .bool false, .bool false, .bool false, .bool false, .bool false, .bool false, .bool false, .bool false, .bool false, .bool false, .bool false] 68)) w.heap.size (busyA []) 68 := Has.new w (busyA []) _
  go_enter Try.func36, Try.ntmps36
  go_wp2
  go_loopw [4, 10] (fun v i wr => ∃ k : Nat, k ≤ n ∧ i = .int .i64 k ∧ OwnL IntC (w.heap.size + 1) 3 wr v (ps.take k) ∧ Has wr w.heap.size (busyA (ps.take k)) 68 ∧ Below w.heap.size w wr ∧ Hid (stdOk [] ps = stdOk (ps.take k) (ps.drop k))) (fun _ i _ => n - (intOf i).toNat)
  case atStart => exact ⟨0, Nat.zero_le _, rfl, OwnL.nil _ _ _ _, hBz, hbz, hid (by rw [List.take_zero, List.drop_zero])⟩
  case round =>
    clear hBz hbz
    obtain ⟨k, hk, rfl, own, hB, hb, hS⟩ := hrel
    by_cases hlt : k < n
    · obtain ⟨a1, a2, a3, a4, a5, c0, c1, c2, c3, c4, c5⟩ := (h.below hb (Nat.le_refl _)).at k hlt
      have hk0 : (0 : Int) ≤ k := by omega
      have hkn : (k : Int) < n := by omega
      have hkp : k < ps.length := by rw [hl.out]; exact hlt
      obtain ⟨p, ep⟩ : ∃ p, p = ps.getD k 0 := ⟨_, rfl⟩
      rw [← ep] at c0
      have hbad := hid (stdOk_bad ps k hkp)
      have hgood := hid (stdOk_good ps k hkp)
      have htk := hid (take_getD' ps k hkp)
      rw [← ep] at hbad hgood htk
      have htl := hid (show (ps.take k).length = k by rw [List.length_take]; omega)
      obtain ⟨s, es⟩ : ∃ s, s = ps.take k := ⟨_, rfl⟩
      rw [← es] at own hB hS hbad hgood htk htl
      clear ep es hkp
      have bs := hb.size
      have hb1 := hb.alloc bs (.cells #[.int .i64 p, .int .i64 a1, .int .i64 a2, .int .i64 a3, .int .i64 a4, .int .i64 a5] 43)
      by_cases hp0 : p < 0
      · have hf := hid (show stdOk [] ps = false by rw [hS.out]; exact hbad.out (by unfold stdBad; rw [decide_eq_true hp0]; rfl))
        clear hB
        go_wp2
        go_ret2
        exact ⟨.slice none 0 0, by rw [hf.out]; rfl, by rw [hf.out]; exact OwnL.nil _ _ _ _, hb1⟩
      by_cases hp16 : 16 ≤ p
      · have hf := hid (show stdOk [] ps = false by rw [hS.out]; exact hbad.out (by unfold stdBad; rw [decide_eq_true hp16]; simp))
        clear hB
        go_wp2
        go_ret2
        exact ⟨.slice none 0 0, by rw [hf.out]; rfl, by rw [hf.out]; exact OwnL.nil _ _ _ _, hb1⟩
      obtain ⟨p, rfl⟩ := Int.eq_ofNat_of_zero_le (show 0 ≤ p by omega)
      have hpb : p < 16 := by omega
      have hp00 : (0 : Int) ≤ p := by omega
      have hp17 : (p : Int) < 16 := by omega
      have hcb := hB.cell (busyA_get s p hpb)
      have hfb := hB.free p
      have hbl := hB.lt
      cases hyB : hasB s (p : Int)
      · rw [hyB] at hcb
        have hf := hid (show stdOk [] ps = stdOk (ps.take (k + 1)) (ps.drop (k + 1)) by rw [hS.out]; exact hgood.out (by unfold stdBad; rw [hyB, decide_eq_false hp0, decide_eq_false hp16]; rfl))
        have hA : Agr (fun g => g ≠ w.heap.size) wr (wr.setCell ⟨w.heap.size, p, none⟩ (.bool true)) := ⟨by simp [World.setCell], fun g _ hs => Below.heap_setCell _ _ _ _ hs⟩
        have own3 : OwnL IntC (w.heap.size + 1) 3 (((wr.setCell ⟨w.heap.size, p, none⟩ (.bool true)).alloc (.cells #[.int .i64 p, .int .i64 a1, .int .i64 a2, .int .i64 a3, .int .i64 a4, .int .i64 a5] 43)).alloc (.cells #[.int .i64 p] 3)) u4 s := ((own.agr (w' := wr.setCell ⟨w.heap.size, p, none⟩ (.bool true)) ⟨hA.size, fun g hg hs => hA.block g hg (by omega)⟩ (fun g e => hA.block g (own.lt g e).2 (by have := (own.lt g e).1; omega))).alloc _).alloc _
        have hB3 : Has (((wr.setCell ⟨w.heap.size, p, none⟩ (.bool true)).alloc (.cells #[.int .i64 p, .int .i64 a1, .int .i64 a2, .int .i64 a3, .int .i64 a4, .int .i64 a5] 43)).alloc (.cells #[.int .i64 p] 3)) w.heap.size (busyA (s ++ [(p : Int)])) 68 := by rw [← busyA_set s p hpb]; exact ((hB.set p (.bool true)).alloc _).alloc _
        have hP3 : Has (((wr.setCell ⟨w.heap.size, p, none⟩ (.bool true)).alloc (.cells #[.int .i64 p, .int .i64 a1, .int .i64 a2, .int .i64 a3, .int .i64 a4, .int .i64 a5] 43)).alloc (.cells #[.int .i64 p] 3)) (wr.heap.size + 1) #[.int .i64 p] 3 := Has.newAt (by simp [World.setCell])
        have hbs := hA.size
        have hb3 : Below w.heap.size w (((wr.setCell ⟨w.heap.size, p, none⟩ (.bool true)).alloc (.cells #[.int .i64 p, .int .i64 a1, .int .i64 a2, .int .i64 a3, .int .i64 a4, .int .i64 a5] 43)).alloc (.cells #[.int .i64 p] 3)) := ((bset hb (Nat.le_refl _) (.bool true)).alloc (Nat.le_trans bs hbs) _).alloc (by have := hbs; simp at this ⊢; omega) _
        have hb3s := hb3.size
        have hwl : w.heap.size + 1 ≤ (((wr.setCell ⟨w.heap.size, p, none⟩ (.bool true)).alloc (.cells #[.int .i64 p, .int .i64 a1, .int .i64 a2, .int .i64 a3, .int .i64 a4, .int .i64 a5] 43)).alloc (.cells #[.int .i64 p] 3)).heap.size := hP3.lt |> fun h => by have := bs; omega
        have hc3 := hP3.cell (j := 0) rfl
        go_wp2_with (at_builtin; go_must (refine wpList_append_run rfl _ _ 36 rfl u4 (.slice (some ⟨wr.heap.size + 1, 0, none⟩) 1 1) (by rfl) (by rfl) (run_append1 _ (w.heap.size + 1) 36 _ 3 i0 _ 8 Try.underlying36 hi hz0 hz1 hz2 rfl _ s own3 (wr.heap.size + 1) 1 (.int .i64 p) p hc3 rfl (Rests.int _ _ _) (by rw [htl.out, maxLen_eq]; omega) (by rw [htl.out]; omega) hwl) ?_); rintro v1 w1 ⟨own4, b4, _, _⟩)
        have hB4 := hB3.below b4 (by omega)
        have hb4 := hb3.trans (b4.mono (by omega))
        clear own own3 hB hB3 hb hb1 hb3 b4 hP3 hc3 hA c0 c1 c2 c3 c4 c5 hcb hfb
        go_wp2
        go_roundw
        case rel => exact ⟨k + 1, by omega, by go_num, by rw [htk.out]; exact own4, by rw [htk.out]; exact hB4, hb4, hf⟩
        case measure => simp [intOf]; omega
      · rw [hyB] at hcb
        have hf := hid (show stdOk [] ps = false by rw [hS.out]; exact hbad.out (by unfold stdBad; rw [hyB]; simp))
        go_wp2
        go_ret2
        exact ⟨.slice none 0 0, by rw [hf.out]; rfl, by rw [hf.out]; exact OwnL.nil _ _ _ _, hb1⟩
    · obtain rfl : k = n := by omega
      rw [List.take_of_length_le (by rw [hl.out]; exact Nat.le_refl _)] at own
      have hf := hid (show stdOk [] ps = true by rw [hS.out]; exact stdOk_end ps k (by rw [hl.out]; exact Nat.le_refl _))
      clear hB
      go_wp2
      go_ret2
      exact ⟨_, by rw [hf.out]; rfl, by rw [hf.out, if_pos rfl]; exact own.rebase (by omega), hb⟩
end Go.Proofs.Ytkdfplnoldckgaa
