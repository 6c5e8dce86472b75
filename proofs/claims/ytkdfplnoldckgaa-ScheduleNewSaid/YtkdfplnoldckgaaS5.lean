/-
  The walk of the reference's combinations.
-/
import Derived.Test.YtkdfplnoldckgaaRows
import Derived.Test.YtkdfplnoldckgaaSMem
import Derived.Test.YtkdfplnoldckgaaSPlain
import Derived.Test.YtkdfplnoldckgaaS2
import Derived.WalkKit
import Derived.ProofKit
import Derived.OpenShut
import Derived.Deep.DeepMust
import Derived.Outline
namespace Go.Proofs.Ytkdfplnoldckgaa
open Go.ChangeShapes Go.WideShapes Go.ChangeAt Go.RowKit

theorem info_ints : (Try.prog.info? 36).map (fun i => (i.zero, i.size, i.bytes)) = some (some (.slice none 0 0), 1, 24) := by kernel_rfl
set_option maxHeartbeats 2000000 in
theorem rcombs_any (n : Nat) (hn : n ≤ 16) : ∀ (s f : Nat) (w : World) (_ : s ≤ 4) (_ : f ≤ n),
    Calls Try.prog 33 #[.int .i64 f, .int .i64 n, .int .i64 s] w fun e w' => ∃ v, e = .returned v ∧ OwnL IntsC w.heap.size 36 w' v (combs n s f) ∧ Below w.heap.size w w' := by
  intro s
  induction s with
  | zero =>
    intro f w _ hf
    go_enter Try.func33, Try.ntmps33
    go_wp2
    go_ret
    refine ⟨_, rfl, OwnL.lit (l := [[]]) (Has.new w #[.slice none 0 0] 36) (Nat.le_refl _) rfl rfl (by unfold maxLen; omega) (fun i hi => ?_), (Below.refl _ w).alloc (Nat.le_refl _) _⟩
    simp at hi
    subst hi
    exact ⟨_, rfl, Rests.empty _ _⟩
  | succ s ih =>
    intro f w hs hf
    have IH := hid ih
    clear ih
    obtain ⟨i0, hi, hz0, hz1, hz2⟩ := info_parts info_int
    obtain ⟨i1, gi, gz0, gz1, gz2⟩ := info_parts info_ints
    obtain ⟨S1, eS1⟩ : ∃ S1 : Int, S1 = ((s + 1 : Nat) : Int) := ⟨_, rfl⟩
    rw [← eS1]
    have hs0 : (S1 == 0) = false := by simp; omega
    have hs1 : S1 - 1 = s := by omega
    have hS1 : 1 ≤ S1 ∧ S1 ≤ 4 := by omega
    clear eS1
    have hsb : (s : Int) ≤ 3 := by omega
    have hn' : (n : Int) ≤ 16 := by omega
    go_enter Try.func33, Try.ntmps33
    go_wp2
    go_loopw [7, 8] (fun v i wr => ∃ k : Nat, f + k ≤ n ∧ i = .int .i64 ((f + k : Nat) : Int) ∧ OwnL IntsC w.heap.size 36 wr v (combsTo n s f k) ∧ Below w.heap.size w wr) (fun _ i _ => n - (intOf i).toNat)
    case atStart => exact ⟨0, hf, rfl, OwnL.nil _ _ _ _, Below.refl _ _⟩
    case round =>
      obtain ⟨k, hk, rfl, own, hb⟩ := hrel
      obtain ⟨wo, ewo⟩ : ∃ wo : World, wo = wr := ⟨_, rfl⟩
      rw [← ewo] at own hb ⊢
      clear ewo
      obtain ⟨x, ex⟩ : ∃ x, x = f + k := ⟨_, rfl⟩
      rw [← ex]
      have Hex := hid ex
      clear ex
      by_cases hlt : x < n
      · have hx0 : (0 : Int) ≤ x := by omega
        have hxn : (x : Int) < n := by omega
        have hx1 : ((x + 1 : Nat) : Int) = (x : Int) + 1 := by omega
        have hrc := IH.out (x + 1) wo (by omega) (by omega)
        rw [hx1] at hrc
        have Hrc := hid hrc
        clear hrc hx1
        go_wp2_with fail
        refine Hrc.out.mono ?_
        rintro e w3 ⟨v9, rfl, own9, b9⟩
        obtain ⟨X, eX⟩ : ∃ X, X = combs n s (x + 1) := ⟨_, rfl⟩
        have hXl : X.length ≤ 65536 := by rw [eX]; exact combs_small hn (by omega) _
        have hTl : (combsTo n s f k).length ≤ 1048576 := combsTo_small hn (by omega) (by omega) f
        have HXm : Hid (∀ j, j < X.length → (X.getD j []).length = s) := hid (fun j hj => by rw [eX] at hj ⊢; exact combs_getD hj)
        have Hst := hid (show combsTo n s f (k + 1) = combsTo n s f k ++ X.map ((x : Int) :: ·) by rw [combsTo_succ, ← Hex.out, eX])
        rw [← eX] at own9
        obtain ⟨T, eT⟩ : ∃ T, T = combsTo n s f k := ⟨_, rfl⟩
        rw [← eT] at own hTl Hst
        have hR := own9.rests
        obtain ⟨ad, cp, rfl, hX⟩ := own9.slice
        obtain ⟨lx, elx⟩ : ∃ lx, lx = X.length := ⟨_, rfl⟩
        rw [← elx] at hR hXl ⊢
        have Hlx := hid elx
        have bs := hb.size
        have own3 := own.below b9 (Nat.le_refl _)
        have hb3 := hb.trans (b9.mono bs)
        have hown : ∀ g, u7.ownBlock = some g → g < wo.heap.size ∨ w3.heap.size ≤ g := fun g e => Or.inl (own.lt g e).2
        have hb9s := b9.size
        clear own9 hX elx eX eT own hb b9 Hrc
        go_wp2
        go_loopw [7, 10] (fun v i wq => ∃ j : Nat, j ≤ lx ∧ i = .int .i64 j ∧ OwnL IntsC w.heap.size 36 wq v (T ++ (X.take j).map ((x : Int) :: ·)) ∧ Below w.heap.size w wq ∧ Agr (fun k => wo.heap.size ≤ k) w3 wq ∧ ∀ g, v.ownBlock = some g → g < wo.heap.size ∨ w3.heap.size ≤ g) (fun _ i _ => lx - (intOf i).toNat)
        case atStart => exact ⟨0, Nat.zero_le _, rfl, by simpa using own3, hb3, Agr.refl _ _, hown⟩
        case round =>
          obtain ⟨j, hj, rfl, own, hb, hA, hg⟩ := hrel
          by_cases hjl : j < lx
          · have hXh : HeldL IntsC wr ad lx cp X := (hR.move hA (fun _ _ h => h)).held
            obtain ⟨b, o, rfl⟩ := hXh.head (by omega)
            obtain ⟨ae, me, ce, hc, hE⟩ := hXh.elem j hjl
            have hj0 : (0 : Int) ≤ j := by omega
            have hjl' : (j : Int) < lx := by omega
            obtain ⟨r, er⟩ : ∃ r, r = X.getD j [] := ⟨_, rfl⟩
            rw [← er] at hE
            have hme : me ≤ 3 := by have := HXm.out j (by rw [← Hlx.out]; exact hjl); rw [← er, hE.len] at this; omega
            have Hr := hid (show T ++ (X.take (j + 1)).map ((x : Int) :: ·) = T ++ (X.take j).map ((x : Int) :: ·) ++ [[(x : Int)] ++ r] by rw [take_getD X j [] (by rw [← Hlx.out]; exact hjl), ← er]; simp)
            have hYl : (T ++ (X.take j).map ((x : Int) :: ·)).length ≤ 1048576 + j := by simp; omega
            obtain ⟨Y, eY⟩ : ∃ Y, Y = T ++ (X.take j).map ((x : Int) :: ·) := ⟨_, rfl⟩
            rw [← eY] at own Hr hYl
            have bsr := hb.size
            have own0 : OwnL IntC wr.heap.size 3 (wr.alloc (.cells #[.int .i64 (x : Int)] 3)) (.slice (some ⟨wr.heap.size, 0, none⟩) 1 1) [(x : Int)] := OwnL.litInts (l := [(x : Int)]) (Has.new wr (ints [(x : Int)]) 3) (Nat.le_refl _) (by unfold maxLen; simp)
            have hE1 : HeldL IntC (wr.alloc (.cells #[.int .i64 (x : Int)] 3)) ae me ce r := hE.below ((Below.refl wr.heap.size wr).alloc (Nat.le_refl _) _) (Nat.le_refl _)
            have hc2 := (((Below.refl wr.heap.size wr).alloc (Nat.le_refl _) (.cells #[.int .i64 (x : Int)] 3)).cell (p := ⟨b, o + j, none⟩) (lt_of_cell hc)).trans hc
            clear er eY hXh hE
            go_wp2_with (first
              | (at_builtin; refine wpList_append_run rfl (.tmp 34) (.tmp 38) 36 rfl (.slice (some ⟨wr.heap.size, 0, none⟩) 1 1) (.slice ae me ce) (by rfl) (by rfl) (run_append_ints _ wr.heap.size 36 _ 3 i0 _ 8 Try.underlying36 hi hz0 hz1 hz2 rfl _ [(x : Int)] own0 ae me ce r hE1 (by rw [maxLen_eq]; simp; omega) (by simp; omega) (by simp)) ?_; rintro v1 w1 ⟨own1, b1, _, _⟩; have bB : Below wr.heap.size wr w1 := ((Below.refl wr.heap.size wr).alloc (Nat.le_refl _) (.cells #[.int .i64 (x : Int)] 3)).trans b1; have b1s := bB.size; obtain ⟨a1, c1, rfl, hone⟩ := own1.slice; have hR0 := own1.rests; clear own1 hone b1; obtain ⟨l1, el1⟩ : ∃ l1, l1 = ([(x : Int)] ++ r).length := ⟨_, rfl⟩; rw [← el1] at hR0 ⊢; clear el1;
                 have hR1 : Rests IntsC (fun k => w.heap.size ≤ k ∧ u7.ownBlock ≠ some k) (w1.alloc (.cells #[.slice a1 l1 c1] 36)) (.slice a1 l1 c1) ([(x : Int)] ++ r) := (hR0.weak fun k _ hs => ⟨Nat.le_trans bsr hs, fun e => by have := (own.lt _ e).2; omega⟩).alloc _;
                 have own2 := (own.below bB (Nat.le_refl _)).alloc (.cells #[.slice a1 l1 c1] 36); have bC := (hb.trans (bB.mono bsr)).alloc (by omega) (.cells #[.slice a1 l1 c1] 36);
                 have hA2 : Agr (fun k => wo.heap.size ≤ k) w3 (w1.alloc (.cells #[.slice a1 l1 c1] 36)) := hA.trans (Agr.ofBelow' (S := fun k => wo.heap.size ≤ k) (bB.alloc b1s (.cells #[.slice a1 l1 c1] 36)) (Nat.le_refl _)) (fun _ _ h => h); clear own own0 hb bB hA hE1 hR0)
              | (at_builtin; refine wpList_append_run rfl (.tmp 32) (.tmp 40) 51 rfl u7 (.slice (some ⟨w1.heap.size, 0, none⟩) 1 1) (by rfl) (by rfl) (run_append1 _ w.heap.size 51 _ 36 i1 _ 24 Try.underlying51 gi gz0 gz1 gz2 rfl _ Y own2 w1.heap.size 1 (.slice a1 l1 c1) ([(x : Int)] ++ r) (by simp) rfl hR1 (by rw [maxLen_eq]; omega) (by omega) (by simp; omega)) ?_; rintro v4 w4 ⟨own4, b4, hA4, hat⟩))
            have b5 := bC.trans b4
            have hA5 : Agr (fun k => wo.heap.size ≤ k) w3 w4 := hA2.trans hA4 (fun k hk hs e => by rcases hg k e with h | h <;> omega)
            have hw3 := hA2.size
            have hg5 : ∀ g, v4.ownBlock = some g → g < wo.heap.size ∨ w3.heap.size ≤ g := fun g e => by
              rcases hat g e with h | h
              · exact hg g h
              · exact Or.inr (Nat.le_trans hw3 h)
            clear own2 bC b4 hA2 hA4 hat hg hR1 hw3
            go_wp2
            go_roundw
            case rel => exact ⟨j + 1, by omega, by go_num, by rw [Hr.out]; exact own4, b5, hA5, hg5⟩
            case measure => simp [intOf]; omega
          · obtain rfl : j = lx := by omega
            rw [List.take_of_length_le (by rw [← Hlx.out]; exact Nat.le_refl _), ← Hst.out] at own
            go_wp2
            go_roundw
            case rel => exact ⟨k + 1, by have := Hex.out; omega, congrArg (Value.int .i64) (by have := Hex.out; omega), own, hb⟩
            case measure => simp [intOf]; omega
      · have hxe := Hex.out
        go_wp2
        go_ret
        refine ⟨_, rfl, ?_, hb⟩
        rw [combs_step, show n - f = k by omega]
        exact own
end Go.Proofs.Ytkdfplnoldckgaa
