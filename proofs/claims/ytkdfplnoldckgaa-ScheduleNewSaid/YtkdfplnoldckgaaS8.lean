/-
  The walk of the closure of combinations, which calls itself.
-/
import Derived.Test.YtkdfplnoldckgaaRows
import Derived.Test.YtkdfplnoldckgaaSMem
import Derived.Test.YtkdfplnoldckgaaSPlain2
import Derived.Test.YtkdfplnoldckgaaS7
import Derived.WalkKit
import Derived.ProofKit
import Derived.OpenShut
import Derived.Deep.QuietTactic
import Derived.Deep.RegionHeld3
import Derived.Deep.DrawnRows
import Derived.BigQuiet
import Derived.Deep.DeepMust
import Derived.Outline
namespace Go.Proofs.Ytkdfplnoldckgaa
open Go.ChangeShapes Go.WideShapes Go.ChangeAt Go.RowKit
attribute [local go_sem ↓] Go.wp_at_zero Go.wp_at_succ

/-- The closures, as values. -/
def yieldV (Bo BsR : Nat) : Value := .func (.func 30) #[] #[.pointer (some ⟨Bo, 0, none⟩), .pointer (some ⟨BsR, 0, none⟩)]
def addV (Bs By Bp Ba : Nat) : Value := .func (.func 47) #[] #[.pointer (some ⟨Bs, 0, none⟩), .pointer (some ⟨By, 0, none⟩), .pointer (some ⟨Bp, 0, none⟩), .pointer (some ⟨Ba, 0, none⟩)]
/-- The variables of Robin and of combinations that nobody writes any more. -/
structure Env (Bp Bs By Ba Bo BsR B n s : Nat) (w : World) : Prop where
  cp : w.cell? ⟨Bp, 0, none⟩ = some (.int .i64 n)
  cs : w.cell? ⟨Bs, 0, none⟩ = some (.int .i64 s)
  cy : w.cell? ⟨By, 0, none⟩ = some (yieldV Bo BsR)
  ca : w.cell? ⟨Ba, 0, none⟩ = some (addV Bs By Bp Ba)
  cr : w.cell? ⟨BsR, 0, none⟩ = some (.int .i64 s)
  lt : Bp < B ∧ Bs < B ∧ By < B ∧ Ba < B ∧ BsR < B
  ne : Bp ≠ Bo ∧ Bs ≠ Bo ∧ By ≠ Bo ∧ Ba ≠ Bo ∧ BsR ≠ Bo
theorem Env.agr {Bp Bs By Ba Bo BsR B n s : Nat} {w w' : World} (h : Env Bp Bs By Ba Bo BsR B n s w) (k : Agr (fun k => k < B ∧ k ≠ Bo) w w') : Env Bp Bs By Ba Bo BsR B n s w' :=
  ⟨k.cell h.cp ⟨h.lt.1, h.ne.1⟩, k.cell h.cs ⟨h.lt.2.1, h.ne.2.1⟩, k.cell h.cy ⟨h.lt.2.2.1, h.ne.2.2.1⟩, k.cell h.ca ⟨h.lt.2.2.2.1, h.ne.2.2.2.1⟩, k.cell h.cr ⟨h.lt.2.2.2.2, h.ne.2.2.2.2⟩, h.lt, h.ne⟩
theorem Env.step {Bp Bs By Ba Bo BsR B n s base : Nat} {w w' : World} {vo vo' : Value} (h : Env Bp Bs By Ba Bo BsR B n s w) (k : Step Bo base vo w vo' w') (ho : ∀ g, vo.ownBlock = some g → B ≤ g) : Env Bp Bs By Ba Bo BsR B n s w' :=
  h.agr ⟨k.agr.size, fun i hi hs => k.agr.block i hi ⟨hs.2, fun e => by have := ho i e; omega⟩⟩
theorem Env.below {Bp Bs By Ba Bo BsR B n s D : Nat} {w w' : World} (h : Env Bp Bs By Ba Bo BsR B n s w) (hb : Below D w w') (hD : w.heap.size ≤ D) : Env Bp Bs By Ba Bo BsR B n s w' :=
  h.agr (Agr.ofBelow' hb hD)

theorem agr_ne {b n c : Nat} {w w' : World} (h : Agr (fun k => (Value.slice (some ⟨b, 0, none⟩) n c).ownBlock ≠ some k) w w') : Agr (fun k => k ≠ b) w w' := ⟨h.size, fun k hk hs => h.block k hk (fun e => hs (by injection e with e; exact e.symm))⟩
/-- What the closure add does with a list l that wants m more numbers, from f on. -/
def AddSaid (Bp Bs By Ba Bo BsR B base n s m : Nat) : Prop :=
  ∀ (f k cap : Nat) (ad : Option Addr) (l : List Int) (vo : Value) (out : List (List (List Int))) (w : World), k + m = s → f ≤ n → (0 < k → l.getD (k - 1) 0 = (f : Int) - 1) → (k = 0 → f = 0) →
    Rests (SliceOf IntC) (fun j => j ≠ Bo ∧ vo.ownBlock ≠ some j) w (.slice ad k cap) l → Env Bp Bs By Ba Bo BsR B n s w → OutSt Bo B w vo out → out.length + (combs n m f).length ≤ 100000 →
    Calls Try.prog 47 #[.slice ad k cap, .pointer (some ⟨Bs, 0, none⟩), .pointer (some ⟨By, 0, none⟩), .pointer (some ⟨Bp, 0, none⟩), .pointer (some ⟨Ba, 0, none⟩)] w fun e w' =>
      e = .returned (.tuple #[]) ∧ ∃ vo', OutSt Bo B w' vo' (robFold s out ((combs n m f).map (l ++ ·))) ∧ Step Bo base vo w vo' w'

theorem add_zero (Bp Bs By Ba Bo BsR B base n s : Nat) (hbase : base ≤ Bo) (hs : 3 ≤ s ∧ s ≤ 4) : AddSaid Bp Bs By Ba Bo BsR B base n s 0 := by
  intro f k cap ad l vo out w hk hf hlast hk0 hl hE hO hlen
  have hfin := hid (show robFold s out ((combs n 0 f).map (l ++ ·)) = out ++ [[rotL l (out.length % s)]] by simp [combs, robFold])
  obtain rfl : k = s := by omega
  have hld : HeldL IntC w ad k cap l := hl.held
  have cs := hE.cs
  have cy := hE.cy
  have cr := hE.cr
  have hlen' : out.length ≤ 100000 := by omega
  clear hlast hk0 hl hE hlen
  unfold yieldV at cy
  go_enter Try.func47, Try.ntmps47
  go_wp2_with fail
  refine (yield_any Bo BsR B base k cap k ad l vo out _ (by omega) (by omega) (by omega) hld hO hbase hlen' cr).mono ?_
  rintro e w1 ⟨rfl, vo', h1, h2⟩
  go_wp2
  refine bodyPost_ret (results_none rfl _ _ _) rfl ?_
  exact ⟨rfl, vo', by rw [hfin.out]; exact h1, h2⟩
set_option maxHeartbeats 4000000 in
theorem add_succ (Bp Bs By Ba Bo BsR B base n s m : Nat) (hbase : base ≤ Bo) (hs : 3 ≤ s ∧ s ≤ 4) (hn : n ≤ 16) (ih : Hid (AddSaid Bp Bs By Ba Bo BsR B base n s m)) : AddSaid Bp Bs By Ba Bo BsR B base n s (m + 1) := by
  intro f k cap ad l vo out w hk hf hlast hk0 hl hE hO hlen
  obtain ⟨i0, hi, hz0, hz1, hz2⟩ := info_parts info_int
  have hld : HeldL IntC w ad k cap l := hl.held
  have cs := hE.cs
  have hks : ((k : Int) == s) = false := by simp; omega
  have hkb : (k : Int) ≤ 3 := by omega
  have hfb : (f : Int) ≤ n := by omega
  have hnb : (n : Int) ≤ 16 := by omega
  have hlB := hO.lt
  have hwB := hO.le
  have Hlen := hid hlen
  have Hk := hid hk
  clear hlen hk
  by_cases hz : k = 0
  · have hkz : (k : Int) ≤ 0 := by omega
    have hkN : decide (0 < k) = false := by simp; omega
    have Hf0 := hid (hk0 hz)
    clear hlast hk0 hz
    go_enter Try.func47, Try.ntmps47
    go_wp2
    go_loopw [7] (fun p wr => ∃ j : Nat, f + j ≤ n ∧ p = .int .i64 ((f + j : Nat) : Int) ∧ ∃ vo', OutSt Bo B wr vo' (robFold s out ((combsTo n m f j).map (l ++ ·))) ∧ Step Bo base vo w vo' wr) (fun p _ => n - (intOf p).toNat)
    case atStart => exact ⟨0, hf, congrArg (Value.int .i64) (by first | omega | (have := Hf0.out; omega)), vo, by simpa [combsTo, robFold] using hO, Step.refl _ _ _ _⟩
    case round =>
      obtain ⟨j, hj, rfl, v1, hO1, hS1⟩ := hrel
      obtain ⟨x, ex⟩ : ∃ x, x = f + j := ⟨_, rfl⟩
      rw [← ex]
      have Hex := hid ex
      have hEr := hE.step hS1 (fun g e => (hO.own.lt g e).1)
      have cp := hEr.cp
      clear ex
      by_cases hlt : x < n
      · have hx0 : (0 : Int) ≤ x := by omega
        have hxn : (x : Int) < n := by omega
        have hlr := hl.move hS1.agr (S' := fun j => j ≠ Bo ∧ v1.ownBlock ≠ some j) (fun i hi hs => ⟨hs.1, fun e => by
          rcases hS1.new i e with h | h
          · exact hs.2 h
          · omega⟩)
        have hlh : HeldL IntC wr ad k cap l := hlr.held
        have ca := hEr.ca
        unfold addV at ca
        have hBa := lt_of_cell ca
        have bO := hO1.le
        have hl1 : l.length = k := hlh.len
        have Hl1 := hid hl1
        obtain ⟨OUT, eO⟩ : ∃ OUT, OUT = robFold s out ((combsTo n m f j).map (l ++ ·)) := ⟨_, rfl⟩
        have Hnx := hid (show robFold s out ((combsTo n m f (j + 1)).map (l ++ ·)) = robFold s OUT ((combs n m (x + 1)).map ((l ++ [(x : Int)]) ++ ·)) by rw [combsTo_snoc_map, robFold_append, ← eO, ← Hex.out])
        have HOl := hid (show OUT.length + (combs n m (x + 1)).length ≤ 100000 by have h1 := combsTo_part n m f j (by rw [← Hex.out]; exact hlt); have h2 := Hlen.out; rw [← Hex.out] at h1; rw [eO, robFold_length, List.length_map]; omega)
        rw [← eO] at hO1
        have hlast1 := hid (show 0 < k + 1 → (l ++ [(x : Int)]).getD (k + 1 - 1) 0 = ((x + 1 : Nat) : Int) - 1 from fun _ => by rw [Nat.add_sub_cancel, List.getD_eq_getElem?_getD, List.getElem?_append_right (by omega), hl1]; simp)
        have Hk2 := Hk.out
        clear eO hl1
        have bA : Below wr.heap.size wr (wr.alloc (.cells #[] 3)).drew := ((Below.refl wr.heap.size wr).alloc (Nat.le_refl _) _).drew
        have bAP : Below wr.heap.size wr ((wr.alloc (.cells #[] 3)).alloc (.cells #[.int .i64 (x : Int)] 3)).drew := (((Below.refl wr.heap.size wr).alloc (Nat.le_refl _) _).alloc (by simp) _).drew
        have bP : Below wr.heap.size wr (wr.alloc (.cells #[.int .i64 (x : Int)] 3)).drew := ((Below.refl wr.heap.size wr).alloc (Nat.le_refl _) _).drew
        have bPA : Below wr.heap.size wr ((wr.alloc (.cells #[.int .i64 (x : Int)] 3)).alloc (.cells #[] 3)).drew := (((Below.refl wr.heap.size wr).alloc (Nat.le_refl _) _).alloc (by simp) _).drew
        have oA : OwnL IntC wr.heap.size 3 (wr.alloc (.cells #[] 3)).drew (.slice (some ⟨wr.heap.size, 0, none⟩) 0 0) [] := (OwnL.made IntC _ _ wr (Nat.le_refl _)).drew
        have oAP : OwnL IntC wr.heap.size 3 ((wr.alloc (.cells #[] 3)).alloc (.cells #[.int .i64 (x : Int)] 3)).drew (.slice (some ⟨wr.heap.size, 0, none⟩) 0 0) [] := ((OwnL.made IntC _ _ wr (Nat.le_refl _)).alloc _).drew
        have oPA : OwnL IntC wr.heap.size 3 ((wr.alloc (.cells #[.int .i64 (x : Int)] 3)).alloc (.cells #[] 3)).drew (.slice (some ⟨wr.heap.size + 1, 0, none⟩) 0 0) [] := OwnL.drew (by have h := OwnL.made IntC wr.heap.size 3 (wr.alloc (.cells #[.int .i64 (x : Int)] 3)) (by simp); rwa [show (wr.alloc (.cells #[.int .i64 (x : Int)] 3)).heap.size = wr.heap.size + 1 from by simp] at h)
        have lA := hlh.below bA (Nat.le_refl _)
        have lAP := hlh.below bAP (Nat.le_refl _)
        have lPA := hlh.below bPA (Nat.le_refl _)
        have caA := (bA.cell (p := ⟨Ba, 0, none⟩) hBa).trans ca
        have caAP := (bAP.cell (p := ⟨Ba, 0, none⟩) hBa).trans ca
        have caP := (bP.cell (p := ⟨Ba, 0, none⟩) hBa).trans ca
        have caPA := (bPA.cell (p := ⟨Ba, 0, none⟩) hBa).trans ca
        have pAP : Rests IntsC (fun g => g ≠ wr.heap.size) ((wr.alloc (.cells #[] 3)).alloc (.cells #[.int .i64 (x : Int)] 3)).drew (.slice (some ⟨wr.heap.size + 1, 0, none⟩) 1 1) [(x : Int)] := rests_ints (l := [(x : Int)]) ((Has.newAt (w := wr.alloc (.cells #[] 3)) (vs := ints [(x : Int)]) (by simp)).drew) (by omega) rfl (by omega)
        have pPA : Rests IntsC (fun g => g ≠ wr.heap.size + 1) ((wr.alloc (.cells #[.int .i64 (x : Int)] 3)).alloc (.cells #[] 3)).drew (.slice (some ⟨wr.heap.size, 0, none⟩) 1 1) [(x : Int)] := rests_ints (l := [(x : Int)]) (((Has.new wr (ints [(x : Int)]) 3).alloc _).drew) (by omega) rfl (by omega)
        have hBw : Bo < wr.heap.size := by omega
        go_wp2
        go_region_held3 (fun wx => wx.cell? ⟨Ba, 0, none⟩ = some (.func (.func 47) #[] #[.pointer (some ⟨Bs, 0, none⟩), .pointer (some ⟨By, 0, none⟩), .pointer (some ⟨Bp, 0, none⟩), .pointer (some ⟨Ba, 0, none⟩)])) (first | exact ca | exact caA | exact caAP | exact caP | exact caPA | exact ca1 | exact ca1P | exact ca2 | exact ca3)
          (first
            | (refine step_append_run rfl (.tmp 32) (.tmp 33) 36 rfl (.slice (some ⟨wr.heap.size, 0, none⟩) 0 0) _ (by rfl) (by rfl) (run_append_ints ((wr.alloc (.cells #[] 3)).alloc (.cells #[.int .i64 (x : Int)] 3)).drew wr.heap.size 36 _ 3 i0 _ 8 Try.underlying36 hi hz0 hz1 hz2 rfl _ [] oAP _ k cap l lAP (by rw [maxLen_eq]; simp; omega) (by simp; omega) (by simp <;> omega)) ?_; rintro v5 w1 ⟨own1, b1, hA1, _⟩; rw [List.nil_append] at own1; have bb1 : Below wr.heap.size wr w1 := bAP.trans b1; have ca1 := (bb1.cell (p := ⟨Ba, 0, none⟩) hBa).trans ca; obtain ⟨a1, c1, rfl, z1⟩ := own1.slice; clear z1; have hs1 := bb1.size; have hP1 : HeldL IntC w1 (some ⟨wr.heap.size + 1, 0, none⟩) 1 1 [(x : Int)] := pAP.move (agr_ne hA1) (fun _ _ _ => trivial))
            | (refine step_append_run rfl (.tmp 32) (.tmp 33) 36 rfl (.slice (some ⟨wr.heap.size, 0, none⟩) 0 0) _ (by rfl) (by rfl) (run_append_ints (wr.alloc (.cells #[] 3)).drew wr.heap.size 36 _ 3 i0 _ 8 Try.underlying36 hi hz0 hz1 hz2 rfl _ [] oA _ k cap l lA (by rw [maxLen_eq]; simp; omega) (by simp; omega) (by simp <;> omega)) ?_; rintro v5 w1 ⟨own1, b1, hA1, _⟩; rw [List.nil_append] at own1; have bb1 : Below wr.heap.size wr w1 := bA.trans b1; have ca1 := (bb1.cell (p := ⟨Ba, 0, none⟩) hBa).trans ca; obtain ⟨a1, c1, rfl, z1⟩ := own1.slice; clear z1; have own1 := own1.alloc (.cells #[.int .i64 (x : Int)] 3); have hP1 : HeldL IntC (w1.alloc (.cells #[.int .i64 (x : Int)] 3)) (some ⟨w1.heap.size, 0, none⟩) 1 1 [(x : Int)] := rests_ints (l := [(x : Int)]) (Has.new w1 (ints [(x : Int)]) 3) trivial rfl (by omega); have bb1 := bb1.alloc bb1.size (.cells #[.int .i64 (x : Int)] 3); have ca1P := (bb1.cell (p := ⟨Ba, 0, none⟩) hBa).trans ca; have hs1 := bb1.size)
            | (refine step_append_run rfl (.tmp 32) (.tmp 33) 36 rfl (.slice (some ⟨wr.heap.size + 1, 0, none⟩) 0 0) _ (by rfl) (by rfl) (run_append_ints ((wr.alloc (.cells #[.int .i64 (x : Int)] 3)).alloc (.cells #[] 3)).drew wr.heap.size 36 _ 3 i0 _ 8 Try.underlying36 hi hz0 hz1 hz2 rfl _ [] oPA _ k cap l lPA (by rw [maxLen_eq]; simp; omega) (by simp; omega) (by simp <;> omega)) ?_; rintro v5 w1 ⟨own1, b1, hA1, _⟩; rw [List.nil_append] at own1; have bb1 : Below wr.heap.size wr w1 := bPA.trans b1; have ca1 := (bb1.cell (p := ⟨Ba, 0, none⟩) hBa).trans ca; obtain ⟨a1, c1, rfl, z1⟩ := own1.slice; clear z1; have hs1 := bb1.size; have hP1 : HeldL IntC w1 (some ⟨wr.heap.size, 0, none⟩) 1 1 [(x : Int)] := pPA.move (agr_ne hA1) (fun _ _ _ => trivial))
            | (refine step_append_run rfl (.tmp 34) (.tmp 36) 36 rfl (.slice a1 l.length c1) _ (by rfl) (by rfl) (run_append_ints _ wr.heap.size 36 _ 3 i0 _ 8 Try.underlying36 hi hz0 hz1 hz2 rfl _ l own1 _ 1 1 [(x : Int)] hP1 (by rw [Hl1.out, maxLen_eq]; omega) (by rw [Hl1.out]; omega) hs1) ?_; rintro v6 w2 ⟨own2, b2, _, _⟩; have bb2 := bb1.trans b2; have ca2 := (bb2.cell (p := ⟨Ba, 0, none⟩) hBa).trans ca; have hR2 := own2.rests; obtain ⟨a2, c2, rfl, z2⟩ := own2.slice; clear z2 own2; obtain ⟨l2, el2⟩ : ∃ l2, l2 = (l ++ [(x : Int)]).length := ⟨_, rfl⟩; rw [← el2] at hR2 ⊢; have hl2 : l2 = k + 1 := (by rw [el2, List.length_append, Hl1.out]; rfl);
               clear el2; subst hl2; have hR3 : Rests (SliceOf IntC) (fun g => g ≠ Bo ∧ v1.ownBlock ≠ some g) w2 (.slice a2 (k + 1) c2) (l ++ [(x : Int)]) := hR2.weak fun g _ hs => ⟨by omega, fun e => by have := (hO1.own.lt _ e).2; omega⟩;
               have hE2 := hEr.below bb2 (Nat.le_refl _); have hO2 := hO1.below bb2 (Nat.le_refl _))
            | (go_at_call 47; refine (ih.out (x + 1) (k + 1) c2 a2 (l ++ [(x : Int)]) v1 OUT w2 (by omega) (by omega) hlast1.out (fun h => by omega) hR3 hE2 hO2 HOl.out).mono ?_; rintro e w3 ⟨rfl, v3, hO3, hS3⟩; have ca3 := (hE2.step hS3 (fun g e => (hO2.own.lt g e).1)).ca; unfold addV at ca3))
        all_goals
          have hS4 := hS1.trans ((Step.ofBelow (Bo := Bo) (base := base) (vo := v1) bb2 (Nat.le_refl _) (by omega)).trans hS3)
          clear ca caA caAP caP caPA ca1 ca2 ca3 bA bAP bP bPA oA oAP oPA lA lAP lPA pAP pPA hP1 own1 bb1 bb2 b1 b2 hA1 hs1 hR2 hR3 hE2 hO2 hS3 hO1 hS1 hEr hlr hlh
          go_wp2
          go_roundw
          case rel => exact ⟨j + 1, by have := Hex.out; omega, congrArg (Value.int .i64) (by have := Hex.out; omega), v3, by rw [Hnx.out]; exact hO3, hS4⟩
          case measure => simp [intOf]; omega
      · have hje := Hex.out
        have hfin := hid (show robFold s out ((combs n (m + 1) f).map (l ++ ·)) = robFold s out ((combsTo n m f j).map (l ++ ·)) by rw [combs_step, show n - f = j by omega])
        clear hje
        go_wp2
        refine bodyPost_end (results_none rfl _ _ _) rfl ?_
        exact ⟨rfl, v1, by rw [hfin.out]; exact hO1, hS1⟩
  · obtain ⟨b, o, rfl⟩ := hld.head (by omega)
    have hc := hld.int (k - 1) (by omega)
    rw [hlast (by omega)] at hc
    obtain ⟨k1, ek1⟩ : ∃ k1 : Nat, k1 = k - 1 := ⟨_, rfl⟩
    rw [← ek1] at hc
    have hk1 : (k : Int) - 1 = k1 := by omega
    have hk10 : (0 : Int) ≤ k1 := by omega
    have hk1k : (k1 : Int) < k := by omega
    have hkp : (0 : Int) < k := by omega
    have hkN : decide (0 < k) = true := by simp; omega
    have hff : (f : Int) - 1 + 1 = f := by omega
    clear hlast hk0 ek1 hz
    go_enter Try.func47, Try.ntmps47
    go_wp2
    go_loopw [7] (fun p wr => ∃ j : Nat, f + j ≤ n ∧ p = .int .i64 ((f + j : Nat) : Int) ∧ ∃ vo', OutSt Bo B wr vo' (robFold s out ((combsTo n m f j).map (l ++ ·))) ∧ Step Bo base vo w vo' wr) (fun p _ => n - (intOf p).toNat)
    case atStart => exact ⟨0, hf, congrArg (Value.int .i64) (by first | omega | (have := Hf0.out; omega)), vo, by simpa [combsTo, robFold] using hO, Step.refl _ _ _ _⟩
    case round =>
      obtain ⟨j, hj, rfl, v1, hO1, hS1⟩ := hrel
      obtain ⟨x, ex⟩ : ∃ x, x = f + j := ⟨_, rfl⟩
      rw [← ex]
      have Hex := hid ex
      have hEr := hE.step hS1 (fun g e => (hO.own.lt g e).1)
      have cp := hEr.cp
      clear ex
      by_cases hlt : x < n
      · have hx0 : (0 : Int) ≤ x := by omega
        have hxn : (x : Int) < n := by omega
        have hlr := hl.move hS1.agr (S' := fun j => j ≠ Bo ∧ v1.ownBlock ≠ some j) (fun i hi hs => ⟨hs.1, fun e => by
          rcases hS1.new i e with h | h
          · exact hs.2 h
          · omega⟩)
        have hlh : HeldL IntC wr (some ⟨b, o, none⟩) k cap l := hlr.held
        have ca := hEr.ca
        unfold addV at ca
        have hBa := lt_of_cell ca
        have bO := hO1.le
        have hl1 : l.length = k := hlh.len
        have Hl1 := hid hl1
        obtain ⟨OUT, eO⟩ : ∃ OUT, OUT = robFold s out ((combsTo n m f j).map (l ++ ·)) := ⟨_, rfl⟩
        have Hnx := hid (show robFold s out ((combsTo n m f (j + 1)).map (l ++ ·)) = robFold s OUT ((combs n m (x + 1)).map ((l ++ [(x : Int)]) ++ ·)) by rw [combsTo_snoc_map, robFold_append, ← eO, ← Hex.out])
        have HOl := hid (show OUT.length + (combs n m (x + 1)).length ≤ 100000 by have h1 := combsTo_part n m f j (by rw [← Hex.out]; exact hlt); have h2 := Hlen.out; rw [← Hex.out] at h1; rw [eO, robFold_length, List.length_map]; omega)
        rw [← eO] at hO1
        have hlast1 := hid (show 0 < k + 1 → (l ++ [(x : Int)]).getD (k + 1 - 1) 0 = ((x + 1 : Nat) : Int) - 1 from fun _ => by rw [Nat.add_sub_cancel, List.getD_eq_getElem?_getD, List.getElem?_append_right (by omega), hl1]; simp)
        have Hk2 := Hk.out
        clear eO hl1
        have bA : Below wr.heap.size wr (wr.alloc (.cells #[] 3)).drew := ((Below.refl wr.heap.size wr).alloc (Nat.le_refl _) _).drew
        have bAP : Below wr.heap.size wr ((wr.alloc (.cells #[] 3)).alloc (.cells #[.int .i64 (x : Int)] 3)).drew := (((Below.refl wr.heap.size wr).alloc (Nat.le_refl _) _).alloc (by simp) _).drew
        have bP : Below wr.heap.size wr (wr.alloc (.cells #[.int .i64 (x : Int)] 3)).drew := ((Below.refl wr.heap.size wr).alloc (Nat.le_refl _) _).drew
        have bPA : Below wr.heap.size wr ((wr.alloc (.cells #[.int .i64 (x : Int)] 3)).alloc (.cells #[] 3)).drew := (((Below.refl wr.heap.size wr).alloc (Nat.le_refl _) _).alloc (by simp) _).drew
        have oA : OwnL IntC wr.heap.size 3 (wr.alloc (.cells #[] 3)).drew (.slice (some ⟨wr.heap.size, 0, none⟩) 0 0) [] := (OwnL.made IntC _ _ wr (Nat.le_refl _)).drew
        have oAP : OwnL IntC wr.heap.size 3 ((wr.alloc (.cells #[] 3)).alloc (.cells #[.int .i64 (x : Int)] 3)).drew (.slice (some ⟨wr.heap.size, 0, none⟩) 0 0) [] := ((OwnL.made IntC _ _ wr (Nat.le_refl _)).alloc _).drew
        have oPA : OwnL IntC wr.heap.size 3 ((wr.alloc (.cells #[.int .i64 (x : Int)] 3)).alloc (.cells #[] 3)).drew (.slice (some ⟨wr.heap.size + 1, 0, none⟩) 0 0) [] := OwnL.drew (by have h := OwnL.made IntC wr.heap.size 3 (wr.alloc (.cells #[.int .i64 (x : Int)] 3)) (by simp); rwa [show (wr.alloc (.cells #[.int .i64 (x : Int)] 3)).heap.size = wr.heap.size + 1 from by simp] at h)
        have lA := hlh.below bA (Nat.le_refl _)
        have lAP := hlh.below bAP (Nat.le_refl _)
        have lPA := hlh.below bPA (Nat.le_refl _)
        have caA := (bA.cell (p := ⟨Ba, 0, none⟩) hBa).trans ca
        have caAP := (bAP.cell (p := ⟨Ba, 0, none⟩) hBa).trans ca
        have caP := (bP.cell (p := ⟨Ba, 0, none⟩) hBa).trans ca
        have caPA := (bPA.cell (p := ⟨Ba, 0, none⟩) hBa).trans ca
        have pAP : Rests IntsC (fun g => g ≠ wr.heap.size) ((wr.alloc (.cells #[] 3)).alloc (.cells #[.int .i64 (x : Int)] 3)).drew (.slice (some ⟨wr.heap.size + 1, 0, none⟩) 1 1) [(x : Int)] := rests_ints (l := [(x : Int)]) ((Has.newAt (w := wr.alloc (.cells #[] 3)) (vs := ints [(x : Int)]) (by simp)).drew) (by omega) rfl (by omega)
        have pPA : Rests IntsC (fun g => g ≠ wr.heap.size + 1) ((wr.alloc (.cells #[.int .i64 (x : Int)] 3)).alloc (.cells #[] 3)).drew (.slice (some ⟨wr.heap.size, 0, none⟩) 1 1) [(x : Int)] := rests_ints (l := [(x : Int)]) (((Has.new wr (ints [(x : Int)]) 3).alloc _).drew) (by omega) rfl (by omega)
        have hBw : Bo < wr.heap.size := by omega
        go_wp2
        go_region_held3 (fun wx => wx.cell? ⟨Ba, 0, none⟩ = some (.func (.func 47) #[] #[.pointer (some ⟨Bs, 0, none⟩), .pointer (some ⟨By, 0, none⟩), .pointer (some ⟨Bp, 0, none⟩), .pointer (some ⟨Ba, 0, none⟩)])) (first | exact ca | exact caA | exact caAP | exact caP | exact caPA | exact ca1 | exact ca1P | exact ca2 | exact ca3)
          (first
            | (refine step_append_run rfl (.tmp 32) (.tmp 33) 36 rfl (.slice (some ⟨wr.heap.size, 0, none⟩) 0 0) _ (by rfl) (by rfl) (run_append_ints ((wr.alloc (.cells #[] 3)).alloc (.cells #[.int .i64 (x : Int)] 3)).drew wr.heap.size 36 _ 3 i0 _ 8 Try.underlying36 hi hz0 hz1 hz2 rfl _ [] oAP _ k cap l lAP (by rw [maxLen_eq]; simp; omega) (by simp; omega) (by simp <;> omega)) ?_; rintro v5 w1 ⟨own1, b1, hA1, _⟩; rw [List.nil_append] at own1; have bb1 : Below wr.heap.size wr w1 := bAP.trans b1; have ca1 := (bb1.cell (p := ⟨Ba, 0, none⟩) hBa).trans ca; obtain ⟨a1, c1, rfl, z1⟩ := own1.slice; clear z1; have hs1 := bb1.size; have hP1 : HeldL IntC w1 (some ⟨wr.heap.size + 1, 0, none⟩) 1 1 [(x : Int)] := pAP.move (agr_ne hA1) (fun _ _ _ => trivial))
            | (refine step_append_run rfl (.tmp 32) (.tmp 33) 36 rfl (.slice (some ⟨wr.heap.size, 0, none⟩) 0 0) _ (by rfl) (by rfl) (run_append_ints (wr.alloc (.cells #[] 3)).drew wr.heap.size 36 _ 3 i0 _ 8 Try.underlying36 hi hz0 hz1 hz2 rfl _ [] oA _ k cap l lA (by rw [maxLen_eq]; simp; omega) (by simp; omega) (by simp <;> omega)) ?_; rintro v5 w1 ⟨own1, b1, hA1, _⟩; rw [List.nil_append] at own1; have bb1 : Below wr.heap.size wr w1 := bA.trans b1; have ca1 := (bb1.cell (p := ⟨Ba, 0, none⟩) hBa).trans ca; obtain ⟨a1, c1, rfl, z1⟩ := own1.slice; clear z1; have own1 := own1.alloc (.cells #[.int .i64 (x : Int)] 3); have hP1 : HeldL IntC (w1.alloc (.cells #[.int .i64 (x : Int)] 3)) (some ⟨w1.heap.size, 0, none⟩) 1 1 [(x : Int)] := rests_ints (l := [(x : Int)]) (Has.new w1 (ints [(x : Int)]) 3) trivial rfl (by omega); have bb1 := bb1.alloc bb1.size (.cells #[.int .i64 (x : Int)] 3); have ca1P := (bb1.cell (p := ⟨Ba, 0, none⟩) hBa).trans ca; have hs1 := bb1.size)
            | (refine step_append_run rfl (.tmp 32) (.tmp 33) 36 rfl (.slice (some ⟨wr.heap.size + 1, 0, none⟩) 0 0) _ (by rfl) (by rfl) (run_append_ints ((wr.alloc (.cells #[.int .i64 (x : Int)] 3)).alloc (.cells #[] 3)).drew wr.heap.size 36 _ 3 i0 _ 8 Try.underlying36 hi hz0 hz1 hz2 rfl _ [] oPA _ k cap l lPA (by rw [maxLen_eq]; simp; omega) (by simp; omega) (by simp <;> omega)) ?_; rintro v5 w1 ⟨own1, b1, hA1, _⟩; rw [List.nil_append] at own1; have bb1 : Below wr.heap.size wr w1 := bPA.trans b1; have ca1 := (bb1.cell (p := ⟨Ba, 0, none⟩) hBa).trans ca; obtain ⟨a1, c1, rfl, z1⟩ := own1.slice; clear z1; have hs1 := bb1.size; have hP1 : HeldL IntC w1 (some ⟨wr.heap.size, 0, none⟩) 1 1 [(x : Int)] := pPA.move (agr_ne hA1) (fun _ _ _ => trivial))
            | (refine step_append_run rfl (.tmp 34) (.tmp 36) 36 rfl (.slice a1 l.length c1) _ (by rfl) (by rfl) (run_append_ints _ wr.heap.size 36 _ 3 i0 _ 8 Try.underlying36 hi hz0 hz1 hz2 rfl _ l own1 _ 1 1 [(x : Int)] hP1 (by rw [Hl1.out, maxLen_eq]; omega) (by rw [Hl1.out]; omega) hs1) ?_; rintro v6 w2 ⟨own2, b2, _, _⟩; have bb2 := bb1.trans b2; have ca2 := (bb2.cell (p := ⟨Ba, 0, none⟩) hBa).trans ca; have hR2 := own2.rests; obtain ⟨a2, c2, rfl, z2⟩ := own2.slice; clear z2 own2; obtain ⟨l2, el2⟩ : ∃ l2, l2 = (l ++ [(x : Int)]).length := ⟨_, rfl⟩; rw [← el2] at hR2 ⊢; have hl2 : l2 = k + 1 := (by rw [el2, List.length_append, Hl1.out]; rfl);
               clear el2; subst hl2; have hR3 : Rests (SliceOf IntC) (fun g => g ≠ Bo ∧ v1.ownBlock ≠ some g) w2 (.slice a2 (k + 1) c2) (l ++ [(x : Int)]) := hR2.weak fun g _ hs => ⟨by omega, fun e => by have := (hO1.own.lt _ e).2; omega⟩;
               have hE2 := hEr.below bb2 (Nat.le_refl _); have hO2 := hO1.below bb2 (Nat.le_refl _))
            | (go_at_call 47; refine (ih.out (x + 1) (k + 1) c2 a2 (l ++ [(x : Int)]) v1 OUT w2 (by omega) (by omega) hlast1.out (fun h => by omega) hR3 hE2 hO2 HOl.out).mono ?_; rintro e w3 ⟨rfl, v3, hO3, hS3⟩; have ca3 := (hE2.step hS3 (fun g e => (hO2.own.lt g e).1)).ca; unfold addV at ca3))
        all_goals
          have hS4 := hS1.trans ((Step.ofBelow (Bo := Bo) (base := base) (vo := v1) bb2 (Nat.le_refl _) (by omega)).trans hS3)
          clear ca caA caAP caP caPA ca1 ca2 ca3 bA bAP bP bPA oA oAP oPA lA lAP lPA pAP pPA hP1 own1 bb1 bb2 b1 b2 hA1 hs1 hR2 hR3 hE2 hO2 hS3 hO1 hS1 hEr hlr hlh
          go_wp2
          go_roundw
          case rel => exact ⟨j + 1, by have := Hex.out; omega, congrArg (Value.int .i64) (by have := Hex.out; omega), v3, by rw [Hnx.out]; exact hO3, hS4⟩
          case measure => simp [intOf]; omega
      · have hje := Hex.out
        have hfin := hid (show robFold s out ((combs n (m + 1) f).map (l ++ ·)) = robFold s out ((combsTo n m f j).map (l ++ ·)) by rw [combs_step, show n - f = j by omega])
        clear hje
        go_wp2
        refine bodyPost_end (results_none rfl _ _ _) rfl ?_
        exact ⟨rfl, v1, by rw [hfin.out]; exact hO1, hS1⟩
end Go.Proofs.Ytkdfplnoldckgaa
