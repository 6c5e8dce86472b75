/-
  The walk of the closure that Robin hands to combinations.
-/
import Derived.Test.YtkdfplnoldckgaaRows
import Derived.Test.YtkdfplnoldckgaaSMem
import Derived.Test.YtkdfplnoldckgaaSPlain2
import Derived.Test.YtkdfplnoldckgaaS2
import Derived.Test.YtkdfplnoldckgaaS3
import Derived.WalkKit
import Derived.ProofKit
import Derived.OpenShut
import Derived.Deep.QuietTactic
import Derived.Deep.RegionWith
import Derived.Deep.RegionLaw
import Derived.Deep.RegionHeld3
import Derived.Deep.DrawnRows
import Derived.BigQuiet
import Derived.Deep.DeepMust
import Derived.Outline
namespace Go.Proofs.Ytkdfplnoldckgaa
open Go.ChangeShapes Go.WideShapes Go.ChangeAt Go.RowKit
attribute [local go_sem ↓] Go.wp_at_zero Go.wp_at_succ

/-- The variable out of Robin, in block Bo: a slice of the call's own, in blocks from B on, behind the variables. -/
structure OutSt (Bo B : Nat) (w : World) (vo : Value) (out : List (List (List Int))) : Prop where
  has : Has w Bo #[vo] 22
  own : OwnL RoundC B 30 w vo out
  lt : Bo < B
  le : B ≤ w.heap.size
/-- What a change of out may touch. -/
structure Step (Bo base : Nat) (vo : Value) (w : World) (vo' : Value) (w' : World) : Prop where
  agr : Agr (fun k => k ≠ Bo ∧ vo.ownBlock ≠ some k) w w'
  new : ∀ g, vo'.ownBlock = some g → vo.ownBlock = some g ∨ w.heap.size ≤ g
  bel : Below base w w'
theorem Step.refl (Bo base : Nat) (vo : Value) (w : World) : Step Bo base vo w vo w := ⟨Agr.refl _ _, fun _ h => Or.inl h, Below.refl _ _⟩
theorem Step.trans {Bo base : Nat} {v0 v1 v2 : Value} {w0 w1 w2 : World} (h : Step Bo base v0 w0 v1 w1) (k : Step Bo base v1 w1 v2 w2) : Step Bo base v0 w0 v2 w2 where
  agr := h.agr.trans k.agr fun i hi hs => ⟨hs.1, fun e => by
    rcases h.new i e with h' | h'
    · exact hs.2 h'
    · omega⟩
  new := fun g e => by
    rcases k.new g e with h' | h'
    · exact h.new g h'
    · exact Or.inr (Nat.le_trans h.agr.size h')
  bel := h.bel.trans k.bel
theorem OutSt.below {Bo B D : Nat} {w w' : World} {vo : Value} {out : List (List (List Int))} (h : OutSt Bo B w vo out) (hb : Below D w w') (hD : w.heap.size ≤ D) : OutSt Bo B w' vo out :=
  ⟨h.has.below hb (Nat.lt_of_lt_of_le h.has.lt hD), h.own.below hb hD, h.lt, Nat.le_trans h.le hb.size⟩
theorem Step.ofBelow {Bo base D : Nat} {vo : Value} {w w' : World} (hb : Below D w w') (hD : w.heap.size ≤ D) (hbase : base ≤ D) : Step Bo base vo w vo w' := ⟨Agr.ofBelow' hb hD, fun _ h => Or.inl h, hb.mono hbase⟩
/-- A store into out. -/
theorem OutSt.store {Bo B base : Nat} {w : World} {vo v4 : Value} {out : List (List (List Int))} (hh : Has w Bo #[vo] 22) (own : OwnL RoundC B 30 w v4 out) (hlt : Bo < B) (hle : B ≤ w.heap.size) (hb : base ≤ Bo) :
    OutSt Bo B (w.setCell ⟨Bo, 0, none⟩ v4) v4 out ∧ Agr (fun k => k ≠ Bo) w (w.setCell ⟨Bo, 0, none⟩ v4) ∧ Below base w (w.setCell ⟨Bo, 0, none⟩ v4) := by
  have hA : Agr (fun k => k ≠ Bo) w (w.setCell ⟨Bo, 0, none⟩ v4) := ⟨by simp [World.setCell], fun k _ hs => Below.heap_setCell _ _ _ _ hs⟩
  refine ⟨⟨hh.set 0 v4, own.agr ⟨hA.size, fun k hk hs => hA.block k hk (by omega)⟩ (fun g e => hA.block g (own.lt g e).2 (by have := (own.lt g e).1; omega)), hlt, Nat.le_trans hle hA.size⟩, hA, bset (Below.refl _ _) hb _⟩

/-- A call of a function by its name, at a step of a region that draws its order. -/
theorem step_call {P : Program} {w : World} {ops : Array Oper} {o : Oper} {a : Act} {K : Act → World → Prop} {Q : Exit → Act → World → Prop} {E : Prop} (hgd : o.guard = none) (f : FuncId) (xs : Array Operand) (ts : Array TypeId)
    (ho : o.op = .call { callee := .value (.func f), args := xs, argTypes := ts }) (hcf : ∀ (xv : Array Value) (wx : World), (callFunc f xv).run P wx = .ok (.enter f xv) wx) (args : Array Value) (hx : xs.map a.eval = args) {R : Value → World → Prop}
    (hr : Calls P f args w fun e w' => ∃ v, e = .returned v ∧ R v w') (h : ∀ v w', R v w' → K (a.put o.dst v) w') :
    if Region.wanted o (yielded ops a.tmps) = true then Oper.wp P o a w K Q else E := by
  have hw : Region.wanted o (yielded ops a.tmps) = true := by simp [Region.wanted, hgd]
  rw [if_pos hw]
  have he : (execOp a.eval o).run P w = .ok (.enter f args) w := by
    unfold execOp
    simp [ho, resolve, invoke, go_sem, Act.eval, hx, hcf]
  unfold Oper.wp
  rw [he, Oper.upon_enter]
  refine hr.mono ?_
  rintro e w' ⟨v, rfl, hR⟩
  exact h v w' hR
theorem rests_seat {w1 : World} {B base : Nat} {u vo : Value} {x : List Int} {T1 T2 : TypeId} (h : Rests IntsC (fun k => B ≤ k) w1 u x) (hb : base ≤ B) (hB : B ≤ w1.heap.size) (ho : ∀ g, vo.ownBlock = some g → g < B) :
    Rests RoundC (fun k => base ≤ k ∧ vo.ownBlock ≠ some k) ((w1.alloc (.cells #[u] T1)).alloc (.cells #[.slice (some ⟨w1.heap.size, 0, none⟩) 1 1] T2)) (.slice (some ⟨w1.heap.size, 0, none⟩) 1 1) [x] :=
  (rests_one (Has.new w1 _ _) ⟨Nat.le_trans hb hB, fun e => by have := ho _ e; omega⟩ ((h.weak fun k _ hs => ⟨Nat.le_trans hb hs, fun e => by have := ho _ e; omega⟩).alloc _)).alloc _
set_option maxHeartbeats 4000000 in
theorem yield_some (Bo Bs B base b o k cap s : Nat) (l : List Int) (vo : Value) (out : List (List (List Int))) (w : World) (hk0 : 0 < k) (hk : k ≤ 4) (hs : 2 ≤ s ∧ s ≤ 4) (hl : HeldL IntC w (some ⟨b, o, none⟩) k cap l) (ho : OutSt Bo B w vo out) (hbase : base ≤ Bo) (hout : out.length ≤ 100000) (hS : w.cell? ⟨Bs, 0, none⟩ = some (.int .i64 s)) :
    Calls Try.prog 30 #[.slice (some ⟨b, o, none⟩) k cap, .pointer (some ⟨Bo, 0, none⟩), .pointer (some ⟨Bs, 0, none⟩)] w fun e w' => e = .returned (.tuple #[]) ∧ ∃ vo', OutSt Bo B w' vo' (out ++ [[rotL l (out.length % s)]]) ∧ Step Bo base vo w vo' w' := by
  obtain ⟨i1, gi, gz0, gz1, gz2⟩ := info_parts info_round
  obtain ⟨ado, cpo, rfl, hO⟩ := ho.own.slice
  obtain ⟨lo, elo⟩ : ∃ lo, lo = out.length := ⟨_, rfl⟩
  have own := ho.own
  have hlB := ho.lt
  have hle := ho.le
  have hhas := ho.has
  rw [← elo] at hout own hhas ⊢
  have Hlo := hid elo
  obtain ⟨q, eq⟩ : ∃ q, q = lo % s := ⟨_, rfl⟩
  have hq2 : Int.tmod (lo : Int) s = q := by rw [Int.tmod_eq_emod_of_nonneg (by omega), eq]; simp
  have hq1 : (lo : Int) % s = q := by rw [eq]; simp
  have hqs : q < s := by rw [eq]; exact Nat.mod_lt _ (by omega)
  have hsn0 : ¬ s = 0 := by omega
  rw [← eq]
  clear elo eq hO ho
  have hB : w.cell? ⟨Bo, 0, none⟩ = some (.slice ado lo cpo) := hhas.cell rfl
  have hBlt := hhas.lt
  have hSlt := lt_of_cell hS
  have hBd : w.drew.cell? ⟨Bo, 0, none⟩ = some (.slice ado lo cpo) := hB
  have hSd : w.drew.cell? ⟨Bs, 0, none⟩ = some (.int .i64 s) := hS
  have hld : HeldL IntC w.drew (some ⟨b, o, none⟩) k cap l := hl.below ((Below.refl w.heap.size w).drew) (Nat.le_refl _)
  have owd := own.drew
  have hFB := hhas.free 0
  have hol : ∀ g, (Value.slice ado lo cpo).ownBlock = some g → g < w.heap.size := fun g e => (own.lt g e).2
  have hbw : B ≤ w.heap.size := hle
  have hcf : ∀ (xv : Array Value) (wx : World), (callFunc 31 xv).run Try.prog wx = .ok (.enter 31 xv) wx := fun xv wx => by simp [go_sem]
  go_enter Try.func30, Try.ntmps30
  go_wp2
  go_region_law (first
          | (refine step_call rfl 31 _ _ rfl hcf #[.slice (some ⟨b, o, none⟩) k cap, .int .i64 q] (by simp [Act.eval, Act.put]) (rotated_any (some ⟨b, o, none⟩) k cap q l _ (by omega) (by omega) hld) ?_; rintro v1 w1 ⟨own1, b1⟩; obtain ⟨a1, c1, rfl, hone1⟩ := own1.slice; have hR0 := own1.rests; clear own1 hone1; obtain ⟨l1, el1⟩ : ∃ l1, l1 = (rotL l (q : Int).toNat).length := ⟨_, rfl⟩; rw [← el1] at hR0 ⊢; rw [Int.toNat_natCast] at hR0; clear el1;
             have hc1 : w1.cell? ⟨Bo, 0, none⟩ = some (.slice ado lo cpo) := (b1.cell (p := ⟨Bo, 0, none⟩) hBlt).trans hB;
             have bs1 : w.heap.size ≤ w1.heap.size := b1.size;
             have hBw1 : B ≤ w1.heap.size := Nat.le_trans hle bs1;
             have hbl1 : Bo < w1.heap.size := lt_of_cell hc1;
             have hfb1 : w1.frozen? ⟨Bo, 0, none⟩ = false := (b1.frozen (p := ⟨Bo, 0, none⟩) hBlt).trans hFB;
             have own2 := ((owd.below b1 (Nat.le_refl _)).alloc (.cells #[.slice a1 l1 c1] 38)).alloc (.cells #[.slice (some ⟨w1.heap.size, 0, none⟩) 1 1] 30);
             have hR2 := rests_seat (base := B) (vo := .slice ado lo cpo) (T1 := 38) (T2 := 30) hR0 hbw bs1 hol)
          | (refine step_append_run rfl _ _ 22 rfl (.slice ado lo cpo) (.slice (some ⟨w1.heap.size + 1, 0, none⟩) 1 1) (by rfl) (by rfl) (run_append1 _ B 22 _ 30 i1 _ 24 Try.underlying22 gi gz0 gz1 gz2 rfl _ out own2 (w1.heap.size + 1) 1 (.slice (some ⟨w1.heap.size, 0, none⟩) 1 1) [rotL l q] (by simp) rfl hR2 (by rw [← Hlo.out, maxLen_eq]; omega) (by rw [← Hlo.out]; omega) (by simp; omega)) ?_; rintro v4 w4 ⟨own4, b4, hA4, hat⟩; obtain ⟨a4, c4, rfl, h4z⟩ := own4.slice; clear h4z; obtain ⟨l4, el4⟩ : ∃ l4, l4 = (out ++ [[rotL l q]]).length := ⟨_, rfl⟩; rw [← el4] at own4 hat ⊢; clear el4;
             have hh4 : Has w4 Bo #[.slice ado lo cpo] 22 := by unfold Has; rw [hA4.block Bo (by simp; omega) (fun e => by have := (own2.lt _ e).1; omega)]; exact ((Has.below (w := w.drew) hhas b1 hBlt).alloc _).alloc _;
             have hc4 := hh4.cell (j := 0) rfl; have hfb4 := hh4.free 0; have hbl4 := hh4.lt))
  all_goals
    obtain ⟨st, hA5, b5⟩ := OutSt.store hh4 own4 hlB (Nat.le_trans hBw1 (Nat.le_trans (by simp; omega) b4.size)) hbase
    have bX : Below w.heap.size w ((w1.alloc (.cells #[.slice a1 l1 c1] 38)).alloc (.cells #[.slice (some ⟨w1.heap.size, 0, none⟩) 1 1] 30)) := ((show Below w.heap.size w w1 from ⟨b1.os, b1.tape, b1.output, b1.size, b1.block⟩).alloc bs1 _).alloc (by simp; omega) _
    refine bodyPost_end (results_none rfl _ _ _) rfl ⟨rfl, _, st, ⟨?_, ?_, ?_⟩⟩
    · exact ((Agr.ofBelow' (S := fun k => k ≠ Bo ∧ (Value.slice ado lo cpo).ownBlock ≠ some k) bX (Nat.le_refl _)).trans hA4 (fun _ _ h => h.2)).trans hA5 (fun _ _ h => h.1)
    · intro g e
      rcases hat g e with h | h
      · exact Or.inl h
      · exact Or.inr (Nat.le_trans bX.size h)
    · exact ((bX.mono (by omega)).trans (b4.mono (by omega))).trans b5
theorem yield_any (Bo Bs B base k cap s : Nat) (ad : Option Addr) (l : List Int) (vo : Value) (out : List (List (List Int))) (w : World) (hk0 : 0 < k) (hk : k ≤ 4) (hs : 2 ≤ s ∧ s ≤ 4) (hl : HeldL IntC w ad k cap l) (ho : OutSt Bo B w vo out) (hbase : base ≤ Bo) (hout : out.length ≤ 100000) (hS : w.cell? ⟨Bs, 0, none⟩ = some (.int .i64 s)) :
    Calls Try.prog 30 #[.slice ad k cap, .pointer (some ⟨Bo, 0, none⟩), .pointer (some ⟨Bs, 0, none⟩)] w fun e w' => e = .returned (.tuple #[]) ∧ ∃ vo', OutSt Bo B w' vo' (out ++ [[rotL l (out.length % s)]]) ∧ Step Bo base vo w vo' w' := by
  obtain ⟨b, o, rfl⟩ := hl.head hk0
  exact yield_some Bo Bs B base b o k cap s l vo out w hk0 hk hs hl ho hbase hout hS
end Go.Proofs.Ytkdfplnoldckgaa
