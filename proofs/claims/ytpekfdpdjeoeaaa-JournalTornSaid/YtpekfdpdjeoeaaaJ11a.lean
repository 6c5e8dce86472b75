/-
  The last region of the law JournalTorn where the second Scan finds nothing, over a frame that is a letter.
-/
import Derived.Test.YtpekfdpdjeoeaaaRows
import Derived.Test.YtpekfdpdjeoeaaaJPlain
import Derived.Test.YtpekfdpdjeoeaaaHeap
import Derived.Test.YtpekfdpdjeoeaaaJ1
import Derived.Test.YtpekfdpdjeoeaaaJ8
import Derived.Test.YtpekfdpdjeoeaaaJ9
import Derived.WalkKit
import Derived.ProofKit
import Derived.OpenShut
import Derived.StillTailTactics
import Derived.BigQuiet
import Derived.Outline
namespace Go.Proofs.Ytpekfdpdjeoeaaa
open Go.ChangeShapes Go.WideShapes Go.ChangeAt Go.RowKit
theorem still_run {P : Program} {ops : Array Oper} {w : World} {Q : Act → Prop} {o : Oper} {rest : List Oper} {a : Act} {v : Value} (hw : Region.wanted o (yielded ops a.tmps) = true) (hr : (execOp a.eval o).run P w = .ok (.value v) w) (h : wpStill P ops w Q rest (a.put o.dst v)) : wpStill P ops w Q (o :: rest) a := by
  unfold wpStill
  rw [if_pos hw]
  unfold Oper.still
  rw [hr, Oper.stillUpon_value]
  exact h
theorem still_skip {P : Program} {ops : Array Oper} {w : World} {Q : Act → Prop} {o : Oper} {rest : List Oper} {a : Act} (hw : Region.wanted o (yielded ops a.tmps) = false) (h : wpStill P ops w Q rest (a.put o.dst undef)) : wpStill P ops w Q (o :: rest) a := by
  unfold wpStill
  rw [if_neg (by rw [hw]; exact Bool.false_ne_true)]
  exact h
theorem still_len {w : World} {o : Oper} {E : Operand → Value} {x : Operand} {ad : Option Addr} {n c : Nat} (ho : o.op = .call { callee := .builtin .len, args := #[x], argTypes := #[26] }) (hx : E x = .slice ad n c) : (execOp E o).run Try.prog w = .ok (.value (.int .i64 n)) w := by
  unfold execOp
  simp [ho, resolve, invoke, builtin, hx, go_sem, Builtin.len_]
theorem still_eql0 {w : World} {o : Oper} {E : Operand → Value} {x : Operand} (ho : o.op = .binOp .eql 3 x (.const (.int .i64 0)) 3) (hx : E x = .int .i64 0) (hc : E (.const (.int .i64 0)) = .int .i64 0) : (execOp E o).run Try.prog w = .ok (.value (.bool true)) w := by
  unfold execOp
  simp [ho, hx, hc, go_sem]
theorem still_pick {P : Program} {w : World} {o : Oper} {E : Operand → Value} {x y z : Operand} (ho : o.op = .pick x y z) (hx : E x = .bool true) (hy : E y = .bool true) : (execOp E o).run P w = .ok (.value (.bool true)) w := by
  unfold execOp
  simp [ho, hx, hy, go_sem]
theorem still_move {P : Program} {w : World} {o : Oper} {E : Operand → Value} {x : Operand} {v : Value} (ho : o.op = .move x) (hx : E x = v) : (execOp E o).run P w = .ok (.value v) w := by
  unfold execOp
  simp [ho, hx, go_sem]
/-- The frame's slot k holds v. -/
def Slot (a : Act) (k : Nat) (v : Value) : Prop := a.tmps[k]? = some v
theorem Slot.eval {a : Act} {k : Nat} {v : Value} (h : Slot a k v) : a.eval (.tmp k) = v := by
  unfold Slot at h
  simp [Act.eval, h]
theorem Slot.put {a : Act} {k d : Nat} {v x : Value} (h : Slot a k v) (hd : d ≠ k) : Slot (a.put (some d) x) k v := by
  unfold Slot at h ⊢
  simp only [Act.put]
  rw [Array.getElem?_setIfInBounds_ne hd]; exact h
theorem Slot.here {a : Act} {d : Nat} {x : Value} (h : d < a.tmps.size) : Slot (a.put (some d) x) d x := by
  unfold Slot
  simp only [Act.put]
  rw [Array.getElem?_setIfInBounds_self, if_pos h]
theorem Act.put_size (a : Act) (d : Option Nat) (x : Value) : (a.put d x).tmps.size = a.tmps.size := by
  cases d <;> simp [Act.put]
theorem Act.put_defers (a : Act) (d : Option Nat) (x : Value) : (a.put d x).defers = a.defers := by
  cases d <;> simp [Act.put]
theorem list_run {P : Program} {ops : Array Oper} {w : World} {Q : Exit → Act → World → Prop} {o : Oper} {rest : List Oper} {a : Act} {v : Value} (hw : Region.wanted o (yielded ops a.tmps) = true) (hr : (execOp a.eval o).run P w = .ok (.value v) w) (h : wpList P ops Q rest (a.put o.dst v) w) : wpList P ops Q (o :: rest) a w := by
  unfold wpList
  rw [if_pos hw]
  refine Or.inl ?_
  unfold Oper.wp
  rw [hr, Oper.upon_value]
  exact h
theorem list_call {P : Program} {ops : Array Oper} {w : World} {Q : Exit → Act → World → Prop} {o : Oper} {rest : List Oper} {a : Act} {f : FuncId} {args : Array Value} (hw : Region.wanted o (yielded ops a.tmps) = true) (hr : (execOp a.eval o).run P w = .ok (.enter f args) w)
    (h : Calls P f args w fun
      | .returned v, w'' => wpList P ops Q rest (a.put o.dst v) w''
      | .panicked chain, w'' => Q (.panic chain) a w''
      | .outgrown, _ => LetsOut Q) : wpList P ops Q (o :: rest) a w := by
  unfold wpList
  rw [if_pos hw]
  refine Or.inl ?_
  unfold Oper.wp
  rw [hr, Oper.upon_enter]
  exact h
theorem list_awake {w : World} {o : Oper} {a : Act} (ho : o.op = .call { callee := .value (.func 6), args := #[], argTypes := #[] }) : (execOp a.eval o).run Try.prog w = .ok (.enter 6 #[]) w := by
  unfold execOp
  simp [ho, resolve, invoke, go_sem, Act.eval]
theorem list_assign {P : Program} {w : World} {o : Oper} {E : Operand → Value} {x : Operand} {v : Value} (ho : o.op = .assign x) (hx : E x = v) : (execOp E o).run P w = .ok (.value v) w := by
  unfold execOp
  simp [ho, hx, go_sem]
def findRegion (id : Nat) : Code → Option (List Oper)
  | .region i ops _ => if i == id then some ops.toList else none
  | .seq a b => (findRegion id a).orElse fun _ => findRegion id b
  | .cond _ a b => (findRegion id a).orElse fun _ => findRegion id b
  | .block _ a => findRegion id a
  | .loop a => findRegion id a
  | .scope a => findRegion id a
  | _ => none
set_option maxRecDepth 20000
theorem region26 : ∃ ops : List Oper, (Try.f4.body.bind (findRegion 26)) = some ops ∧ ∀ (FR : Act) (w5 : World) (Q : Exit → Act → World → Prop) (ady : Option Addr) (capy : Nat) (_ : FR.tmps[17]? = some (.slice ady 0 capy)) (_ : FR.tmps.size = 146) (_ : ∀ FR' w6, Slot FR' 8 (.bool true) → FR'.tmps.size = 146 → FR'.defers = FR.defers → Below w5.heap.size w5 w6 → Q .normal FR' w6), (Code.region 26 ops.toArray true).wp Try.prog Q FR w5 := by
  refine ⟨_, by rfl, ?_⟩
  intro FR w5 Q ady capy h17 hsz K
  have h17 : Slot FR 17 (.slice ady 0 capy) := h17
  refine wp_region_still_tail 13 (by kernel_rfl) (by kernel_rfl) ?_
  simp only [List.take_succ_cons, List.take_zero, List.drop_succ_cons, List.drop_zero]
  obtain ⟨D, hD⟩ : ∃ D, D = FR.defers := ⟨_, rfl⟩
  rw [← hD] at K
  have hD : FR.defers = D := hD.symm
  have W : ∀ (a : Act) (v : Value) (d : Nat) (Q : Act → Prop), a.tmps.size = 146 → a.defers = D → (∀ a', (∀ k v', d ≠ k → Slot a k v' → Slot a' k v') → (d < 146 → Slot a' d v) → a'.tmps.size = 146 → a'.defers = D → Q a') → Q (a.put (some d) v) := fun a v d Q hs hd h => h _ (fun k v' hk hh => hh.put hk) (fun hd => Slot.here (by omega)) ((Act.put_size _ _ _).trans hs) ((Act.put_defers _ _ _).trans hd)
  refine still_run (by simp [Region.wanted]) (still_move (x := .tmp 17) rfl h17.eval) ?_
  refine W _ _ _ _ hsz hD ?_
  clear h17 hsz hD
  intro a1 s1 h131 hsz hD
  have h131 := h131 (by omega)
  clear s1
  refine still_run (by simp [Region.wanted]) (still_len rfl h131.eval) ?_
  refine W _ _ _ _ hsz hD ?_
  clear h131 hsz hD
  intro a2 s1 h132 hsz hD
  have h132 := h132 (by omega)
  clear s1
  refine still_run (by simp [Region.wanted]) (still_eql0 rfl h132.eval rfl) ?_
  refine W _ _ _ _ hsz hD ?_
  clear h132 hsz hD
  intro a3 s1 h133 hsz hD
  have h133 := h133 (by omega)
  clear s1
  refine still_run (by simp [Region.wanted]) (still_move rfl h133.eval) ?_
  refine W _ _ _ _ hsz hD ?_
  clear h133 hsz hD
  intro a4 s1 h134 hsz hD
  have h134 := h134 (by omega)
  clear s1
  iterate 7
    refine still_skip (by unfold Slot at h134; simp [Region.wanted, yielded, h134]) ?_
    refine W _ _ _ _ hsz hD ?_
    clear hsz hD
    intro a5 s1 _ hsz hD
    replace h134 := s1 _ _ (by omega) h134
    clear s1
  refine still_run (by simp [Region.wanted]) (still_pick rfl h134.eval rfl) ?_
  refine W _ _ _ _ hsz hD ?_
  clear h134 hsz hD
  intro a6 s1 h142 hsz hD
  have h142 := h142 (by omega)
  clear s1
  refine still_run (by simp [Region.wanted]) (still_move rfl h142.eval) ?_
  refine W _ _ _ _ hsz hD ?_
  clear h142 hsz hD
  intro a7 s1 h143 hsz hD
  have h143 := h143 (by omega)
  clear s1
  refine wpStill_nil ?_
  refine list_call (by unfold Slot at h143; simp [Region.wanted, yielded, h143]) (list_awake rfl) ?_
  refine ((awake_any _).mono ?_)
  rintro e w6 ⟨rfl, o6⟩
  have o6 : Below w5.heap.size w5 w6 := ⟨o6.os, o6.tape, o6.output, o6.size, o6.block⟩
  show wpList _ _ _ _ (Act.put _ (some 144) _) _
  have W' : ∀ (a : Act) (v : Value) (d : Nat) (Q : Act → World → Prop) (w : World), a.tmps.size = 146 → a.defers = D → (∀ a', (∀ k v', d ≠ k → Slot a k v' → Slot a' k v') → (d < 146 → Slot a' d v) → a'.tmps.size = 146 → a'.defers = D → Q a' w) → Q (a.put (some d) v) w := fun a v d Q w hs hd h => h _ (fun k v' hk hh => hh.put hk) (fun hd => Slot.here (by omega)) ((Act.put_size _ _ _).trans hs) ((Act.put_defers _ _ _).trans hd)
  refine W' _ _ _ _ _ hsz hD ?_
  clear hsz hD
  intro a8 s1 h144 hsz hD
  have h144 := h144 (by omega)
  replace h143 := s1 _ _ (by omega) h143
  clear s1
  refine list_run (by simp [Region.wanted]) (still_pick rfl h143.eval h144.eval) ?_
  show wpList _ _ _ _ (Act.put _ (some 145) _) _
  refine W' _ _ _ _ _ hsz hD ?_
  clear h143 h144 hsz hD
  intro a9 s1 h145 hsz hD
  have h145 := h145 (by omega)
  clear s1
  refine list_run (by simp [Region.wanted]) (list_assign rfl h145.eval) ?_
  refine W' _ _ _ _ _ hsz hD ?_
  clear h145 hsz hD
  intro a10 s1 h8 hsz hD
  exact wpList_nil (K _ _ (h8 (by omega)) hsz hD o6)
theorem region26_wp {ops : List Oper} (h : (Try.f4.body.bind (findRegion 26)) = some ops) (FR : Act) (w5 : World) (Q : Exit → Act → World → Prop) (ady : Option Addr) (capy : Nat) (h17 : FR.tmps[17]? = some (.slice ady 0 capy)) (hs : FR.tmps.size = 146) (K : ∀ FR' w6, Slot FR' 8 (.bool true) → FR'.tmps.size = 146 → FR'.defers = FR.defers → Below w5.heap.size w5 w6 → Q .normal FR' w6) : (Code.region 26 ops.toArray true).wp Try.prog Q FR w5 := by
  obtain ⟨l, hl, H⟩ := region26
  obtain rfl : l = ops := Option.some.inj (hl.symm.trans h)
  exact H FR w5 Q ady capy h17 hs K
end Go.Proofs.Ytpekfdpdjeoeaaa
