/-
  The walks of in, spelled and Name of package term.
  The walks of Name, Number and number of package term.
  The walks of Number and number of package term.
-/
import Derived.Test.YtahbhhenobehfaaGreatDoorRows
import Derived.Test.YtahbhhenobehfaaGreatDoorM9
import Derived.Test.YtahbhhenobehfaaGreatDoorM1
import Derived.WalkKit
import Derived.ProofKit
import Derived.OpenShut
import Derived.Laws.IdiomStrings
import Derived.Deep.QuietTactic
import Derived.BigQuiet
import Derived.Deep.RegionHeld3
import Derived.Deep.DeepMust
import Derived.Outline
namespace Go.Proofs.YtahbhhenobehfaaGreatDoor
open Go.ChangeShapes Go.WideShapes Go.ChangeAt Go.RowKit

theorem ret_bool {a b : Bool} (h : a = b) : Ending.returned (.bool a) = .returned (.bool b) := by rw [h]
theorem below_drew {w : World} (B k : Nat) : Below B w (w.drewN k) := ⟨rfl, rfl, rfl, Nat.le_refl _, fun _ _ => rfl⟩
/-- Three ranges of bytes in a block. -/
def spansA (p q r : Int × Int) : Array Value := #[.int .u8 p.1, .int .u8 p.2, .int .u8 q.1, .int .u8 q.2, .int .u8 r.1, .int .u8 r.2]
theorem spans_cells {w : World} {b : Nat} {T : TypeId} {p q r : Int × Int} (h : Has w b (spansA p q r) T) (k : Nat) (hk : k < 3) :
    w.cell? ⟨b, k * 2, none⟩ = some (.int .u8 (([p, q, r] : List (Int × Int)).getD k (0, 0)).1) ∧ w.cell? ⟨b, k * 2 + 1, none⟩ = some (.int .u8 (([p, q, r] : List (Int × Int)).getD k (0, 0)).2) := by
  match k, hk with
  | 0, _ => exact ⟨h.cell (j := 0) rfl, h.cell (j := 1) rfl⟩
  | 1, _ => exact ⟨h.cell (j := 2) rfl, h.cell (j := 3) rfl⟩
  | 2, _ => exact ⟨h.cell (j := 4) rfl, h.cell (j := 5) rfl⟩
set_option maxHeartbeats 1000000 in
theorem in_any (c : Int) (b n : Nat) (T : TypeId) (p q r : Int × Int) (w : World) (hn : n ≤ 3) (h : Has w b (spansA p q r) T) :
    Calls Tryz.prog 118 #[.int .u8 c, .slice (some ⟨b, 0, none⟩) n 3] w fun e w' => e = .returned (.bool (inB c ([p, q, r].take n))) ∧ Below w.heap.size w w' := by
  go_enter Tryz.func118, Tryz.ntmps118
  go_wp2
  go_loopw [9] (fun i wr => ∃ k : Nat, k ≤ n ∧ i = .int .i64 k ∧ Hid (inB c ([p, q, r].take k) = false) ∧ Below w.heap.size w wr) (fun i _ => n - (intOf i).toNat)
  case atStart => exact ⟨0, Nat.zero_le _, rfl, hid rfl, Below.refl _ _⟩
  case round =>
    obtain ⟨k, hk, rfl, hF, hb⟩ := hrel
    by_cases hlt : k < n
    · have hk0 : (0 : Int) ≤ k := by omega
      have hkn : (k : Int) < n := by omega
      have hbl := h.lt
      obtain ⟨c0', c1'⟩ := spans_cells h k (by omega)
      have c0 := (hb.cell (p := ⟨b, k * 2, none⟩) hbl).trans c0'
      have c1 := (hb.cell (p := ⟨b, k * 2 + 1, none⟩) hbl).trans c1'
      have hst := hid (inB_take c [p, q, r] k (by simp; omega))
      have htr := hid (fun h1 h2 => inB_true c ([p, q, r].take n) k (by simp; omega) h1 h2)
      have eg : ([p, q, r].take n).getD k (0, 0) = [p, q, r].getD k (0, 0) := by simp [List.getD_eq_getElem?_getD, hlt]
      rw [eg] at htr
      obtain ⟨u, eu⟩ : ∃ u, u = ([p, q, r] : List (Int × Int)).getD k (0, 0) := ⟨_, rfl⟩
      rw [← eu] at c0 c1 hst htr
      have bs := hb.size
      clear c0' c1' eg eu
      by_cases h1 : u.1 ≤ c
      · by_cases h2 : c ≤ u.2
        · have hr := hid (htr.out h1 h2)
          go_wp2
          go_ret
          exact ⟨ret_bool hr.out.symm, hb.alloc bs _⟩
        · have hF2 := hid (show inB c ([p, q, r].take (k + 1)) = false by rw [hst.out, hF.out, decide_eq_false h2]; simp)
          go_wp2
          go_roundw
          case rel => exact ⟨k + 1, by omega, by go_num, hF2, hb.alloc bs _⟩
          case measure => simp [intOf]; omega
      · have hF2 := hid (show inB c ([p, q, r].take (k + 1)) = false by rw [hst.out, hF.out, decide_eq_false h1]; simp)
        go_wp2
        go_roundw
        case rel => exact ⟨k + 1, by omega, by go_num, hF2, hb.alloc bs _⟩
        case measure => simp [intOf]; omega
    · obtain rfl : n = k := by omega
      go_wp2
      go_ret
      exact ⟨ret_bool hF.out.symm, hb⟩
theorem blen (s : ByteArray) : s.data.toList.length = s.size := Array.length_toList
theorem byte_bt (s : ByteArray) (k : Nat) (h : k < s.size) : ((s[k]).toNat : Int) = bt s.data.toList k := by
  rw [bt_get _ k (by rw [blen]; exact h)]; rfl
set_option maxRecDepth 20000 in
set_option maxHeartbeats 4000000 in
theorem spelled_any (s : ByteArray) (p q r : Int × Int) (w : World) (hs : s.size ≤ maxLen) :
    Calls Tryz.prog 88 #[.string s, .agg (spansA p q r)] w fun e w' => e = .returned (.bool (spelledB s.data.toList [p, q, r])) ∧ Below w.heap.size w w' := by
  unfold maxLen at hs
  have hsz := blen s
  have b0 : Below w.heap.size w (w.alloc (.cells #[.int .u8 p.1, .int .u8 p.2, .int .u8 q.1, .int .u8 q.2, .int .u8 r.1, .int .u8 r.2] 117)) := (Below.refl _ _).alloc (Nat.le_refl _) _
  have H0 : Has (w.alloc (.cells #[.int .u8 p.1, .int .u8 p.2, .int .u8 q.1, .int .u8 q.2, .int .u8 r.1, .int .u8 r.2] 117)) w.heap.size (spansA p q r) 117 := Has.new _ _ _
  by_cases h1 : (s.size : Int) < 1
  · have hr := hid (spelledB_short (l := s.data.toList) (sp := [p, q, r]) (by rw [hsz]; omega))
    clear H0
    go_enter Tryz.func88, Tryz.ntmps88
    simp only [spansA]
    go_wp2
    go_quiet (fail)
    go_wp2
    go_ret
    exact ⟨ret_bool hr.out.symm, b0.trans (below_drew _ _)⟩
  by_cases h2 : (16 : Int) < s.size
  · have hr := hid (spelledB_short (l := s.data.toList) (sp := [p, q, r]) (by rw [hsz]; omega))
    clear H0
    go_enter Tryz.func88, Tryz.ntmps88
    simp only [spansA]
    go_wp2
    go_quiet (fail)
    go_wp2
    go_ret
    exact ⟨ret_bool hr.out.symm, b0.trans (below_drew _ _)⟩
  have hs0 : 0 < s.size := by omega
  have hs16 : (s.size : Int) ≤ 16 := by omega
  have hs16' := hid (show 1 ≤ s.data.toList.length ∧ s.data.toList.length ≤ 16 by rw [hsz]; omega)
  have hsz' := hid hsz
  have hb0 := hid (byte_bt s 0 hs0)
  have g1 : decide ((s.size : Int) < 1) = false := by simp; omega
  have g2 : decide ((16 : Int) < s.size) = false := by simp; omega
  clear hsz h1 h2
  go_enter Tryz.func88, Tryz.ntmps88
  simp only [spansA]
  go_wp2
  go_region_held3 (fun _ => True) (exact trivial) (first
    | (go_at_call 118; refine (in_any _ w.heap.size 1 117 p q r _ (by omega) ?_).mono ?_; exact H0; rintro e w1 ⟨rfl, o1⟩; rw [hb0.out]; obtain ⟨F, eF⟩ : ∃ F, inB (bt s.data.toList 0) ([p, q, r].take 1) = F := ⟨_, rfl⟩; rw [eF]; have HF := hid eF; clear eF; have H1 := Has.below H0 ⟨o1.os, o1.tape, o1.output, o1.size, o1.block⟩ (by simp); have o1 : Below w.heap.size w w1 := b0.trans (Below.mono ⟨o1.os, o1.tape, o1.output, o1.size, o1.block⟩ b0.size)))
  clear b0 H0
  cases F
  · have hr := hid (spelledB_first (l := s.data.toList) HF.out)
    go_wp2
    go_ret
    exact ⟨ret_bool hr.out.symm, o1⟩
  · rw [Bool.not_true]
    go_wp2
    go_loopw [5] (fun i wr => ∃ k : Nat, k ≤ s.size ∧ i = .int .i64 k ∧ Hid (∀ j, j < k → inB (bt s.data.toList j) [p, q, r] = true) ∧ Below w1.heap.size w1 wr) (fun i _ => s.size - (intOf i).toNat)
    case atStart => exact ⟨0, Nat.zero_le _, rfl, hid (fun j hj => by omega), Below.refl _ _⟩
    case round =>
      obtain ⟨k, hk, rfl, hA, hb⟩ := hrel
      by_cases hlt : k < s.size
      · have hk0 : (0 : Int) ≤ k := by omega
        have hkn : (k : Int) < s.size := by omega
        have hbk := hid (byte_bt s k hlt)
        have hH := H1.below hb H1.lt
        go_wp2
        go_region_held3 (fun _ => True) (exact trivial) (first
          | (go_at_call 118; refine (in_any _ w.heap.size 3 117 p q r _ (by omega) ?_).mono ?_; exact hH; rintro e w2 ⟨rfl, o2⟩; rw [hbk.out]; obtain ⟨I, eI⟩ : ∃ I, inB (bt s.data.toList k) ([p, q, r].take 3) = I := ⟨_, rfl⟩; rw [eI]; have HI := hid eI; clear eI; have o2 : Below wr.heap.size wr w2 := ⟨o2.os, o2.tape, o2.output, o2.size, o2.block⟩))
        have hb2 := hb.trans (o2.mono hb.size)
        cases I
        · have hr := hid (spelledB_bad (l := s.data.toList) (sp := [p, q, r]) k (by rw [hsz'.out]; exact hlt) HI.out)
          have ho := o1.trans (hb2.mono o1.size)
          go_wp2
          go_ret
          exact ⟨ret_bool hr.out.symm, ho⟩
        · have hA2 := hid (show ∀ j, j < k + 1 → inB (bt s.data.toList j) [p, q, r] = true from fun j hj => by
            by_cases e : j < k
            · exact hA.out j e
            · rw [show j = k by omega]; exact HI.out)
          go_wp2
          go_roundw
          case rel => exact ⟨k + 1, by omega, by go_num, hA2, hb2⟩
          case measure => simp [intOf]; omega
      · have hke : k = s.size := by omega
        have hr := hid (spelledB_ok (l := s.data.toList) (sp := [p, q, r]) hs16'.out.1 hs16'.out.2 HF.out (fun j hj => hA.out j (by rw [hsz'.out] at hj; omega)))
        have ho := o1.trans (hb.mono o1.size)
        clear hke
        go_wp2
        go_ret
        exact ⟨ret_bool hr.out.symm, ho⟩
/-- What a string is compared with. -/
theorem str_ne (s t : ByteArray) : ((s.toList == t.toList) : Bool) = (s.data.toList == t.data.toList) := by rw [ByteArray.toList_eq, ByteArray.toList_eq]
end Go.Proofs.YtahbhhenobehfaaGreatDoor
namespace Go.Proofs.YtahbhhenobehfaaGreatDoor
open Go.ChangeShapes Go.WideShapes Go.ChangeAt Go.RowKit

set_option maxRecDepth 20000 in
set_option maxHeartbeats 1000000 in
theorem tname_any (s : ByteArray) (w : World) (hs : s.size ≤ maxLen) :
    Calls Tryz.prog 64 #[.string s] w fun e w' => e = .returned (.bool (nameB s.data.toList)) ∧ Below w.heap.size w w' := by
  have e0 := ByteArray.toList_eq s
  have hN := hid (show nameB s.data.toList = (spelledB s.data.toList [(97, 122), (48, 57), (45, 45)] && !wordB s.data.toList) from rfl)
  have hW := hid (show wordB s.data.toList = (s.data.toList == [105, 102] || s.data.toList == [97, 110, 100] || s.data.toList == [110, 111, 116]) from rfl)
  obtain ⟨x1, hx1⟩ : ∃ x, (s.data.toList == [105, 102]) = x := ⟨_, rfl⟩
  obtain ⟨x2, hx2⟩ : ∃ x, (s.data.toList == [97, 110, 100]) = x := ⟨_, rfl⟩
  obtain ⟨x3, hx3⟩ : ∃ x, (s.data.toList == [110, 111, 116]) = x := ⟨_, rfl⟩
  have f1 : (s.toList == [105, 102]) = x1 := by rw [e0]; exact hx1
  have f2 : (s.toList == [97, 110, 100]) = x2 := by rw [e0]; exact hx2
  have f3 : (s.toList == [110, 111, 116]) = x3 := by rw [e0]; exact hx3
  have hW2 := hid (hW.out.trans (by rw [hx1, hx2, hx3]))
  clear e0 hx1 hx2 hx3 hW
  have F1 := hid f1
  have F2 := hid f2
  have F3 := hid f3
  clear f1 f2 f3
  go_enter Tryz.func64, Tryz.ntmps64
  go_wp2_with fail
  refine (spelled_any s (97, 122) (48, 57) (45, 45) _ hs).mono ?_
  rintro e w1 ⟨rfl, o1⟩
  obtain ⟨B, eB⟩ : ∃ B, spelledB s.data.toList [(97, 122), (48, 57), (45, 45)] = B := ⟨_, rfl⟩
  rw [eB]
  have hR := hid (show nameB s.data.toList = (B && !(x1 || x2 || x3)) by rw [hN.out, eB, hW2.out])
  clear eB hN hW2
  have g1 := F1.out
  have g2 := F2.out
  have g3 := F3.out
  cases B <;> cases x1 <;> cases x2 <;> cases x3
  all_goals
    go_wp2
    go_ret
    exact ⟨ret_bool hR.out.symm, o1⟩
theorem numB_short {l : List UInt8} (h : l.length < 1 ∨ 4 < l.length) : numB l = false := by
  unfold numB
  rcases h with h | h
  · rw [decide_eq_false (by omega)]; rfl
  · rw [decide_eq_false (p := l.length ≤ 4) (by omega)]; simp
theorem numB_zero {l : List UInt8} (h : (bt l 0 == 48) = true) (h1 : 1 < l.length) : numB l = false := by
  unfold numB; rw [h, decide_eq_true h1]; simp
theorem digB_bt (l : List UInt8) (k : Nat) (hk : k < l.length) : digB l[k] = (decide (48 ≤ bt l k) && decide (bt l k ≤ 57)) := by rw [bt_get l k hk]; rfl
theorem numB_bad {l : List UInt8} (k : Nat) (hk : k < l.length) (h : ¬ 48 ≤ bt l k ∨ ¬ bt l k ≤ 57) : numB l = false := by
  unfold numB
  rw [all_bad k hk (by rw [digB_bt l k hk]; rcases h with h | h <;> simp [h])]; simp
theorem numB_ok {l : List UInt8} (h1 : 1 ≤ l.length) (h2 : l.length ≤ 4) (h3 : (bt l 0 == 48) = false ∨ l.length = 1) (h : ∀ i, i < l.length → 48 ≤ bt l i ∧ bt l i ≤ 57) : numB l = true := by
  unfold numB
  rw [decide_eq_true h1, decide_eq_true h2, all_to fun i hi => by rw [digB_bt l i hi]; have := h i hi; simp [this]]
  rcases h3 with h3 | h3
  · rw [h3]; rfl
  · rw [h3]; simp
theorem valL_take (l : List UInt8) (k : Nat) (hk : k < l.length) : valL (l.take (k + 1)) = 10 * valL (l.take k) + (bt l k - 48) := by
  unfold valL
  rw [List.take_succ_eq_append_getElem hk, List.foldl_append, bt_get l k hk]; rfl
theorem valL_bd (l : List UInt8) (h : ∀ i, i < l.length → 48 ≤ bt l i ∧ bt l i ≤ 57) : ∀ k, k ≤ l.length → k ≤ 4 → 0 ≤ valL (l.take k) ∧ valL (l.take k) ≤ 9999
  | 0, _, _ => by simp [valL]
  | 1, h1, _ => by
    rw [valL_take l 0 (by omega)]
    have := h 0 (by omega)
    simp [valL]; omega
  | 2, h1, _ => by
    rw [valL_take l 1 (by omega), valL_take l 0 (by omega)]
    have := h 0 (by omega)
    have := h 1 (by omega)
    simp [valL]; omega
  | 3, h1, _ => by
    rw [valL_take l 2 (by omega), valL_take l 1 (by omega), valL_take l 0 (by omega)]
    have := h 0 (by omega)
    have := h 1 (by omega)
    have := h 2 (by omega)
    simp [valL]; omega
  | 4, h1, _ => by
    rw [valL_take l 3 (by omega), valL_take l 2 (by omega), valL_take l 1 (by omega), valL_take l 0 (by omega)]
    have := h 0 (by omega)
    have := h 1 (by omega)
    have := h 2 (by omega)
    have := h 3 (by omega)
    simp [valL]; omega
  | k + 5, _, h2 => by omega
end Go.Proofs.YtahbhhenobehfaaGreatDoor
namespace Go.Proofs.YtahbhhenobehfaaGreatDoor
open Go.ChangeShapes Go.WideShapes Go.ChangeAt Go.RowKit

def numV (l : List UInt8) : Int := if numB l = true then valL l else 0
def NumSaid (l : List UInt8) (w : World) (e : Ending) (w' : World) : Prop := e = .returned (.tuple #[.int .i64 (numV l), .bool (numB l)]) ∧ w = w'
theorem num_no {l : List UInt8} {w : World} (h : numB l = false) : NumSaid l w (.returned (.tuple #[.int .i64 0, .bool false])) w := ⟨by unfold numV; rw [h]; rfl, rfl⟩
theorem num_yes {l : List UInt8} {w : World} {v : Int} (h : numB l = true) (hv : v = valL l) : NumSaid l w (.returned (.tuple #[.int .i64 v, .bool true])) w := ⟨by unfold numV; rw [h, hv]; rfl, rfl⟩
set_option maxRecDepth 20000 in
set_option maxHeartbeats 4000000 in
theorem number_loop (s : ByteArray) (w : World) (h1 : 1 ≤ s.size) (h4 : s.size ≤ 4) (hz : ((bt s.data.toList 0 == 48) = false) ∨ s.size = 1) :
    Calls Tryz.prog 186 #[.string s] w (NumSaid s.data.toList w) := by
  have hsz := hid (blen s)
  have g1 : ¬ (s.size : Int) < 1 := by omega
  have g2 : ¬ (4 : Int) < s.size := by omega
  have hs0 : 0 < s.size := by omega
  have hb0 := byte_bt s 0 hs0
  have hok := hid (fun h => numB_ok (l := s.data.toList) (by rw [hsz.out]; omega) (by rw [hsz.out]; omega) (by rw [hsz.out]; exact hz) h)
  have hcase : (((s[0]).toNat : Int) == 48) = false ∨ ((((s[0]).toNat : Int) == 48) = true ∧ ¬ (1 : Int) < s.size) := by
    rw [hb0]
    cases e : (bt s.data.toList 0 == 48)
    · exact Or.inl rfl
    · rcases hz with hz | hz
      · rw [e] at hz; cases hz
      · exact Or.inr ⟨rfl, by omega⟩
  clear hz hb0
  rcases hcase with hc | ⟨hc, hc1⟩
  all_goals
    go_enter Tryz.func186, Tryz.ntmps186
    go_wp2
    go_loop [4, 5] (fun v i => ∃ (k : Nat) (V : Int), k ≤ s.size ∧ i = .int .i64 k ∧ v = .int .i64 V ∧ 0 ≤ V ∧ V ≤ 9999 ∧ Hid (V = valL (s.data.toList.take k)) ∧ Hid (∀ j, j < k → 48 ≤ bt s.data.toList j ∧ bt s.data.toList j ≤ 57)) (fun _ i => s.size - (intOf i).toNat)
    case atStart => exact ⟨0, 0, Nat.zero_le _, rfl, rfl, Int.le_refl _, by omega, hid rfl, hid (fun j hj => by omega)⟩
    case round =>
      obtain ⟨k, V, hk, rfl, rfl, hV0, hV1, hV, hA⟩ := hrel
      by_cases hlt : k < s.size
      · have hk0 : (0 : Int) ≤ k := by omega
        have hkn : (k : Int) < s.size := by omega
        have hbk := hid (byte_bt s k hlt)
        obtain ⟨x, ex⟩ : ∃ x : Int, x = ((s[k]).toNat : Int) := ⟨_, rfl⟩
        have hx := hid (ex.trans hbk.out)
        have hx0 : 0 ≤ x := by omega
        have hx1 : x ≤ 255 := by have := (s[k]).toNat_lt; omega
        have Ex := hid ex
        by_cases c1 : x < 48
        · have hr := hid (numB_bad (l := s.data.toList) k (by rw [hsz.out]; exact hlt) (Or.inl (by rw [← hx.out]; omega)))
          have c1' : ((s[k]).toNat : Int) < 48 := by omega
          clear ex
          go_wp2
          go_ret2
          exact num_no hr.out
        by_cases c2 : 57 < x
        · have hr := hid (numB_bad (l := s.data.toList) k (by rw [hsz.out]; exact hlt) (Or.inr (by rw [← hx.out]; omega)))
          have c1' : ¬ ((s[k]).toNat : Int) < 48 := by omega
          have c2' : (57 : Int) < ((s[k]).toNat : Int) := by omega
          clear ex
          go_wp2
          go_ret2
          exact num_no hr.out
        · have c1' : (48 : Int) ≤ ((s[k]).toNat : Int) := by omega
          have c2' : ((s[k]).toNat : Int) ≤ (57 : Int) := by omega
          have hst := hid (valL_take s.data.toList k (by rw [hsz.out]; exact hlt))
          have hA2 := hid (show ∀ j, j < k + 1 → 48 ≤ bt s.data.toList j ∧ bt s.data.toList j ≤ 57 from fun j hj => by
            by_cases e : j < k
            · exact hA.out j e
            · rw [show j = k by omega, ← hx.out]; omega)
          have hV2 := hid (show 10 * V + (((s[k]).toNat : Int) - 48) = valL (s.data.toList.take (k + 1)) by rw [hst.out, ← hV.out, hbk.out])
          have hbd := fun h => valL_bd s.data.toList h
          have hbd2 : 0 ≤ 10 * V + (((s[k]).toNat : Int) - 48) ∧ 10 * V + (((s[k]).toNat : Int) - 48) ≤ 9999 := by
            rw [hV2.out]
            have e : valL (s.data.toList.take (k + 1)) = valL ((s.data.toList.take (k + 1)).take (k + 1)) := by rw [List.take_take, Nat.min_self]
            rw [e]
            have hl : (s.data.toList.take (k + 1)).length = k + 1 := by rw [List.length_take, hsz.out]; omega
            refine valL_bd _ (fun i hi => ?_) (k + 1) (by omega) (by omega)
            rw [hl] at hi
            have := hA2.out i hi
            have e2 : bt (s.data.toList.take (k + 1)) i = bt s.data.toList i := by unfold bt; rw [List.getD_eq_getElem?_getD, List.getElem?_take_of_lt hi, List.getD_eq_getElem?_getD]
            rw [e2]; exact this
          clear ex hbd
          go_wp2
          go_round
          case rel => exact ⟨k + 1, _, by omega, by go_num, rfl, hbd2.1, hbd2.2, hV2, hA2⟩
          case measure => simp [intOf]; omega
      · have hke : k = s.size := by omega
        have hN := hid (hok.out (fun i hi => hA.out i (by rw [hsz.out] at hi; omega)))
        have hVf := hid (show V = valL s.data.toList by rw [hV.out, List.take_of_length_le (by rw [hsz.out]; omega)])
        clear hke
        go_wp2
        go_ret2
        exact num_yes hN.out hVf.out
set_option maxRecDepth 20000 in
set_option maxHeartbeats 1000000 in
theorem Number_any (s : ByteArray) (w : World) (hs : s.size ≤ maxLen) :
    Calls Tryz.prog 186 #[.string s] w (NumSaid s.data.toList w) := by
  unfold maxLen at hs
  by_cases h1 : (s.size : Int) < 1
  · have hr := hid (numB_short (l := s.data.toList) (by rw [blen]; omega))
    go_enter Tryz.func186, Tryz.ntmps186
    go_wp2
    go_ret2
    exact num_no hr.out
  by_cases h4 : (4 : Int) < s.size
  · have hr := hid (numB_short (l := s.data.toList) (by rw [blen]; omega))
    go_enter Tryz.func186, Tryz.ntmps186
    go_wp2
    go_ret2
    exact num_no hr.out
  have hs0 : 0 < s.size := by omega
  cases e : (bt s.data.toList 0 == 48)
  · exact number_loop s w (by omega) (by omega) (Or.inl e)
  · by_cases hone : s.size = 1
    · exact number_loop s w (by omega) (by omega) (Or.inr hone)
    · have hr := hid (numB_zero (l := s.data.toList) e (by rw [blen]; omega))
      have hc : (((s[0]).toNat : Int) == 48) = true := by rw [byte_bt s 0 hs0]; exact e
      have hc1 : (1 : Int) < s.size := by omega
      clear e
      go_enter Tryz.func186, Tryz.ntmps186
      go_wp2
      go_ret2
      exact num_no hr.out
theorem tnumber_any (s : ByteArray) (w : World) (hs : s.size ≤ maxLen) :
    Calls Tryz.prog 154 #[.string s] w fun e w' => e = .returned (.bool (numB s.data.toList)) ∧ w = w' := by
  go_enter Tryz.func154, Tryz.ntmps154
  go_wp2_with fail
  refine (Number_any s _ hs).mono ?_
  rintro e w1 ⟨rfl, rfl⟩
  go_wp2
  go_ret
  exact ⟨rfl, rfl⟩
end Go.Proofs.YtahbhhenobehfaaGreatDoor
