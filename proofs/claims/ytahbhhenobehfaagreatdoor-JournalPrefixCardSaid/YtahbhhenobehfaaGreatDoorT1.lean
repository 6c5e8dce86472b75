/-
  The walks of in, spelled and Name of package term.
-/
import Derived.Test.YtahbhhenobehfaaGreatDoorRows
import Derived.Test.YtahbhhenobehfaaGreatDoorTPlain
import Derived.Test.YtahbhhenobehfaaGreatDoorHeap
import Derived.WalkKit
import Derived.ProofKit
import Derived.OpenShut
import Derived.Laws.IdiomStrings
import Derived.Deep.QuietTactic
import Derived.BigQuiet
import Derived.Deep.RegionHeld3
import Derived.Deep.DeepMust
import Derived.Outline
namespace Go.Proofs.YtahbhhenobehfaaGreatDoor
open Go.ChangeShapes Go.WideShapes Go.ChangeAt Go.RowKit

theorem ret_bool {a b : Bool} (h : a = b) : Ending.returned (.bool a) = .returned (.bool b) := by rw [h]
theorem below_drew {w : World} (B k : Nat) : Below B w (w.drewN k) := ⟨rfl, rfl, rfl, Nat.le_refl _, fun _ _ => rfl⟩
/-- Three ranges of bytes in a block. -/
def spansA (p q r : Int × Int) : Array Value := #[.int .u8 p.1, .int .u8 p.2, .int .u8 q.1, .int .u8 q.2, .int .u8 r.1, .int .u8 r.2]
theorem spans_cells {w : World} {b : Nat} {T : TypeId} {p q r : Int × Int} (h : Has w b (spansA p q r) T) (k : Nat) (hk : k < 3) :
    w.cell? ⟨b, k * 2, none⟩ = some (.int .u8 (([p, q, r] : List (Int × Int)).getD k (0, 0)).1) ∧ w.cell? ⟨b, k * 2 + 1, none⟩ = some (.int .u8 (([p, q, r] : List (Int × Int)).getD k (0, 0)).2) := by
  match k, hk with
  | 0, _ => exact ⟨h.cell (j := 0) rfl, h.cell (j := 1) rfl⟩
  | 1, _ => exact ⟨h.cell (j := 2) rfl, h.cell (j := 3) rfl⟩
  | 2, _ => exact ⟨h.cell (j := 4) rfl, h.cell (j := 5) rfl⟩
set_option maxHeartbeats 1000000 in
theorem in_any (c : Int) (b n : Nat) (T : TypeId) (p q r : Int × Int) (w : World) (hn : n ≤ 3) (h : Has w b (spansA p q r) T) :
    Calls Tryz.prog 118 #[.int .u8 c, .slice (some ⟨b, 0, none⟩) n 3] w fun e w' => e = .returned (.bool (inB c ([p, q, r].take n))) ∧ Below w.heap.size w w' := by
  go_enter Tryz.func118, Tryz.ntmps118
  go_wp2
  go_loopw [9] (fun i wr => ∃ k : Nat, k ≤ n ∧ i = .int .i64 k ∧ Hid (inB c ([p, q, r].take k) = false) ∧ Below w.heap.size w wr) (fun i _ => n - (intOf i).toNat)
  case atStart => exact ⟨0, Nat.zero_le _, rfl, hid rfl, Below.refl _ _⟩
  case round =>
    obtain ⟨k, hk, rfl, hF, hb⟩ := hrel
    by_cases hlt : k < n
    · have hk0 : (0 : Int) ≤ k := by omega
      have hkn : (k : Int) < n := by omega
      have hbl := h.lt
      obtain ⟨c0', c1'⟩ := spans_cells h k (by omega)
      have c0 := (hb.cell (p := ⟨b, k * 2, none⟩) hbl).trans c0'
      have c1 := (hb.cell (p := ⟨b, k * 2 + 1, none⟩) hbl).trans c1'
      have hst := hid (inB_take c [p, q, r] k (by simp; omega))
      have htr := hid (fun h1 h2 => inB_true c ([p, q, r].take n) k (by simp; omega) h1 h2)
      have eg : ([p, q, r].take n).getD k (0, 0) = [p, q, r].getD k (0, 0) := by simp [List.getD_eq_getElem?_getD, hlt]
      rw [eg] at htr
      obtain ⟨u, eu⟩ : ∃ u, u = ([p, q, r] : List (Int × Int)).getD k (0, 0) := ⟨_, rfl⟩
      rw [← eu] at c0 c1 hst htr
      have bs := hb.size
      clear c0' c1' eg eu
      by_cases h1 : u.1 ≤ c
      · by_cases h2 : c ≤ u.2
        · have hr := hid (htr.out h1 h2)
          go_wp2
          go_ret
          exact ⟨ret_bool hr.out.symm, hb.alloc bs _⟩
        · have hF2 := hid (show inB c ([p, q, r].take (k + 1)) = false by rw [hst.out, hF.out, decide_eq_false h2]; simp)
          go_wp2
          go_roundw
          case rel => exact ⟨k + 1, by omega, by go_num, hF2, hb.alloc bs _⟩
          case measure => simp [intOf]; omega
      · have hF2 := hid (show inB c ([p, q, r].take (k + 1)) = false by rw [hst.out, hF.out, decide_eq_false h1]; simp)
        go_wp2
        go_roundw
        case rel => exact ⟨k + 1, by omega, by go_num, hF2, hb.alloc bs _⟩
        case measure => simp [intOf]; omega
    · obtain rfl : n = k := by omega
      go_wp2
      go_ret
      exact ⟨ret_bool hF.out.symm, hb⟩
theorem blen (s : ByteArray) : s.data.toList.length = s.size := Array.length_toList
theorem byte_bt (s : ByteArray) (k : Nat) (h : k < s.size) : ((s[k]).toNat : Int) = bt s.data.toList k := by
  rw [bt_get _ k (by rw [blen]; exact h)]; rfl
set_option maxRecDepth 20000 in
set_option maxHeartbeats 4000000 in
theorem spelled_any (s : ByteArray) (p q r : Int × Int) (w : World) (hs : s.size ≤ maxLen) :
    Calls Tryz.prog 88 #[.string s, .agg (spansA p q r)] w fun e w' => e = .returned (.bool (spelledB s.data.toList [p, q, r])) ∧ Below w.heap.size w w' := by
  unfold maxLen at hs
  have hsz := blen s
  have b0 : Below w.heap.size w (w.alloc (.cells #[.int .u8 p.1, .int .u8 p.2, .int .u8 q.1, .int .u8 q.2, .int .u8 r.1, .int .u8 r.2] 117)) := (Below.refl _ _).alloc (Nat.le_refl _) _
  have H0 : Has (w.alloc (.cells #[.int .u8 p.1, .int .u8 p.2, .int .u8 q.1, .int .u8 q.2, .int .u8 r.1, .int .u8 r.2] 117)) w.heap.size (spansA p q r) 117 := Has.new _ _ _
  by_cases h1 : (s.size : Int) < 1
  · have hr := hid (spelledB_short (l := s.data.toList) (sp := [p, q, r]) (by rw [hsz]; omega))
    clear H0
    go_enter Tryz.func88, Tryz.ntmps88
    simp only [spansA]
    go_wp2
    go_quiet (fail)
    go_wp2
    go_ret
    exact ⟨ret_bool hr.out.symm, b0.trans (below_drew _ _)⟩
  by_cases h2 : (16 : Int) < s.size
  · have hr := hid (spelledB_short (l := s.data.toList) (sp := [p, q, r]) (by rw [hsz]; omega))
    clear H0
    go_enter Tryz.func88, Tryz.ntmps88
    simp only [spansA]
    go_wp2
    go_quiet (fail)
    go_wp2
    go_ret
    exact ⟨ret_bool hr.out.symm, b0.trans (below_drew _ _)⟩
  have hs0 : 0 < s.size := by omega
  have hs16 : (s.size : Int) ≤ 16 := by omega
  have hs16' := hid (show 1 ≤ s.data.toList.length ∧ s.data.toList.length ≤ 16 by rw [hsz]; omega)
  have hsz' := hid hsz
  have hb0 := hid (byte_bt s 0 hs0)
  have g1 : decide ((s.size : Int) < 1) = false := by simp; omega
  have g2 : decide ((16 : Int) < s.size) = false := by simp; omega
  clear hsz h1 h2
  go_enter Tryz.func88, Tryz.ntmps88
  simp only [spansA]
  go_wp2
  go_region_held3 (fun _ => True) (exact trivial) (first
    | (go_at_call 118; refine (in_any _ w.heap.size 1 117 p q r _ (by omega) ?_).mono ?_; exact H0; rintro e w1 ⟨rfl, o1⟩; rw [hb0.out]; obtain ⟨F, eF⟩ : ∃ F, inB (bt s.data.toList 0) ([p, q, r].take 1) = F := ⟨_, rfl⟩; rw [eF]; have HF := hid eF; clear eF; have H1 := Has.below H0 ⟨o1.os, o1.tape, o1.output, o1.size, o1.block⟩ (by simp); have o1 : Below w.heap.size w w1 := b0.trans (Below.mono ⟨o1.os, o1.tape, o1.output, o1.size, o1.block⟩ b0.size)))
  clear b0 H0
  cases F
  · have hr := hid (spelledB_first (l := s.data.toList) HF.out)
    go_wp2
    go_ret
    exact ⟨ret_bool hr.out.symm, o1⟩
  · rw [Bool.not_true]
    go_wp2
    go_loopw [5] (fun i wr => ∃ k : Nat, k ≤ s.size ∧ i = .int .i64 k ∧ Hid (∀ j, j < k → inB (bt s.data.toList j) [p, q, r] = true) ∧ Below w1.heap.size w1 wr) (fun i _ => s.size - (intOf i).toNat)
    case atStart => exact ⟨0, Nat.zero_le _, rfl, hid (fun j hj => by omega), Below.refl _ _⟩
    case round =>
      obtain ⟨k, hk, rfl, hA, hb⟩ := hrel
      by_cases hlt : k < s.size
      · have hk0 : (0 : Int) ≤ k := by omega
        have hkn : (k : Int) < s.size := by omega
        have hbk := hid (byte_bt s k hlt)
        have hH := H1.below hb H1.lt
        go_wp2
        go_region_held3 (fun _ => True) (exact trivial) (first
          | (go_at_call 118; refine (in_any _ w.heap.size 3 117 p q r _ (by omega) ?_).mono ?_; exact hH; rintro e w2 ⟨rfl, o2⟩; rw [hbk.out]; obtain ⟨I, eI⟩ : ∃ I, inB (bt s.data.toList k) ([p, q, r].take 3) = I := ⟨_, rfl⟩; rw [eI]; have HI := hid eI; clear eI; have o2 : Below wr.heap.size wr w2 := ⟨o2.os, o2.tape, o2.output, o2.size, o2.block⟩))
        have hb2 := hb.trans (o2.mono hb.size)
        cases I
        · have hr := hid (spelledB_bad (l := s.data.toList) (sp := [p, q, r]) k (by rw [hsz'.out]; exact hlt) HI.out)
          have ho := o1.trans (hb2.mono o1.size)
          go_wp2
          go_ret
          exact ⟨ret_bool hr.out.symm, ho⟩
        · have hA2 := hid (show ∀ j, j < k + 1 → inB (bt s.data.toList j) [p, q, r] = true from fun j hj => by
            by_cases e : j < k
            · exact hA.out j e
            · rw [show j = k by omega]; exact HI.out)
          go_wp2
          go_roundw
          case rel => exact ⟨k + 1, by omega, by go_num, hA2, hb2⟩
          case measure => simp [intOf]; omega
      · have hke : k = s.size := by omega
        have hr := hid (spelledB_ok (l := s.data.toList) (sp := [p, q, r]) hs16'.out.1 hs16'.out.2 HF.out (fun j hj => hA.out j (by rw [hsz'.out] at hj; omega)))
        have ho := o1.trans (hb.mono o1.size)
        clear hke
        go_wp2
        go_ret
        exact ⟨ret_bool hr.out.symm, ho⟩
/-- What a string is compared with. -/
theorem str_ne (s t : ByteArray) : ((s.toList == t.toList) : Bool) = (s.data.toList == t.data.toList) := by rw [ByteArray.toList_eq, ByteArray.toList_eq]
end Go.Proofs.YtahbhhenobehfaaGreatDoor
