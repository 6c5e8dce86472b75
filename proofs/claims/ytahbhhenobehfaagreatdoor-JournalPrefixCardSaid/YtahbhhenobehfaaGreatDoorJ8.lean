/-
  The walk of Strings over two equal lists.
-/
import Derived.Test.YtahbhhenobehfaaGreatDoorRows
import Derived.Test.YtahbhhenobehfaaGreatDoorJPlain
import Derived.Test.YtahbhhenobehfaaGreatDoorHeap
import Derived.Test.YtahbhhenobehfaaGreatDoorJ3
import Derived.WalkKit
import Derived.ProofKit
import Derived.OpenShut
import Derived.BigRegion
import Derived.Outline
namespace Go.Proofs.YtahbhhenobehfaaGreatDoor
open Go.ChangeShapes Go.WideShapes Go.ChangeAt Go.RowKit

/-- A slice of strings that starts at ad reads as the list: nothing is said of an empty one's address. -/
def RowS (w : World) (ad : Option Addr) (ls : List (List UInt8)) : Prop := ∀ i, i < ls.length → ∃ b o, ad = some ⟨b, o, none⟩ ∧ w.cell? ⟨b, o + i, none⟩ = some (.string ⟨(ls.getD i []).toArray⟩)
theorem RowS.below {w w' : World} {ad : Option Addr} {l : List (List UInt8)} {B : Nat} (h : RowS w ad l) (hb : Below B w w') (hB : w.heap.size ≤ B) : RowS w' ad l := fun i hi => by
  obtain ⟨b, o, e, hc⟩ := h i hi
  exact ⟨b, o, e, (hb.cell (p := ⟨b, o + i, none⟩) (Nat.lt_of_lt_of_le (lt_of_cell hc) hB)).trans hc⟩
theorem RowS.head {w : World} {ad : Option Addr} {l : List (List UInt8)} (h : RowS w ad l) (hi : 0 < l.length) : ∃ b o, ad = some ⟨b, o, none⟩ := by
  obtain ⟨b', o', e, _⟩ := h 0 hi
  exact ⟨b', o', e⟩
theorem RowS.at {w : World} {b o : Nat} {l : List (List UInt8)} (h : RowS w (some ⟨b, o, none⟩) l) (i : Nat) (hi : i < l.length) : ∃ s, Hid (s = ByteArray.mk (l.getD i []).toArray) ∧ w.cell? ⟨b, o + i, none⟩ = some (.string s) := by
  obtain ⟨b', o', e, hc⟩ := h i hi
  cases e
  exact ⟨_, hid rfl, hc⟩
theorem scells_get (ls : List (List UInt8)) (i : Nat) (hi : i < ls.length) : (scells ls)[i]? = some (.string ⟨(ls.getD i []).toArray⟩) := by
  unfold scells
  rw [List.getElem?_map, List.getElem?_eq_getElem hi, List.getD_eq_getElem?_getD, List.getElem?_eq_getElem hi]
  rfl
theorem RowS.ofOwn {w : World} {base : Nat} {v : Value} {ls : List (List UInt8)} (h : w.ownsRow base 9 1 v ls.length (scells ls)) : ∃ ad cap, v = .slice ad ls.length cap ∧ RowS w ad ls := by
  rcases h.2 with ⟨hv, h0⟩ | ⟨g, cap, cur, hv, hb, hh, _, _, _, _⟩
  · exact ⟨none, 0, by rw [hv, h0], fun i hi => by omega⟩
  · refine ⟨some ⟨g, 0, none⟩, cap, hv, fun i hi => ⟨g, 0, rfl, ?_⟩⟩
    subst hv
    have hc := h.cells (g := g) rfl i _ (scells_get ls i hi)
    have e : (⟨g, 0, none⟩ : Addr).add i = ⟨g, 0 + i, none⟩ := by unfold Addr.add; split <;> simp_all
    rw [← e]
    exact hc
theorem RowS.ofHas {w : World} {b : Nat} {ls : List (List UInt8)} {T : TypeId} (h : Has w b (scells ls).toArray T) : RowS w (some ⟨b, 0, none⟩) ls := fun i hi => by
  refine ⟨b, 0, rfl, ?_⟩
  rw [Nat.zero_add]
  refine h.cell ?_
  rw [List.getElem?_toArray]
  exact scells_get ls i hi
theorem strings_none (a1 a2 : Option Addr) (c1 c2 : Nat) (w : World) :
    Calls Tryz.prog 15 #[.slice a1 0 c1, .slice a2 0 c2] w fun e w' => e = .returned (.bool true) ∧ Below w.heap.size w w' := by
  go_enter Tryz.func15, Tryz.ntmps15
  go_wp2
  refine wp_loop_rounds 1 ?_
  rw [rounds_succ]
  go_wp2
  go_ret
  exact ⟨rfl, Below.refl _ _⟩
set_option maxHeartbeats 1000000 in
theorem strings_some (b1 o1 b2 o2 : Nat) (n c1 c2 : Nat) (l : List (List UInt8)) (w : World) (hm : n ≤ 9223372036854775807) (hlen : Hid (l.length = n)) (h1 : RowS w (some ⟨b1, o1, none⟩) l) (h2 : RowS w (some ⟨b2, o2, none⟩) l) :
    Calls Tryz.prog 15 #[.slice (some ⟨b1, o1, none⟩) n c1, .slice (some ⟨b2, o2, none⟩) n c2] w fun e w' => e = .returned (.bool true) ∧ Below w.heap.size w w' := by
  go_enter Tryz.func15, Tryz.ntmps15
  go_wp2
  go_loopw [5, 13] (fun _ i wr => ∃ k : Nat, k ≤ n ∧ i = .int .i64 k ∧ RowS wr (some ⟨b1, o1, none⟩) l ∧ RowS wr (some ⟨b2, o2, none⟩) l ∧ Below w.heap.size w wr) (fun _ i _ => n - (intOf i).toNat)
  case atStart => exact ⟨0, Nat.zero_le _, rfl, h1, h2, Below.refl _ _⟩
  case round =>
    clear h1 h2
    obtain ⟨k, hk, rfl, h1, h2, hb⟩ := hrel
    by_cases hlt : k < n
    · obtain ⟨x, hx, hcx⟩ := h1.at k (by rw [hlen.out]; exact hlt)
      obtain ⟨y, hy, hcy⟩ := h2.at k (by rw [hlen.out]; exact hlt)
      have hxy : x = y := hx.out.trans hy.out.symm
      subst hxy
      go_wp2
      go_region
      go_wp2
      go_roundw
      case rel => exact ⟨k + 1, by omega, by go_num, h1.below ((Below.refl _ _).drew) (Nat.le_refl _), h2.below ((Below.refl _ _).drew) (Nat.le_refl _), hb.drew⟩
      case measure => simp [intOf]; omega
    · go_wp2
      go_ret
      exact ⟨rfl, hb⟩
theorem strings_any (a1 a2 : Option Addr) (n c1 c2 : Nat) (l : List (List UInt8)) (w : World) (hm : n ≤ 9223372036854775807) (hlen : l.length = n) (h1 : RowS w a1 l) (h2 : RowS w a2 l) :
    Calls Tryz.prog 15 #[.slice a1 n c1, .slice a2 n c2] w fun e w' => e = .returned (.bool true) ∧ Below w.heap.size w w' := by
  by_cases h0 : n = 0
  · rw [h0]; exact strings_none a1 a2 c1 c2 w
  · obtain ⟨b1, o1, rfl⟩ := h1.head (by omega)
    obtain ⟨b2, o2, rfl⟩ := h2.head (by omega)
    exact strings_some b1 o1 b2 o2 n c1 c2 l w hm (hid hlen) h1 h2
end Go.Proofs.YtahbhhenobehfaaGreatDoor
