/-
  The walk of scan of package journal: the payloads of the whole frames at the beginning.
-/
import Derived.Test.YtahbhhenobehfaaGreatDoorRows
import Derived.Test.YtahbhhenobehfaaGreatDoorJPlain
import Derived.Test.YtahbhhenobehfaaGreatDoorHeap
import Derived.Test.YtahbhhenobehfaaGreatDoorJMem
import Derived.Test.YtahbhhenobehfaaGreatDoorJ2
import Derived.WalkKit
import Derived.ProofKit
import Derived.OpenShut
import Derived.Outline
namespace Go.Proofs.YtahbhhenobehfaaGreatDoor
open Go.ChangeShapes Go.WideShapes Go.ChangeAt Go.RowKit

/-- Strings as cells; a slice's length. -/
def scells (ls : List (List UInt8)) : List Value := ls.map fun l => Value.string ⟨l.toArray⟩
theorem scells_length (ls : List (List UInt8)) : (scells ls).length = ls.length := by simp [scells]
theorem scells_snoc (ls : List (List UInt8)) (l : List UInt8) : scells (ls ++ [l]) = scells ls ++ [.string ⟨l.toArray⟩] := by simp [scells]
def lenOfV : Value → Nat | .slice _ n _ => n | _ => 0
theorem lenOfV_slice (a : Option Addr) (n c : Nat) : lenOfV (.slice a n c) = n := rfl
theorem info_string : (Tryz.prog.info? 9).map (fun i => (i.zero, i.size, i.bytes)) = some (some (.string ⟨#[]⟩), 1, 16) := by kernel_rfl
theorem own_below {w w' : World} {base : Nat} {e : TypeId} {size : Nat} {v : Value} {n : Nat} {xs : List Value} (h : w.ownsRow base e size v n xs) (hb : Below w.heap.size w w') : w'.ownsRow base e size v n xs := by
  have hg : w.grownBy w' none := ⟨hb.os, hb.tape, hb.output, hb.size, fun i hi _ => hb.block i hi⟩
  refine h.kept hg ?_
  cases hv : v.ownBlock
  · exact Or.inl rfl
  · exact Or.inr (by simp)
theorem scanL_count : ∀ (n : Nat) (l : List UInt8), l.length ≤ n → 6 * (scanL l).1.length + (scanL l).2.length ≤ l.length
  | 0, l, h => by
    have : cutL l = none := by unfold cutL; rw [if_pos (by omega)]
    rw [scanL_none this]; simp
  | n + 1, l, h => by
    cases hc : cutL l with
    | none => rw [scanL_none hc]; simp
    | some x =>
      obtain ⟨p, r⟩ := x
      have h1 := cutL_rest hc
      have h2 := scanL_count n r (by omega)
      rw [scanL_some hc]
      simp only [List.length_cons]
      omega
/-- What scan leaves: the payloads in new memory, and how many bytes their frames have. -/
def Scanned (l : List UInt8) (w : World) (e : Ending) (w' : World) : Prop :=
  ∃ v, e = .returned (.tuple #[v, .int .i64 ((l.length : Int) - (scanL l).2.length)]) ∧ w'.ownsRow w.heap.size 9 1 v (scanL l).1.length (scells (scanL l).1) ∧ Below w.heap.size w w'

set_option maxHeartbeats 2000000 in
theorem scan_any (ad : Option Addr) (n cap : Nat) (l : List UInt8) (w : World) (hlen : Hid (l.length = n)) (hn : n ≤ 4000000) (hc : n ≤ cap) (hm : cap ≤ 9223372036854775807) (hr : RowB w ad l) :
    Calls Tryz.prog 39 #[.slice ad n cap] w (Scanned l w) := by
  obtain ⟨i0, hi, hz0, hz1, hz2⟩ := info_parts info_string
  go_enter Tryz.func39, Tryz.ntmps39
  go_wp2
  go_loopw [4, 5, 6, 7, 8] (fun v r _ _ _ wr => ∃ (done : List (List UInt8)) (x : List UInt8) (a : Option Addr) (c : Nat), r = .slice a x.length c ∧ x.length ≤ c ∧ c ≤ 9223372036854775807 ∧ RowB wr a x ∧ (0 < x.length → ∀ y, a = some y → y.block < w.heap.size) ∧ wr.ownsRow w.heap.size 9 1 v done.length (scells done) ∧ Below w.heap.size w wr ∧ Hid ((scanL l).1 = done ++ (scanL x).1 ∧ (scanL l).2 = (scanL x).2) ∧ 6 * done.length + x.length ≤ n) (fun _ r _ _ _ _ => lenOfV r)
  case atStart =>
    refine ⟨[], l, ad, cap, by rw [hlen.out], by rw [hlen.out]; exact hc, hm, hr, fun h0 y hy => ?_, World.ownsRow_nil _ _ _ _, Below.refl _ _, hid ⟨rfl, rfl⟩, by rw [hlen.out]; simp⟩
    obtain ⟨b, o, e, hcl⟩ := hr 0 h0
    rw [hy] at e
    cases e
    exact lt_of_cell hcl
  case round =>
    obtain ⟨done, x, a, c, rfl, hxc, hcm, hrx, hab, hown, hb, hsc, hcnt⟩ := hrel
    cases hcut : cutL x with
    | none =>
      have hs0 := scanL_none hcut
      have Hf : Hid ((scanL l).1 = done ∧ (scanL l).2 = x) := hid ⟨by rw [hsc.out.1, hs0, List.append_nil], by rw [hsc.out.2, hs0]⟩
      clear hs0 hsc
      go_wp2_with fail
      refine (cut_no a x.length c x _ hcut rfl hxc hcm hrx).mono ?_
      rintro e w1 ⟨rfl, hb1⟩
      clear hcut
      have hb2 : Below w.heap.size w w1 := hb.trans (hb1.mono hb.size)
      have hown1 := own_below hown hb1
      clear hb hb1 hown hrx hab
      go_wp2
      go_ret2
      exact ⟨_, by rw [Hf.out.2, hlen.out]; rfl, by rw [Hf.out.1]; exact hown1, hb2⟩
    | some pr =>
      obtain ⟨p, r⟩ := pr
      have hcr := cutL_rest hcut
      have hs0 := scanL_some hcut
      obtain ⟨b, o, rfl⟩ := hrx.head (by omega)
      have hbB := hab (by omega) _ rfl
      go_wp2_with fail
      refine (cut_yes b o x.length c x p r _ hcut rfl hxc hcm hrx).mono ?_
      rintro e w1 ⟨a1, a2, c2, rfl, hrc, hc2, hr1, hr2, hab2, hb1⟩
      have Hs : Hid ((scanL l).1 = (done ++ [p]) ++ (scanL r).1 ∧ (scanL l).2 = (scanL r).2) := hid ⟨by rw [hsc.out.1, hs0]; simp, by rw [hsc.out.2, hs0]⟩
      have hb2 : Below w.heap.size w w1 := hb.trans (hb1.mono hb.size)
      have hown1 := own_below hown hb1
      have hcv := hr1.convert (cap := p.length)
      have hz1' := hb2.size
      clear hb hb1 hown hrx hab hcut hs0 hsc hr1
      go_wp2_with (first | (at_builtin; refine wpList_append_own _ rfl _ _ 32 rfl w.heap.size 9 i0 (.string ⟨#[]⟩) 1 16 Tryz.underlying32 hi hz0 hz1 hz2 rfl (by decide) _ _ _ rfl (hown1.alloc _) ⟨w1.heap.size, 0, none⟩ 1 1 [.string ⟨p.toArray⟩] rfl rfl ?c1 ?c2 ?c3 ?c4 ?c5 ?_) | go_in)
      case c1 =>
        intro j u hj
        match j, hj with
        | 0, hj => simp at hj; subst hj; simp [Addr.add]
      case c2 => intro u hu; simp at hu; subst hu; rfl
      case c3 => unfold maxLen; omega
      case c4 => omega
      case c5 => simp; omega
      intro v' w2 hown2 hg2 _
      rw [← scells_snoc] at hown2
      have hb3 : Below w.heap.size w w2 := (hb2.alloc hz1' _).grown hg2 (by simp; omega) (fun k hk => by
        rcases hown1.2 with ⟨hv, _⟩ | ⟨g, cp, cur, hv, hgb, _⟩
        · rw [hv] at hk; simp [Value.ownBlock] at hk
        · rw [hv] at hk; simp [Value.ownBlock] at hk; omega)
      have hr3 : RowB w2 a2 r := fun i hi => by
        obtain ⟨b', o', e', hcl⟩ := hr2 i hi
        have hbb : b' = b := hab2 _ e'
        refine ⟨b', o', e', Eq.trans ?_ hcl⟩
        have h1 := hb3.cell (p := ⟨b', o' + i, none⟩) (by show b' < _; omega)
        have h2 := hb2.cell (p := ⟨b', o' + i, none⟩) (by show b' < _; omega)
        rw [h1, h2]
      clear hown1 hr2 hg2 hcv hb2
      go_wp2
      go_roundw
      case rel =>
        exact ⟨done ++ [p], r, a2, c2, rfl, hrc, hc2, hr3, fun h0 y hy => by rw [hab2 y hy]; exact hbB, by rw [List.length_append]; exact hown2, hb3, Hs, by simp; omega⟩
      case measure => simp [lenOfV_slice]; omega
end Go.Proofs.YtahbhhenobehfaaGreatDoor
