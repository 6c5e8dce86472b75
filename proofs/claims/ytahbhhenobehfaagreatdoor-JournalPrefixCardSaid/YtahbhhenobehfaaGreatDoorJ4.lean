/-
  The walks of Scan of package journal and of its reference.
-/
import Derived.Test.YtahbhhenobehfaaGreatDoorRows
import Derived.Test.YtahbhhenobehfaaGreatDoorJPlain
import Derived.Test.YtahbhhenobehfaaGreatDoorHeap
import Derived.Test.YtahbhhenobehfaaGreatDoorJMem
import Derived.Test.YtahbhhenobehfaaGreatDoorJ1
import Derived.Test.YtahbhhenobehfaaGreatDoorJ3
import Derived.WalkKit
import Derived.ProofKit
import Derived.OpenShut
import Derived.Deep.QuietTactic
import Derived.BigQuiet
import Derived.Outline
namespace Go.Proofs.YtahbhhenobehfaaGreatDoor
open Go.ChangeShapes Go.WideShapes Go.ChangeAt Go.RowKit

theorem RowB.ofString (w : World) (s : ByteArray) (cap : Nat) (t : TypeId) (fr : Nat × Nat) : RowB (w.alloc (.cells (bytesRow s cap) t fr)) (some ⟨w.heap.size, 0, none⟩) s.data.toList := fun i hi => by
  refine ⟨w.heap.size, 0, rfl, ?_⟩
  rw [Nat.zero_add, World.cell?_alloc_mark]
  have hi' : i < s.data.size := by simpa using hi
  unfold bytesRow bt
  rw [Array.getElem?_append_left (by simpa using hi')]
  rw [Array.getElem?_map]
  simp [List.getD, Array.getElem?_eq_getElem hi']
theorem own_base {w : World} {base base' : Nat} {e : TypeId} {size : Nat} {v : Value} {n : Nat} {xs : List Value} (h : w.ownsRow base e size v n xs) (hb : base' ≤ base) : w.ownsRow base' e size v n xs := by
  refine ⟨h.1, ?_⟩
  rcases h.2 with h2 | ⟨g, cap, cur, hv, hg, r⟩
  · exact .inl h2
  · exact .inr ⟨g, cap, cur, hv, Nat.le_trans hb hg, r⟩
theorem bt_drop (s : ByteArray) (k i : Nat) (h : k + i < s.size) : bt (s.data.toList.drop k) i = ((s[k + i]'h).toNat : Int) := by
  have h' : k + i < s.data.size := h
  unfold bt
  rw [List.getD_eq_getElem?_getD, List.getElem?_drop, Array.getElem?_toList, Array.getElem?_eq_getElem h']
  rfl
theorem Scan_any (s : ByteArray) (w : World) (hn : s.size ≤ 4000000) :
    Calls Tryz.prog 29 #[.string s] w (Scanned s.data.toList w) := by
  have kc := fun (wx : World) => run_bytes_of_string (P := Tryz.prog) wx 9 65 5 s Tryz.underlying9 Tryz.underlying65 Tryz.underlying5
  have hcap := grownCap_ge w s.size 0 5
  have hcm : grownCap w s.size 0 5 ≤ maxLen := grownCap_le_maxLen w s.size 0 5 (by unfold maxLen; omega)
  unfold maxLen at hcm
  go_enter Tryz.func29, Tryz.ntmps29
  go_wp2_with fail
  refine (scan_any _ _ _ s.data.toList _ (hid (by simp)) hn hcap (by omega) (by exact RowB.ofString w s _ _ _)).mono ?_
  rintro e w1 ⟨v, rfl, hown, hb⟩
  go_wp2
  go_ret2
  exact ⟨v, rfl, own_base hown (by simp), (((Below.refl w.heap.size w).drew).alloc (Nat.le_refl _) _).trans (hb.mono (by simp))⟩
set_option maxRecDepth 20000 in
set_option maxHeartbeats 2000000 in
theorem rScan_any (s : ByteArray) (w : World) (hn : s.size ≤ 4000000) :
    Calls Tryz.prog 43 #[.string s] w (Scanned s.data.toList w) := by
  obtain ⟨i0, hi, hz0, hz1, hz2⟩ := info_parts info_string
  replace hn : (s.size : Int) ≤ 4000000 := by omega
  go_enter Tryz.func43, Tryz.ntmps43
  go_wp2
  go_loopw [4, 5, 6, 7, 8] (fun v i _ _ _ wr => ∃ (done : List (List UInt8)) (k : Nat), i = .int .i64 k ∧ k ≤ s.size ∧ wr.ownsRow w.heap.size 9 1 v done.length (scells done) ∧ Below w.heap.size w wr ∧ Hid ((scanL s.data.toList).1 = done ++ (scanL (s.data.toList.drop k)).1 ∧ (scanL s.data.toList).2 = (scanL (s.data.toList.drop k)).2) ∧ 6 * done.length ≤ k) (fun _ i _ _ _ _ => s.size - (intOf i).toNat)
  case atStart => exact ⟨[], 0, rfl, Nat.zero_le _, World.ownsRow_nil _ _ _ _, Below.refl _ _, hid ⟨rfl, rfl⟩, by simp⟩
  case round =>
    obtain ⟨done, k, rfl, hk, hown, hb, hsc, hcnt⟩ := hrel
    obtain ⟨x, ex⟩ : ∃ x, x = s.data.toList.drop k := ⟨_, rfl⟩
    rw [← ex] at hsc
    have hxl : x.length = s.size - k := by rw [ex, List.length_drop]; simp
    have hleave : cutL x = none → Hid ((scanL s.data.toList).1 = done ∧ ((s.data.toList.length : Int) - (scanL s.data.toList).2.length) = k) := fun hc => hid (by
      rw [hsc.out.1, hsc.out.2, scanL_none hc, List.append_nil]
      refine ⟨rfl, ?_⟩
      have hsl : s.data.toList.length = s.size := by simp
      show ((s.data.toList.length : Int) - x.length) = k
      omega)
    by_cases h6 : (s.size : Int) - k < 6
    · have Hl := hleave (cutL_short x (by omega))
      clear hleave hxl ex
      go_wp2
      go_ret2
      exact ⟨_, by rw [Hl.out.2]; rfl, by rw [Hl.out.1]; exact hown, hb⟩
    · obtain ⟨x0, e0⟩ : ∃ x, ((s[k]'(by omega)).toNat : Int) = x := ⟨_, rfl⟩
      obtain ⟨x1, e1⟩ : ∃ x, ((s[k + 1]'(by omega)).toNat : Int) = x := ⟨_, rfl⟩
      have hb0 : 0 ≤ x0 ∧ x0 ≤ 255 := by have := (s[k]'(by omega)).toNat_lt; omega
      have hb1 : 0 ≤ x1 ∧ x1 ≤ 255 := by have := (s[k + 1]'(by omega)).toNat_lt; omega
      have hx0 : bt x 0 = x0 := by rw [← e0, ex, bt_drop s k 0 (by omega)]; rfl
      have hx1 : bt x 1 = x1 := by rw [← e1, ex, bt_drop s k 1 (by omega)]
      have hi0 : (k : Int) < (s.size : Int) := by omega
      have hi1 : (k : Int) + 1 < (s.size : Int) := by omega
      obtain ⟨N, hN⟩ : ∃ N : Nat, x0 * 256 + x1 = (N : Int) := ⟨(x0 * 256 + x1).toNat, by omega⟩
      by_cases h7 : (s.size : Int) - k < 6 + N
      · have Hl := hleave (cutL_torn x N (by rw [hx0, hx1, hN]) (by omega))
        clear hleave hxl ex hx0 hx1
        go_wp2
        go_quiet (fail)
        go_wp2
        go_ret2
        exact ⟨_, by rw [Hl.out.2]; rfl, by rw [Hl.out.1]; exact hown, hb.trans ⟨rfl, rfl, rfl, Nat.le_refl _, fun _ _ => rfl⟩⟩
      · obtain ⟨q, eq⟩ : ∃ q, q = s.extract (k + 6) (k + 6 + N) := ⟨_, rfl⟩
        obtain ⟨fr, ef⟩ : ∃ q, q = s.extract k (k + 6 + N) := ⟨_, rfl⟩
        have hex : ((q.size : Nat) : Int) = (N : Int) := by rw [eq, ByteArray.size_extract]; omega
        have hs1 := slice_run s (k + 6) (k + 6 + N) ((k : Int) + 6) ((k : Int) + 6 + (N : Int)) (by omega) (by omega) (by omega) (by omega) q eq
        have hs2 := slice_run s k (k + 6 + N) (k : Int) ((k : Int) + 6 + (N : Int)) rfl (by omega) (by omega) (by omega) fr ef
        have hq : q.data.toList = (x.drop 6).take N := by rw [eq, extract_list, ex, List.drop_drop]; congr 1; omega
        have hf : fr.toList = x.take (6 + N) := by rw [ByteArray.toList_eq, ef, extract_list, ex]; congr 1; omega
        have hcut := cutL_of x N (by rw [hx0, hx1, hN]) (by omega)
        have Hq := hid hq
        have Hf := hid hf
        clear eq ef
        by_cases hsame : frameL ((x.drop 6).take N) = x.take (6 + N)
        · rw [if_pos hsame] at hcut
          have hs0 := scanL_some hcut
          have Hs : Hid ((scanL s.data.toList).1 = (done ++ [q.data.toList]) ++ (scanL (s.data.toList.drop (k + 6 + N))).1 ∧ (scanL s.data.toList).2 = (scanL (s.data.toList.drop (k + 6 + N))).2) := hid (by
            have hd : x.drop (6 + N) = s.data.toList.drop (k + 6 + N) := by rw [ex, List.drop_drop]; congr 1; omega
            rw [hd] at hs0
            rw [hsc.out.1, hsc.out.2, hs0, hq]
            simp)
          have ht : (frameL q.data.toList == fr.toList) = true := by rw [hq, hf]; simpa using hsame
          clear hleave hxl ex hx0 hx1 hsc hcut hs0 hq hf hsame
          have hz := hb.size
          go_wp2
          go_quiet (fail)
          go_wp2_with fail
          refine (rframe_short _ _ N hex (by omega)).mono ?_
          rintro e w1 ⟨rfl, hb1'⟩
          have hb2 : Below w.heap.size w w1 := (show Below w.heap.size w (wr.drewN nq) from hb.trans ⟨rfl, rfl, rfl, Nat.le_refl _, fun _ _ => rfl⟩).trans (hb1'.mono hz)
          have hown1 := own_below (w := wr.drewN nq) hown hb1'
          have hz1' := hb2.size
          clear hb hb1' hown
          go_wp2_with (first | (at_builtin; refine wpList_append_own _ rfl _ _ 32 rfl w.heap.size 9 i0 (.string ⟨#[]⟩) 1 16 Tryz.underlying32 hi hz0 hz1 hz2 rfl (by decide) _ _ _ rfl (hown1.alloc _) ⟨w1.heap.size, 0, none⟩ 1 1 [.string q] rfl rfl ?c1 ?c2 ?c3 ?c4 ?c5 ?_) | go_in)
          case c1 =>
            intro j u hj
            match j, hj with
            | 0, hj => simp at hj; subst hj; simp [Addr.add]
          case c2 => intro u hu; simp at hu; subst hu; rfl
          case c3 => unfold maxLen; omega
          case c4 => omega
          case c5 => simp; omega
          intro v' w2 hown2 hg2 _
          rw [show [Value.string q] = [Value.string ⟨q.data.toList.toArray⟩] from rfl, ← scells_snoc] at hown2
          have hb3 : Below w.heap.size w w2 := (hb2.alloc hz1' _).grown hg2 (by simp; omega) (fun k hk => by
            rcases hown1.2 with ⟨hv, _⟩ | ⟨g, cp, cur, hv, hgb, _⟩
            · rw [hv] at hk; simp [Value.ownBlock] at hk
            · rw [hv] at hk; simp [Value.ownBlock] at hk; omega)
          clear hown1 hg2 hb2
          go_wp2
          go_roundw
          case rel =>
            exact ⟨done ++ [q.data.toList], k + 6 + N, by go_num, by omega, by rw [List.length_append]; exact hown2, hb3, Hs, by simp; omega⟩
          case measure => simp [intOf]; omega
        · rw [if_neg hsame] at hcut
          have Hl := hleave hcut
          have ht : (frameL q.data.toList == fr.toList) = false := by rw [hq, hf]; simpa using hsame
          clear hleave hxl ex hx0 hx1 hsc hcut hq hf hsame
          have hz := hb.size
          go_wp2
          go_quiet (fail)
          go_wp2_with fail
          refine (rframe_short _ _ N hex (by omega)).mono ?_
          rintro e w1 ⟨rfl, hb1'⟩
          have hb2 : Below w.heap.size w w1 := (show Below w.heap.size w (wr.drewN nq) from hb.trans ⟨rfl, rfl, rfl, Nat.le_refl _, fun _ _ => rfl⟩).trans (hb1'.mono hz)
          have hown1 := own_below (w := wr.drewN nq) hown hb1'
          clear hb hb1' hown
          go_wp2
          go_ret2
          exact ⟨_, by rw [Hl.out.2]; rfl, by rw [Hl.out.1]; exact hown1, hb2⟩
end Go.Proofs.YtahbhhenobehfaaGreatDoor
