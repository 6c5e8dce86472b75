/-
  The walk of the journal's numbers.
  What a record's words are, and the numbers in them. No program in sight.
  The walk of message.Unescape.
-/
import Derived.Test.YtahbhhenobehfaaGreatDoorM24
import Derived.Test.YtahbhhenobehfaaGreatDoorShelf2
import Derived.Test.YtahbhhenobehfaaGreatDoorM12
import Derived.Test.YtahbhhenobehfaaGreatDoorM16
import Derived.Test.YtahbhhenobehfaaGreatDoorShelf
import Derived.WalkSmall
namespace Go.Proofs.YtahbhhenobehfaaGreatDoor
open Go.ChangeShapes Go.WideShapes Go.ChangeAt Go.RowKit

theorem info_int : (Tryz.prog.info? 3).map (fun i => (i.zero, i.size, i.bytes)) = some (some (.int .i64 0), 1, 8) := by kernel_rfl
/-- What stands for a word that is to be a number. -/
def atoiV (l : List UInt8) : Int := match Lib.atoiAll l with
  | .ok v => v
  | _ => -1
/-- What the library's tables and variables hold, for the journal's readers. -/
structure Tabs (w : World) : Prop where
  utf : Lib.Utf8Tabs 4 5 w
  max : ∃ m, w.cell? ⟨3, 0, none⟩ = some (.int .i64 m)
  syn : ∃ ev, w.cell? ⟨1, 0, none⟩ = some ev ∧ (ev = .nilIface ∨ ∃ te pe, ev = .iface te pe)
  rng : ∃ ev, w.cell? ⟨2, 0, none⟩ = some ev ∧ (ev = .nilIface ∨ ∃ te pe, ev = .iface te pe)
theorem Tabs.below {w w' : World} (h : Tabs w) (hb : Below w.heap.size w w') : Tabs w' := by
  obtain ⟨m, hm⟩ := h.max
  obtain ⟨e1, hs, he1⟩ := h.syn
  obtain ⟨e2, hr, he2⟩ := h.rng
  exact ⟨Utf8Tabs_below h.utf hb, ⟨m, (hb.cell (p := ⟨_, 0, none⟩) (lt_of_cell hm)).trans hm⟩, ⟨e1, (hb.cell (p := ⟨_, 0, none⟩) (lt_of_cell hs)).trans hs, he1⟩, ⟨e2, (hb.cell (p := ⟨_, 0, none⟩) (lt_of_cell hr)).trans hr, he2⟩⟩
/-- What numbers answers, where Q is what the separator says of the words. -/
def NumsSaid (s : ByteArray) (Q : List ByteArray → Prop) (w : World) (e : Ending) (w' : World) : Prop :=
  (∃ v l, e = .returned v ∧ OwnL IntC w.heap.size 3 w' v l ∧ l.length ≤ s.size + 1 ∧ (s.data.toList = [45] → l = []) ∧ (s.data.toList ≠ [45] → ∃ ws, Q ws ∧ l = ws.map (fun x => atoiV x.data.toList))) ∧ Below w.heap.size w w'
set_option maxRecDepth 20000 in
set_option maxHeartbeats 4000000 in
theorem atoi_any (s : ByteArray) (w : World) (hs : s.size ≤ 1000000) (hT : Tabs w) :
    Calls Tryz.prog 106 #[.string s] w fun e w' => (∃ v u, e = .returned (.tuple #[.int .i64 v, u]) ∧ ((u = .nilIface ∧ v = atoiV s.data.toList) ∨ (∃ N, u = .iface 157 (.pointer (some ⟨N, 0, none⟩)) ∧ atoiV s.data.toList = -1))) ∧ Below w.heap.size w w' := by
  unfold atoiV
  rcases hA : Lib.atoiAll s.data.toList with v | _ | _
  · skip
    refine (Tryz.strconv_Atoi_ok s (by omega) v hA w).mono ?_
    rintro e w' ⟨rfl, h⟩
    refine ⟨⟨v, _, rfl, Or.inl ⟨rfl, rfl⟩⟩, ?_⟩
    rcases h with rfl | ⟨t, rfl⟩
    · exact Below.refl _ _
    · exact Lib.bytesWorld_below _ _ _
  · skip
    obtain ⟨ev, h1, h2⟩ := hT.syn
    refine (Any.strconv_Atoi_syntax Tryz.laysC172 s (by omega) hA ev w h1 h2).mono ?_
    rintro e w' ⟨N, rfl, _, _, hb⟩
    exact ⟨⟨0, _, rfl, Or.inr ⟨N, rfl, rfl⟩⟩, hb⟩
  · skip
    obtain ⟨ev, h1, h2⟩ := hT.rng
    refine (Tryz.strconv_Atoi_range s (by omega) hA ev w h1 h2).mono ?_
    rintro e w' ⟨N, rfl, _, _, hb⟩
    exact ⟨⟨_, _, rfl, Or.inr ⟨N, rfl, rfl⟩⟩, hb⟩
set_option maxRecDepth 20000 in
set_option maxHeartbeats 8000000 in
theorem numbers_any (s sep : ByteArray) (Q : List ByteArray → Prop) (w : World) (hs : s.size ≤ 900000) (hT : Tabs w) (hS : Calls Tryz.prog 45 #[.string s, .string sep] w (SplitSaid s Q w)) :
    Calls Tryz.prog 81 #[.string s, .string sep] w (NumsSaid s Q w) := by
  by_cases h1 : s.data.toList = [45]
  · have hb : (s.toList == [45]) = true := by rw [ByteArray.toList_eq, h1]; rfl
    have H1 := hid h1
    clear h1 hS
    go_enter Tryz.func81, Tryz.ntmps81
    go_wp2
    exact bodyPost_ret (v := .slice none 0 0) (by simp [results, Tryz.results81, go_sem]) rfl ⟨⟨_, [], rfl, OwnL.nil _ _ _ _, Nat.zero_le _, fun _ => rfl, fun h => absurd H1.out h⟩, Below.refl _ _⟩
  have hb : (s.toList == [45]) = false := by rw [ByteArray.toList_eq, beq_eq_false_iff_ne]; exact h1
  have H1 := hid h1
  clear h1
  obtain ⟨i0, hi, hz0, hz1, hz2⟩ := info_parts info_int
  go_enter Tryz.func81, Tryz.ntmps81
  go_wp2_with fail
  refine hS.mono ?_
  rintro e w1 ⟨⟨v, ws, rfl, ⟨b, rfl, hbb, H, hsm⟩, hn, hQ⟩, o1⟩
  have HQ := hid hQ
  have Hsm := hid hsm
  obtain ⟨F, hF⟩ : ∃ F : ByteArray → Int, F = fun x => atoiV x.data.toList := ⟨_, rfl⟩
  have HF := hid hF
  have hbl := H.lt
  have hw1 := o1.size
  have hrel0 := hid (show ∃ k : Nat, Value.int .i64 0 = .int .i64 k ∧ k ≤ ws.length ∧ OwnL IntC w1.heap.size 3 w1 (.slice none 0 0) ((ws.take k).map F) ∧ Has w1 b (strsV ws) 9 ∧ Below w.heap.size w w1 ∧ w1.heap.size ≤ w1.heap.size from
    ⟨0, rfl, Nat.zero_le _, OwnL.nil _ _ _ _, H, o1, Nat.le_refl _⟩)
  clear hQ hsm hF H o1 hS
  go_wp2
  go_loopw [5, 16] (fun u i wr => ∃ k : Nat, i = .int .i64 k ∧ k ≤ ws.length ∧ OwnL IntC w1.heap.size 3 wr u ((ws.take k).map F) ∧ Has wr b (strsV ws) 9 ∧ Below w.heap.size w wr ∧ w1.heap.size ≤ wr.heap.size) (fun _ i _ => ws.length - (intOf i).toNat)
  case atStart => exact hrel0.out
  case round =>
    clear hrel0
    obtain ⟨k, rfl, hk, own, H, hB, hbw⟩ := hrel
    by_cases hkn : k < ws.length
    · have hk0 : (0 : Int) ≤ k := by omega
      have hkn' : (k : Int) < ws.length := by omega
      have hcell := H.cell (strsV_get ws k hkn)
      have hxs := Hsm.out _ (List.getElem_mem hkn)
      have hst := hid (show (ws.take (k + 1)).map F = (ws.take k).map F ++ [atoiV (ws[k]).data.toList] by rw [List.take_succ_eq_append_getElem hkn, List.map_append, HF.out]; rfl)
      obtain ⟨x, ex⟩ : ∃ x, x = ws[k] := ⟨_, rfl⟩
      rw [← ex] at hcell hxs hst
      clear ex
      go_wp2_with fail
      refine (atoi_any x _ (by omega) (hT.below hB)).mono ?_
      rintro e w2 ⟨⟨v, u, rfl, ⟨rfl, hv⟩ | ⟨N, rfl, hv⟩⟩, o2⟩
      · rw [← hv] at hst
        clear hv
        have hB2 := hB.trans (o2.mono hB.size)
        have o2s := o2.size
        have hB2s := hB2.size
        have H2 := hid (H.below o2 H.lt)
        have ownA := (own.below o2 (Nat.le_refl _)).alloc (.cells #[.int .i64 v] 3)
        have htl : ((ws.take k).map F).length = k := by rw [List.length_map, List.length_take]; omega
        go_wp2_with (at_builtin; go_must (refine wpList_append_run rfl (.tmp 27) (.tmp 29) 24 rfl u5 (.slice (some ⟨w2.heap.size, 0, none⟩) 1 1) (by rfl) (by rfl) (run_append1 _ w1.heap.size 24 _ 3 i0 _ 8 Tryz.underlying24 hi hz0 hz1 hz2 rfl _ ((ws.take k).map F) ownA w2.heap.size 1 (.int .i64 v) v ((Has.new w2 #[.int .i64 v] 3).cell (j := 0) rfl) rfl (Rests.int _ _ _) (by unfold maxLen; omega) (by omega) (by simp; omega)) ?_); rintro v5 w5 ⟨own5, b5, hA5, _⟩)
        have own5' := hid own5
        have b5s := b5.size
        have hal : (w2.alloc (.cells #[.int .i64 v] 3)).heap.size = w2.heap.size + 1 := by simp
        have hB5 := hid ((hB2.alloc hB2.size (.cells #[.int .i64 v] 3)).trans (b5.mono (by omega)))
        have H5 := hid ((H2.out.alloc (.cells #[.int .i64 v] 3)).below b5 (by omega))
        clear own5 b5 hA5 ownA own hB hB2 o2 H
        go_wp2
        go_roundw
        case rel => exact ⟨k + 1, by go_num, by omega, by rw [hst.out]; exact own5'.out, H5.out, hB5.out, by omega⟩
        case measure => simp [intOf]; omega
      · rw [hv] at hst
        clear hv
        have hB2 := hB.trans (o2.mono hB.size)
        have o2s := o2.size
        have hB2s := hB2.size
        have H2 := hid (H.below o2 H.lt)
        have ownA := (own.below o2 (Nat.le_refl _)).alloc (.cells #[.int .i64 (-1)] 3)
        have htl : ((ws.take k).map F).length = k := by rw [List.length_map, List.length_take]; omega
        go_wp2_with (at_builtin; go_must (refine wpList_append_run rfl (.tmp 27) (.tmp 29) 24 rfl u5 (.slice (some ⟨w2.heap.size, 0, none⟩) 1 1) (by rfl) (by rfl) (run_append1 _ w1.heap.size 24 _ 3 i0 _ 8 Tryz.underlying24 hi hz0 hz1 hz2 rfl _ ((ws.take k).map F) ownA w2.heap.size 1 (.int .i64 (-1)) (-1) ((Has.new w2 #[.int .i64 (-1)] 3).cell (j := 0) rfl) rfl (Rests.int _ _ _) (by unfold maxLen; omega) (by omega) (by simp; omega)) ?_); rintro v5 w5 ⟨own5, b5, hA5, _⟩)
        have own5' := hid own5
        have b5s := b5.size
        have hal : (w2.alloc (.cells #[.int .i64 (-1)] 3)).heap.size = w2.heap.size + 1 := by simp
        have hB5 := hid ((hB2.alloc hB2.size (.cells #[.int .i64 (-1)] 3)).trans (b5.mono (by omega)))
        have H5 := hid ((H2.out.alloc (.cells #[.int .i64 (-1)] 3)).below b5 (by omega))
        clear own5 b5 hA5 ownA own hB hB2 o2 H
        go_wp2
        go_roundw
        case rel => exact ⟨k + 1, by go_num, by omega, by rw [hst.out]; exact own5'.out, H5.out, hB5.out, by omega⟩
        case measure => simp [intOf]; omega
    · obtain rfl : k = ws.length := by omega
      have own' := hid (own.rebase (base' := w.heap.size) hw1)
      have hB' := hid hB
      have hlen : ((ws.take ws.length).map F).length ≤ s.size + 1 := by rw [List.length_map, List.length_take]; omega
      have hlast := hid (show s.data.toList ≠ [45] → ∃ ws', Q ws' ∧ (ws.take ws.length).map F = ws'.map (fun x => atoiV x.data.toList) from fun _ => ⟨ws, HQ.out, by rw [List.take_length, HF.out]⟩)
      clear own hB H
      go_wp2
      go_ret
      exact ⟨⟨_, _, rfl, own'.out, hlen, fun h => absurd h H1.out, hlast.out⟩, hB'.out⟩
end Go.Proofs.YtahbhhenobehfaaGreatDoor
namespace Go.Proofs.YtahbhhenobehfaaGreatDoor
open Go.RowKit

/-- The words of a round's payload. -/
def RoundOf (ws : List (List UInt8)) (x : Rnd) : Prop :=
  ws = [[114, 111, 117, 110, 100], escL (termsL x.joint), listL x.faults []] ∧ (∀ t ∈ x.joint, groundB 4 t = true) ∧ (termsL x.joint).length ≤ 16384 ∧ ∀ n ∈ x.faults, 0 ≤ n ∧ n ≤ 9
def OverOf (ws : List (List UInt8)) (g : List Int) : Prop :=
  ws = [[111, 118, 101, 114], listL g [44]] ∧ ∀ n ∈ g, 0 ≤ n ∧ n ≤ 100
theorem numT_digit (n : Int) (h0 : 0 ≤ n) (h9 : n ≤ 9) : numT n = [UInt8.ofNat (48 + n.toNat)] := by
  unfold numT
  exact Lib.decDigits_one (by omega)
theorem numT_no (n : Int) (h : n ≤ 9223372036854775807) {c : UInt8} (hc : c.toNat < 48) : c ∉ numT n := fun hm => by
  have := (numT_dig n (by omega)).1 _ hm
  omega
theorem listL_dash {l : List Int} {sep : List UInt8} (h : ∀ n ∈ l, 0 ≤ n ∧ n ≤ 9223372036854775807) (hl : listL l sep = [45]) : l = [] := by
  match l, h, hl with
  | [], _, _ => rfl
  | n :: r, h, hl =>
    have hn := (h n (by simp)).2
    have hj : ∃ q, Lib.join ((n :: r).map numT) sep = numT n ++ q := by
      cases r with
      | nil => exact ⟨[], by simp [Lib.join, List.intercalate]⟩
      | cons m r => exact ⟨sep ++ Lib.join ((m :: r).map numT) sep, by simp [Lib.join, List.intercalate]⟩
    obtain ⟨q, hq⟩ := hj
    rw [listL_some sep (by simp), hq] at hl
    match hd : numT n, numT_ne n with
    | c :: t, _ =>
      rw [hd] at hl
      simp only [List.cons_append, List.cons.injEq] at hl
      have := (numT_dig n (by omega)).1 c (by rw [hd]; simp)
      rw [hl.1] at this
      exact absurd this.1 (by decide)
theorem map_atoi (l : List Int) (h : ∀ n ∈ l, 0 ≤ n ∧ n ≤ 9223372036854775807) : (l.map numT).map atoiV = l := by
  rw [List.map_map]
  refine (List.map_congr_left (g := id) fun n hn => ?_).trans (List.map_id l)
  show atoiV (numT n) = n
  unfold atoiV
  rw [atoi_numT n (h n hn).1 (h n hn).2]
/-- Numbers between commas, read back. -/
theorem nums_commas {s : List UInt8} {g l : List Int} (hg : ∀ n ∈ g, 0 ≤ n ∧ n ≤ 9223372036854775807) (hs : s = listL g [44]) (h0 : s = [45] → l = []) (h1 : s ≠ [45] → ∃ ws : List ByteArray, ws.map (·.data.toList) = wordsL 44 s ∧ l = ws.map (fun x => atoiV x.data.toList)) : l = g := by
  by_cases hd : s = [45]
  · rw [h0 hd]
    exact (listL_dash hg (hs.symm.trans hd)).symm
  · obtain ⟨ws, e1, e2⟩ := h1 hd
    have hne : g ≠ [] := fun e => by rw [e] at hs; exact hd hs
    rw [hs, listL_some _ (List.length_pos_iff.2 hne), wordsL_join 44 _ (by simpa using hne) (fun x hx => by
      obtain ⟨n, hn, rfl⟩ := List.mem_map.1 hx
      exact numT_no n (hg n hn).2 (by decide))] at e1
    rw [e2, show (ws.map fun x => atoiV x.data.toList) = (ws.map (·.data.toList)).map atoiV by rw [List.map_map]; rfl, e1, map_atoi g hg]
theorem join_digits : ∀ f : List Int, (∀ n ∈ f, 0 ≤ n ∧ n ≤ 9) → (Lib.join (f.map numT) []).map (fun b => [b]) = f.map numT
  | [], _ => by simp [Lib.join, List.intercalate]
  | [n], h => by
    have := h n (by simp)
    rw [show Lib.join ([n].map numT) [] = numT n by simp [Lib.join, List.intercalate], numT_digit n this.1 this.2]
    simp [numT_digit n this.1 this.2]
  | n :: m :: r, h => by
    have := h n (by simp)
    rw [show Lib.join ((n :: m :: r).map numT) [] = numT n ++ Lib.join ((m :: r).map numT) [] by simp [Lib.join, List.intercalate], List.map_append, join_digits (m :: r) (fun k hk => h k (List.mem_cons_of_mem _ hk)), numT_digit n this.1 this.2]
    simp [numT_digit n this.1 this.2]
/-- Digits, read back. -/
theorem nums_chars {s : ByteArray} {f l : List Int} (hf : ∀ n ∈ f, 0 ≤ n ∧ n ≤ 9) (hs : s.data.toList = listL f []) (h0 : s.data.toList = [45] → l = []) (h1 : s.data.toList ≠ [45] → ∃ ws : List ByteArray, ((∀ b ∈ s.data.toList, b.toNat < 128) → ws = Lib.charsB s) ∧ l = ws.map (fun x => atoiV x.data.toList)) : l = f := by
  have hf2 : ∀ n ∈ f, 0 ≤ n ∧ n ≤ 9223372036854775807 := fun n hn => ⟨(hf n hn).1, by have := (hf n hn).2; omega⟩
  by_cases hd : s.data.toList = [45]
  · rw [h0 hd]
    exact (listL_dash hf2 (hs.symm.trans hd)).symm
  · obtain ⟨ws, e1, e2⟩ := h1 hd
    have hne : f ≠ [] := fun e => by rw [e] at hs; exact hd hs
    rw [listL_some _ (List.length_pos_iff.2 hne)] at hs
    have hj := join_digits f hf
    rw [← hs] at hj
    have ha : ∀ b ∈ s.data.toList, b.toNat < 128 := fun b hb => by
      have : [b] ∈ f.map numT := by rw [← hj]; exact List.mem_map_of_mem hb
      obtain ⟨n, hn, e⟩ := List.mem_map.1 this
      have := (numT_dig n (by have := (hf n hn).2; omega)).1 b (by rw [e]; simp)
      omega
    have e3 := Lib.chars_data s
    rw [← e1 ha, hj] at e3
    rw [e2, show (ws.map fun x => atoiV x.data.toList) = (ws.map (·.data.toList)).map atoiV by rw [List.map_map]; rfl, e3, map_atoi f hf2]
end Go.Proofs.YtahbhhenobehfaaGreatDoor
namespace Go.Proofs.YtahbhhenobehfaaGreatDoor
open Go.ChangeShapes Go.WideShapes Go.ChangeAt Go.RowKit

/-- What a reader of an escaped text answers. -/
def UnSaid (s : ByteArray) (w : World) (e : Ending) (w' : World) : Prop :=
  (∃ (o : ByteArray) (er : Int), e = .returned (.tuple #[.string o, .int .i64 er]) ∧ o.size ≤ s.size ∧ ∀ t, s.data.toList = escL t → o.data.toList = t ∧ er = 0) ∧ Below w.heap.size w w'
def EscSt (l o : List UInt8) (p v f : Nat) : Prop :=
  (f = 0 ∧ EscAt l o p) ∨ (f = 2 ∧ v = 0 ∧ ∃ q, ∃ hq : q < l.length, p = q + 1 ∧ l[q] = 37 ∧ EscAt l o q) ∨
  (f = 1 ∧ ∃ q, ∃ hq : q + 1 < l.length, p = q + 2 ∧ l[q] = 37 ∧ (v : Int) = hexI ((l[q + 1]).toNat : Int) ∧ EscAt l o q)
def UnRel (s : ByteArray) (w : World) (u v f : Value) (wr : World) : Prop :=
  ∃ (o : List UInt8) (p V F : Nat), v = .int .i64 V ∧ f = .int .i64 F ∧ OwnL ByteC (w.heap.size + 1) 5 wr u o ∧ wr.heap[w.heap.size]? = some (.stringIter s p) ∧ p ≤ s.size ∧ o.length ≤ p ∧ EscSt s.data.toList o p V F ∧ Below w.heap.size w wr ∧ w.heap.size < wr.heap.size
theorem EscSt.out {l o : List UInt8} {p v f : Nat} (h : EscSt l o p v f) (hf : f ≠ 0) (hp : p < l.length) (hd : hexI ((l[p]).toNat : Int) < 0) (t : List UInt8) : l ≠ escT t := fun ht => by
  rcases h with ⟨e, _⟩ | ⟨_, _, q, hq, rfl, h37, h⟩ | ⟨_, q, hq, rfl, h37, _, h⟩
  · exact hf e
  · obtain ⟨h2, d1, d2⟩ := h.mark hq h37 ht
    omega
  · obtain ⟨h2, d1, d2⟩ := h.mark (by omega) h37 ht
    omega
theorem EscSt.end {l o : List UInt8} {p v f : Nat} (h : EscSt l o p v f) (hf : f ≠ 0) (hp : ¬ p < l.length) (t : List UInt8) : l ≠ escT t := fun ht => by
  rcases h with ⟨e, _⟩ | ⟨_, _, q, hq, rfl, h37, h⟩ | ⟨_, q, hq, rfl, h37, _, h⟩
  · exact hf e
  · obtain ⟨h2, d1, d2⟩ := h.mark hq h37 ht
    omega
  · obtain ⟨h2, d1, d2⟩ := h.mark (by omega) h37 ht
    omega
theorem hexI_high {x : Int} (h : 128 ≤ x) : hexI x < 0 := by
  unfold hexI
  split
  · omega
  · split <;> omega
theorem plainI_high {x : Int} (h : 128 ≤ x) : plainI x = false := by
  unfold plainI
  simp only [Bool.or_eq_false_iff, Bool.and_eq_false_iff, decide_eq_false_iff_not, beq_eq_false_iff_ne, ne_eq]
  omega
theorem wrap_u8 (x : Int) (h0 : 0 ≤ x) (h1 : x < 256) : IntKind.wrap .u8 x = x := by
  rw [IntKind.wrap_u8]; omega
set_option maxRecDepth 20000 in
set_option maxHeartbeats 16000000 in
theorem unescape_any (s : ByteArray) (w : World) (hs : s.size ≤ 100000) :
    Calls Tryz.prog 80 #[.string s] w (UnSaid s w) := by
  have hsz := hid (blen s)
  have hlen : s.data.toList.length = s.size := Array.length_toList
  obtain ⟨i0, hi, hz0, hz1, hz2⟩ := info_parts info_byte
  by_cases h1 : s.data.toList = [37]
  · have hb : (s.toList == [37]) = true := by rw [ByteArray.toList_eq, h1]; rfl
    have hh := hid (show ∀ t, s.data.toList = escL t → ([] : List UInt8) = t from fun t ht => by rw [h1] at ht; exact (escL_mark ht).symm)
    clear h1
    go_enter Tryz.func80, Tryz.ntmps80
    go_wp2
    exact bodyPost_ret (v := .tuple #[.string ⟨#[]⟩, .int .i64 0]) (by simp [results, Tryz.results80, go_sem]) rfl ⟨⟨⟨#[]⟩, 0, rfl, Nat.zero_le _, fun t ht => ⟨hh.out t ht, rfl⟩⟩, Below.refl _ _⟩
  have hb : (s.toList == [37]) = false := by rw [ByteArray.toList_eq, beq_eq_false_iff_ne]; exact h1
  have Hne := hid (fun t ht => escL_one (l := s.data.toList) (t := t) ht h1)
  clear h1
  go_enter Tryz.func80, Tryz.ntmps80
  go_wp2
  go_loopw [4, 5, 6] (fun u v f wr => UnRel s w u v f wr) (fun _ _ _ wr => s.size - wr.iterPos w.heap.size)
  case atStart => exact ⟨[], 0, 0, 0, rfl, rfl, OwnL.nil _ _ _ _, World.iter_heap w s 0, Nat.zero_le _, Nat.le_refl _, Or.inl ⟨rfl, EscAt.start _⟩, (Below.refl _ _).alloc (Nat.le_refl _) _, by simp [World.iter]⟩
  case round =>
    obtain ⟨o, p, V, F, rfl, rfl, own, hit, hp, ho, hst, hB, hlt⟩ := hrel
    by_cases hps : p < s.size
    · have hpl : p < s.data.toList.length := by omega
      obtain ⟨c, hc⟩ : ∃ c, s[p]'hps = c := ⟨_, rfl⟩
      have hcl : s.data.toList[p] = c := by rw [← hc, Array.getElem_toList]; rfl
      by_cases hA : c.toNat < 128
      · have hnx := fun ty => Lib.run_next_ascii_at (P := Tryz.prog) wr w.heap.size s p ty hit hps (by rw [hc]; exact hA)
        rw [hc] at hnx
        obtain ⟨w1, ew1⟩ : ∃ w1, w1 = wr.iterAt w.heap.size s (p + 1) := ⟨_, rfl⟩
        have own1 : OwnL ByteC (w.heap.size + 1) 5 w1 u4 o := by rw [ew1]; exact own.iterAt (s := s) (Nat.lt_succ_self _) (p + 1)
        have hit1 : w1.heap[w.heap.size]? = some (.stringIter s (p + 1)) := by rw [ew1]; exact Lib.iterAt_heap _ _ _ _ _ hit
        have hB1 : Below w.heap.size w w1 := by rw [ew1]; exact Lib.below_iterAt hB (Nat.le_refl _) s (p + 1)
        have hlt1 : w.heap.size < w1.heap.size := by rw [ew1, Lib.iterAt_size]; exact hlt
        rw [← ew1] at hnx
        clear ew1 own hB
        have hw8 : IntKind.wrap .u8 (c.toNat : Int) = c.toNat := wrap_u8 _ (by omega) (by omega)
        have hA' : (c.toNat : Int) < 128 := by omega
        have hcc : (c.toNat : Int).toNat.toUInt8 = c := by simp
        go_wp2_with fail
        refine (Tryz.strings_IndexByte _ _ _).mono ?_
        rintro e w2 ⟨rfl, ew2⟩
        obtain rfl : w1 = w2 := ew2.symm
        rw [hcc, show (⟨#[48, 49, 50, 51, 52, 53, 54, 55, 56, 57, 97, 98, 99, 100, 101, 102]⟩ : ByteArray).data.toList = [48, 49, 50, 51, 52, 53, 54, 55, 56, 57, 97, 98, 99, 100, 101, 102] from rfl, hexI_index c]
        obtain ⟨D, eD⟩ : ∃ D, D = hexI (c.toNat : Int) := ⟨_, rfl⟩
        have hDm : D ≤ 15 := by rw [eD]; exact hexI_le _
        have hD := hid (show D = hexI ((s.data.toList[p]).toNat : Int) by rw [hcl]; exact eD)
        rw [← eD]
        clear eD
        by_cases hF : F = 0
        · subst hF
          have hEA := hid (show EscAt s.data.toList o p from by
            rcases hst with ⟨_, h⟩ | ⟨e, _⟩ | ⟨e, _⟩
            · exact h
            · cases e
            · cases e)
          clear hst hnx
          by_cases h37 : c = 37
          · subst h37
            have hown := hid own1
            have hb := hid hB1
            have hst1 := hid (show EscSt s.data.toList o (p + 1) 0 2 from Or.inr (Or.inl ⟨rfl, rfl, p, hpl, rfl, hcl, hEA.out⟩))
            clear own1 hB1 hA hA' hcc hw8 hcl
            go_wp2
            go_roundw
            case rel => exact ⟨o, p + 1, 0, 2, rfl, rfl, hown.out, hit1, by omega, by omega, hst1.out, hb.out, hlt1⟩
            case measure => rw [iterPos_of hit, iterPos_of hit1]; omega
          · have h37' : ((c.toNat : Int) == 37) = false := by
              rw [beq_eq_false_iff_ne]
              intro e
              exact h37 (UInt8.toNat_inj.1 (by rw [show (37 : UInt8).toNat = 37 from rfl]; omega))
            go_wp2_with fail
            refine (mplain_any (c.toNat : Int) _).mono ?_
            rintro e w3 ⟨rfl, rfl⟩
            obtain ⟨B, eB⟩ : ∃ B, B = plainI (c.toNat : Int) := ⟨_, rfl⟩
            have hBp := hid eB
            rw [← eB]
            clear eB
            cases B
            · have hno := hid (fun t => hEA.out.odd hpl (by rw [hcl]; exact h37) (by rw [hcl]; exact hBp.out.symm) t)
              go_wp2
              exact bodyPost_ret (v := .tuple #[.string ⟨#[]⟩, .int .i64 1]) (by simp [results, Tryz.results80, go_sem]) rfl ⟨⟨⟨#[]⟩, 1, rfl, Nat.zero_le _, fun t ht => absurd (Hne.out t ht) (hno.out t)⟩, hB1⟩
            · have hst1 := hid (show EscSt s.data.toList (o ++ [c]) (p + 1) V 0 from Or.inl ⟨rfl, by have := hEA.out.plain hpl (by rw [hcl]; exact h37); rwa [hcl] at this⟩)
              have hbv := hid (show ∀ w, ByteC w (.int .u8 (c.toNat : Int)) c from fun _ => rfl)
              have ownA := (own1.alloc (.cells #[.int .u8 (c.toNat : Int)] 5))
              go_wp2_with (at_builtin; go_must (refine wpList_append_run rfl (.tmp 56) (.tmp 59) 65 rfl u4 (.slice (some ⟨w1.heap.size, 0, none⟩) 1 1) (by rfl) (by rfl) (run_append1 _ (w.heap.size + 1) 65 _ 5 i0 _ 1 Tryz.underlying65 hi hz0 hz1 hz2 rfl _ o ownA w1.heap.size 1 (.int .u8 (c.toNat : Int)) c ((Has.new w1 #[.int .u8 (c.toNat : Int)] 5).cell (j := 0) rfl) rfl (fun w' _ => hbv.out w') (by unfold maxLen; omega) (by omega) (by simp; omega)) ?_); rintro v5 w5 ⟨own5, b5, _, _⟩)
              have own5' := hid own5
              have hit5 : w5.heap[w.heap.size]? = some (.stringIter s (p + 1)) := ((b5.block _ (by omega)).trans (Below.heap_alloc _ _ _ (by omega))).trans hit1
              have b5s := b5.size
              have hlt5 : w.heap.size < w5.heap.size := by have : (w1.alloc (.cells #[.int .u8 (c.toNat : Int)] 5)).heap.size = w1.heap.size + 1 := by simp
                                                           omega
              have hB5 := hid ((hB1.alloc hB1.size (.cells #[.int .u8 (c.toNat : Int)] 5)).trans (b5.mono (by omega)))
              clear own5 b5 ownA own1 hB1
              go_wp2
              go_roundw
              case rel => exact ⟨o ++ [c], p + 1, V, 0, rfl, rfl, own5'.out, hit5, by omega, by simp; omega, hst1.out, hB5.out, hlt5⟩
              case measure => rw [iterPos_of hit, iterPos_of hit5]; omega
        · have hF1 : 0 < (F : Int) := by omega
          by_cases hDn : D < 0
          · have hno := hid (fun t => hst.out hF hpl (by rw [← hD.out]; exact hDn) t)
            clear hst hnx
            go_wp2
            exact bodyPost_ret (v := .tuple #[.string ⟨#[]⟩, .int .i64 1]) (by simp [results, Tryz.results80, go_sem]) rfl ⟨⟨⟨#[]⟩, 1, rfl, Nat.zero_le _, fun t ht => absurd (Hne.out t ht) (hno.out t)⟩, hB1⟩
          · rcases hst with ⟨e, _⟩ | ⟨rfl, rfl, q, hq, rfl, h37, hE⟩ | ⟨rfl, q, hq, rfl, h37, hv, hE⟩
            · exact absurd e hF
            · obtain ⟨N, hN⟩ : ∃ N : Nat, D = N := ⟨D.toNat, by omega⟩
              subst hN
              have hst1 := hid (show EscSt s.data.toList o (q + 1 + 1) N 1 from Or.inr (Or.inr ⟨rfl, q, hpl, rfl, h37, hD.out, hE⟩))
              have hown := hid own1
              have hb := hid hB1
              clear own1 hB1 hE h37 hcl hnx hcc hw8
              go_wp2
              go_roundw
              case rel => exact ⟨o, q + 1 + 1, N, 1, rfl, rfl, hown.out, hit1, by omega, by omega, hst1.out, hb.out, hlt1⟩
              case measure => rw [iterPos_of hit, iterPos_of hit1]; omega
            · have hV := hexI_le ((s.data.toList[q + 1]).toNat : Int)
              obtain ⟨x, hx⟩ : ∃ x : UInt8, (x.toNat : Int) = (V : Int) * 16 + D := ⟨UInt8.ofNat (V * 16 + D.toNat), by rw [UInt8.toNat_ofNat']; omega⟩
              have hw8b : IntKind.wrap .u8 ((V : Int) * 16 + D) = (V : Int) * 16 + D := wrap_u8 _ (by omega) (by omega)
              have hbv := hid (show ∀ w, ByteC w (.int .u8 ((V : Int) * 16 + D)) x from fun _ => by show Value.int .u8 _ = _; rw [hx])
              obtain ⟨Y, eY⟩ : ∃ Y : Nat, (V : Int) * 16 + D = Y := ⟨x.toNat, hx.symm⟩
              have hst1 := hid (show EscSt s.data.toList (o ++ [x]) (q + 2 + 1) Y 0 from Or.inl ⟨rfl, hE.hex (by omega) h37 (by rw [hx, hv, hD.out])⟩)
              have hst1' := hid hst1.out
              have hYr : (Y : Int) ≤ 255 := by omega
              rw [eY] at hbv hw8b
              clear hx hE h37 hcl hnx hcc hw8 hv hst1
              have ownA := (own1.alloc (.cells #[.int .u8 (Y : Int)] 5))
              go_wp2_with (at_builtin; go_must (refine wpList_append_run rfl (.tmp 40) (.tmp 43) 65 rfl u4 (.slice (some ⟨w1.heap.size, 0, none⟩) 1 1) (by rfl) (by rfl) (run_append1 _ (w.heap.size + 1) 65 _ 5 i0 _ 1 Tryz.underlying65 hi hz0 hz1 hz2 rfl _ o ownA w1.heap.size 1 (.int .u8 (Y : Int)) x ((Has.new w1 #[.int .u8 (Y : Int)] 5).cell (j := 0) rfl) rfl (fun w' _ => hbv.out w') (by unfold maxLen; omega) (by omega) (by simp; omega)) ?_); rintro v5 w5 ⟨own5, b5, _, _⟩)
              have own5' := hid own5
              have hit5 : w5.heap[w.heap.size]? = some (.stringIter s (q + 2 + 1)) := ((b5.block _ (by omega)).trans (Below.heap_alloc _ _ _ (by omega))).trans hit1
              have b5s := b5.size
              have hlt5 : w.heap.size < w5.heap.size := by have : (w1.alloc (.cells #[.int .u8 (Y : Int)] 5)).heap.size = w1.heap.size + 1 := by simp
                                                           omega
              have hB5 := hid ((hB1.alloc hB1.size (.cells #[.int .u8 (Y : Int)] 5)).trans (b5.mono (by omega)))
              clear own5 b5 ownA own1 hB1
              go_wp2
              go_roundw
              case rel => exact ⟨o ++ [x], q + 2 + 1, Y, 0, rfl, rfl, own5'.out, hit5, by omega, by simp; omega, hst1'.out, hB5.out, hlt5⟩
              case measure => rw [iterPos_of hit, iterPos_of hit5]; omega
      · obtain ⟨hR, _⟩ := decode_high s p hps (by rw [hc]; omega)
        have hRm := decode_le s p
        have hnx := fun ty => Lib.run_next_any_at (P := Tryz.prog) wr w.heap.size s p ty hit hps
        obtain ⟨R, eR⟩ : ∃ R : Nat, R = (Utf8.decode s p).1 := ⟨_, rfl⟩
        rw [← eR] at hnx hR hRm
        have hB1 : Below w.heap.size w (wr.iterAt w.heap.size s (p + (Utf8.decode s p).2)) := Lib.below_iterAt hB (Nat.le_refl _) s _
        obtain ⟨w1, ew1⟩ : ∃ w1, w1 = wr.iterAt w.heap.size s (p + (Utf8.decode s p).2) := ⟨_, rfl⟩
        rw [← ew1] at hnx hB1
        have hR' : ¬ (R : Int) < 128 := by omega
        have hR37 : ((R : Int) == 37) = false := by rw [beq_eq_false_iff_ne]; omega
        have hch : 128 ≤ ((s.data.toList[p]).toNat : Int) := by rw [hcl]; omega
        have hno := hid (show ∀ t, s.data.toList ≠ escT t from fun t => by
          by_cases hF : F = 0
          · have hEA : EscAt s.data.toList o p := by
              rcases hst with ⟨_, h⟩ | ⟨e, _⟩ | ⟨e, _⟩
              · exact h
              · omega
              · omega
            exact hEA.odd hpl (fun e => by rw [e] at hch; exact absurd hch (by decide)) (plainI_high hch) t
          · exact hst.out hF hpl (hexI_high hch) t)
        clear hst ew1 eR own
        by_cases hF : F = 0
        · subst hF
          go_wp2
          exact bodyPost_ret (v := .tuple #[.string ⟨#[]⟩, .int .i64 1]) (by simp [results, Tryz.results80, go_sem]) rfl ⟨⟨⟨#[]⟩, 1, rfl, Nat.zero_le _, fun t ht => absurd (Hne.out t ht) (hno.out t)⟩, hB1⟩
        · have hF1 : 0 < (F : Int) := by omega
          go_wp2
          exact bodyPost_ret (v := .tuple #[.string ⟨#[]⟩, .int .i64 1]) (by simp [results, Tryz.results80, go_sem]) rfl ⟨⟨⟨#[]⟩, 1, rfl, Nat.zero_le _, fun t ht => absurd (Hne.out t ht) (hno.out t)⟩, hB1⟩
    · have hnx := fun ty => Lib.run_next_end_at (P := Tryz.prog) wr w.heap.size s p ty hit hps
      by_cases hF : F = 0
      · subst hF
        have hpp : p = s.data.toList.length := by omega
        subst hpp
        have hE := hid (show EscAt s.data.toList o s.data.toList.length from by
          rcases hst with ⟨_, h⟩ | ⟨e, _⟩ | ⟨e, _⟩
          · exact h
          · cases e
          · cases e)
        obtain ⟨ad, cap, rfl, hrow⟩ := own.bytes
        have hconv := hrow.convert (cap := cap)
        have hB' := hid hB
        clear hst own hit
        go_wp2_with fail
        refine (escape_any ⟨o.toArray⟩ _ (by rw [bsize]; omega)).mono ?_
        rintro e w3 ⟨rfl, o3⟩
        have hB3 := hid (hB'.out.trans (o3.mono hB'.out.size))
        have hconv3 := (hrow.below o3 (Nat.le_refl _)).convert (cap := cap)
        rw [show (⟨o.toArray⟩ : ByteArray).data.toList = o from by simp]
        by_cases heq : escL o = s.data.toList
        · have hb2 : ((str (escL o)).toList == s.toList) = true := by
            rw [ByteArray.toList_eq, ByteArray.toList_eq, heq]; simp [str]
          have hfin := hid (show ∀ t, s.data.toList = escL t → o = t from fun t ht => hE.out.done (Hne.out t ht))
          have hos : (⟨o.toArray⟩ : ByteArray).size ≤ s.size := by rw [bsize]; omega
          clear hconv heq o3 hrow
          go_wp2
          exact bodyPost_ret (v := .tuple #[.string ⟨o.toArray⟩, .int .i64 0]) (by simp [results, Tryz.results80, go_sem]) rfl ⟨⟨⟨o.toArray⟩, 0, rfl, hos, fun t ht => ⟨(show (⟨o.toArray⟩ : ByteArray).data.toList = o from by simp).trans (hfin.out t ht), rfl⟩⟩, hB3.out⟩
        · have hb2 : ((str (escL o)).toList == s.toList) = false := by
            rw [ByteArray.toList_eq, ByteArray.toList_eq, beq_eq_false_iff_ne]
            intro h
            exact heq (by simpa [str] using h)
          have hfin := hid (show ∀ t, s.data.toList = escL t → False from fun t ht => by
            have e1 := hE.out.done (Hne.out t ht)
            exact heq (by rw [e1]; exact ht.symm))
          clear hconv heq o3 hrow
          go_wp2
          exact bodyPost_ret (v := .tuple #[.string ⟨#[]⟩, .int .i64 1]) (by simp [results, Tryz.results80, go_sem]) rfl ⟨⟨⟨#[]⟩, 1, rfl, Nat.zero_le _, fun t ht => (hfin.out t ht).elim⟩, hB3.out⟩
      · have hF1 : 0 < (F : Int) := by omega
        have hno := hid (fun t => hst.end hF (by omega) t)
        have hB1 := hid hB
        clear hst own hB
        go_wp2
        exact bodyPost_ret (v := .tuple #[.string ⟨#[]⟩, .int .i64 1]) (by simp [results, Tryz.results80, go_sem]) rfl ⟨⟨⟨#[]⟩, 1, rfl, Nat.zero_le _, fun t ht => absurd (Hne.out t ht) (hno.out t)⟩, hB1.out⟩
end Go.Proofs.YtahbhhenobehfaaGreatDoor
