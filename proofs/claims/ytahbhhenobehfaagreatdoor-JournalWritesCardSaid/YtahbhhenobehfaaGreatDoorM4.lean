/-
  The walk of scan of package journal: the payloads of the whole frames at the beginning.
  Journals in memory; append of a string behind a slice of bytes without spare room.
  The walks of Scan of package journal and of its reference.
-/
import Derived.Test.YtahbhhenobehfaaGreatDoorRows
import Derived.Test.YtahbhhenobehfaaGreatDoorM1
import Derived.Test.YtahbhhenobehfaaGreatDoorNJ2
import Derived.WalkKit
import Derived.ProofKit
import Derived.OpenShut
import Derived.Outline
import Derived.Test.YtahbhhenobehfaaGreatDoorM2
import Derived.Deep.QuietTactic
import Derived.BigQuiet
namespace Go.Proofs.YtahbhhenobehfaaGreatDoor
open Go.ChangeShapes Go.WideShapes Go.ChangeAt Go.RowKit

/-- Strings as cells; a slice's length. -/
def scells (ls : List (List UInt8)) : List Value := ls.map fun l => Value.string ⟨l.toArray⟩
theorem scells_length (ls : List (List UInt8)) : (scells ls).length = ls.length := by simp [scells]
theorem scells_snoc (ls : List (List UInt8)) (l : List UInt8) : scells (ls ++ [l]) = scells ls ++ [.string ⟨l.toArray⟩] := by simp [scells]
def lenOfV : Value → Nat | .slice _ n _ => n | _ => 0
theorem lenOfV_slice (a : Option Addr) (n c : Nat) : lenOfV (.slice a n c) = n := rfl
theorem info_string : (Tryz.prog.info? 9).map (fun i => (i.zero, i.size, i.bytes)) = some (some (.string ⟨#[]⟩), 1, 16) := by kernel_rfl
theorem own_below {w w' : World} {base : Nat} {e : TypeId} {size : Nat} {v : Value} {n : Nat} {xs : List Value} (h : w.ownsRow base e size v n xs) (hb : Below w.heap.size w w') : w'.ownsRow base e size v n xs := by
  have hg : w.grownBy w' none := ⟨hb.os, hb.tape, hb.output, hb.size, fun i hi _ => hb.block i hi⟩
  refine h.kept hg ?_
  cases hv : v.ownBlock
  · exact Or.inl rfl
  · exact Or.inr (by simp)
theorem scanL_count : ∀ (n : Nat) (l : List UInt8), l.length ≤ n → 6 * (scanL l).1.length + (scanL l).2.length ≤ l.length
  | 0, l, h => by
    have : cutL l = none := by unfold cutL; rw [if_pos (by omega)]
    rw [scanL_none this]; simp
  | n + 1, l, h => by
    cases hc : cutL l with
    | none => rw [scanL_none hc]; simp
    | some x =>
      obtain ⟨p, r⟩ := x
      have h1 := cutL_rest hc
      have h2 := scanL_count n r (by omega)
      rw [scanL_some hc]
      simp only [List.length_cons]
      omega
/-- What scan leaves: the payloads in new memory, and how many bytes their frames have. -/
def Scanned (l : List UInt8) (w : World) (e : Ending) (w' : World) : Prop :=
  ∃ v, e = .returned (.tuple #[v, .int .i64 ((l.length : Int) - (scanL l).2.length)]) ∧ w'.ownsRow w.heap.size 9 1 v (scanL l).1.length (scells (scanL l).1) ∧ Below w.heap.size w w'

set_option maxHeartbeats 2000000 in
theorem scan_any (ad : Option Addr) (n cap : Nat) (l : List UInt8) (w : World) (hlen : Hid (l.length = n)) (hn : n ≤ 4000000) (hc : n ≤ cap) (hm : cap ≤ 9223372036854775807) (hr : RowB w ad l) :
    Calls Tryz.prog 39 #[.slice ad n cap] w (Scanned l w) := by
  obtain ⟨i0, hi, hz0, hz1, hz2⟩ := info_parts info_string
  go_enter Tryz.func39, Tryz.ntmps39
  go_wp2
  go_loopw [4, 5, 6, 7, 8] (fun v r _ _ _ wr => ∃ (done : List (List UInt8)) (x : List UInt8) (a : Option Addr) (c : Nat), r = .slice a x.length c ∧ x.length ≤ c ∧ c ≤ 9223372036854775807 ∧ RowB wr a x ∧ (0 < x.length → ∀ y, a = some y → y.block < w.heap.size) ∧ wr.ownsRow w.heap.size 9 1 v done.length (scells done) ∧ Below w.heap.size w wr ∧ Hid ((scanL l).1 = done ++ (scanL x).1 ∧ (scanL l).2 = (scanL x).2) ∧ 6 * done.length + x.length ≤ n) (fun _ r _ _ _ _ => lenOfV r)
  case atStart =>
    refine ⟨[], l, ad, cap, by rw [hlen.out], by rw [hlen.out]; exact hc, hm, hr, fun h0 y hy => ?_, World.ownsRow_nil _ _ _ _, Below.refl _ _, hid ⟨rfl, rfl⟩, by rw [hlen.out]; simp⟩
    obtain ⟨b, o, e, hcl⟩ := hr 0 h0
    rw [hy] at e
    cases e
    exact lt_of_cell hcl
  case round =>
    obtain ⟨done, x, a, c, rfl, hxc, hcm, hrx, hab, hown, hb, hsc, hcnt⟩ := hrel
    cases hcut : cutL x with
    | none =>
      have hs0 := scanL_none hcut
      have Hf : Hid ((scanL l).1 = done ∧ (scanL l).2 = x) := hid ⟨by rw [hsc.out.1, hs0, List.append_nil], by rw [hsc.out.2, hs0]⟩
      clear hs0 hsc
      go_wp2_with fail
      refine (cut_no a x.length c x _ hcut rfl hxc hcm hrx).mono ?_
      rintro e w1 ⟨rfl, hb1⟩
      clear hcut
      have hb2 : Below w.heap.size w w1 := hb.trans (hb1.mono hb.size)
      have hown1 := own_below hown hb1
      clear hb hb1 hown hrx hab
      go_wp2
      go_ret2
      exact ⟨_, by rw [Hf.out.2, hlen.out]; rfl, by rw [Hf.out.1]; exact hown1, hb2⟩
    | some pr =>
      obtain ⟨p, r⟩ := pr
      have hcr := cutL_rest hcut
      have hs0 := scanL_some hcut
      obtain ⟨b, o, rfl⟩ := hrx.head (by omega)
      have hbB := hab (by omega) _ rfl
      go_wp2_with fail
      refine (cut_yes b o x.length c x p r _ hcut rfl hxc hcm hrx).mono ?_
      rintro e w1 ⟨a1, a2, c2, rfl, hrc, hc2, hr1, hr2, hab2, hb1⟩
      have Hs : Hid ((scanL l).1 = (done ++ [p]) ++ (scanL r).1 ∧ (scanL l).2 = (scanL r).2) := hid ⟨by rw [hsc.out.1, hs0]; simp, by rw [hsc.out.2, hs0]⟩
      have hb2 : Below w.heap.size w w1 := hb.trans (hb1.mono hb.size)
      have hown1 := own_below hown hb1
      have hcv := hr1.convert (cap := p.length)
      have hz1' := hb2.size
      clear hb hb1 hown hrx hab hcut hs0 hsc hr1
      go_wp2_with (first | (at_builtin; refine wpList_append_own _ rfl _ _ 32 rfl w.heap.size 9 i0 (.string ⟨#[]⟩) 1 16 Tryz.underlying32 hi hz0 hz1 hz2 rfl (by decide) _ _ _ rfl (hown1.alloc _) ⟨w1.heap.size, 0, none⟩ 1 1 [.string ⟨p.toArray⟩] rfl rfl ?c1 ?c2 ?c3 ?c4 ?c5 ?_) | go_in)
      case c1 =>
        intro j u hj
        match j, hj with
        | 0, hj => simp at hj; subst hj; simp [Addr.add]
      case c2 => intro u hu; simp at hu; subst hu; rfl
      case c3 => unfold maxLen; omega
      case c4 => omega
      case c5 => simp; omega
      intro v' w2 hown2 hg2 _
      rw [← scells_snoc] at hown2
      have hb3 : Below w.heap.size w w2 := (hb2.alloc hz1' _).grown hg2 (by simp; omega) (fun k hk => by
        rcases hown1.2 with ⟨hv, _⟩ | ⟨g, cp, cur, hv, hgb, _⟩
        · rw [hv] at hk; simp [Value.ownBlock] at hk
        · rw [hv] at hk; simp [Value.ownBlock] at hk; omega)
      have hr3 : RowB w2 a2 r := fun i hi => by
        obtain ⟨b', o', e', hcl⟩ := hr2 i hi
        have hbb : b' = b := hab2 _ e'
        refine ⟨b', o', e', Eq.trans ?_ hcl⟩
        have h1 := hb3.cell (p := ⟨b', o' + i, none⟩) (by show b' < _; omega)
        have h2 := hb2.cell (p := ⟨b', o' + i, none⟩) (by show b' < _; omega)
        rw [h1, h2]
      clear hown1 hr2 hg2 hcv hb2
      go_wp2
      go_roundw
      case rel =>
        exact ⟨done ++ [p], r, a2, c2, rfl, hrc, hc2, hr3, fun h0 y hy => by rw [hab2 y hy]; exact hbB, by rw [List.length_append]; exact hown2, hb3, Hs, by simp; omega⟩
      case measure => simp [lenOfV_slice]; omega
end Go.Proofs.YtahbhhenobehfaaGreatDoor
namespace Go.Proofs.YtahbhhenobehfaaGreatDoor
open Go.RowKit

/-- A slice whose cells are numbers of one byte does not lie in a block of other cells. -/
theorem RowB.ne {w : World} {ad : Option Addr} {l : List UInt8} {k : Nat} {vs : Array Value} {T : TypeId} (h : RowB w ad l) (hk : Has w k vs T) (hv : ∀ (i : Nat) (n : Int), vs[i]? ≠ some (.int .u8 n)) (h0 : 0 < l.length) : ∀ a, ad = some a → a.block ≠ k := by
  intro a ha e
  obtain ⟨b, o, e2, hc⟩ := h 0 h0
  rw [ha] at e2
  injection e2 with e2
  subst e2
  have hb : b = k := e
  subst hb
  unfold Has at hk
  simp [World.cell?, hk] at hc
  exact hv _ _ hc
theorem RowB.onlyNe {w w' : World} {ad : Option Addr} {l : List UInt8} {k : Nat} (h : RowB w ad l) (ho : Only [k] w w') (hn : 0 < l.length → ∀ a, ad = some a → a.block ≠ k) : RowB w' ad l := fun i hi => by
  obtain ⟨b, o, e, hc⟩ := h i hi
  exact ⟨b, o, e, (World.cell?_of_block (w := w) (a := ⟨b, o + i, none⟩) (ho.block b (lt_of_cell hc) (by simpa using hn (by omega) _ e))).trans hc⟩

theorem RowB.take {w : World} {ad : Option Addr} {l : List UInt8} (h : RowB w ad l) (k : Nat) : RowB w ad (l.take k) := fun i hi => by
  simp only [List.length_take] at hi
  obtain ⟨b, o, e, hc⟩ := h i (by omega)
  refine ⟨b, o, e, hc.trans ?_⟩
  congr 2
  unfold bt
  simp [List.getD, show i < k from by omega]
/-- A journal of the program in block j; one of the reference in block k. -/
def JAt (w : World) (j : Nat) (B : List UInt8) (f : Int) : Prop :=
  ∃ ad n cap, Has w j #[.bool true, .slice ad n cap, .int .i64 f] 67 ∧ RowB w ad B ∧ B.length = n ∧ n ≤ cap ∧ cap ≤ 9223372036854775807
def KAt (w : World) (k : Nat) (B : List UInt8) (f : Int) : Prop := Has w k #[.string ⟨B.toArray⟩, .int .i64 f] 48
theorem three_ne (x y z : Value) (hx : ∀ n, x ≠ .int .u8 n) (hy : ∀ n, y ≠ .int .u8 n) (hz : ∀ n, z ≠ .int .u8 n) (i : Nat) (n : Int) : (#[x, y, z] : Array Value)[i]? ≠ some (.int .u8 n) := by
  match i with
  | 0 => intro h; injection h with h; exact hx n h
  | 1 => intro h; injection h with h; exact hy n h
  | 2 => intro h; injection h with h; exact hz n h
  | i + 3 => intro h; simp at h
theorem two_ne (x y : Value) (hx : ∀ n, x ≠ .int .u8 n) (hy : ∀ n, y ≠ .int .u8 n) (i : Nat) (n : Int) : (#[x, y] : Array Value)[i]? ≠ some (.int .u8 n) := by
  match i with
  | 0 => intro h; injection h with h; exact hx n h
  | 1 => intro h; injection h with h; exact hy n h
  | i + 2 => intro h; simp at h
theorem JAt.below {w w' : World} {j B' : Nat} {B : List UInt8} {f : Int} (h : JAt w j B f) (hb : Below B' w w') (hB : w.heap.size ≤ B') : JAt w' j B f := by
  obtain ⟨ad, n, cap, h1, h2, h3⟩ := h
  exact ⟨ad, n, cap, h1.below hb (Nat.lt_of_lt_of_le h1.lt hB), h2.below hb hB, h3⟩
theorem JAt.lt {w : World} {j : Nat} {B : List UInt8} {f : Int} (h : JAt w j B f) : j < w.heap.size := by
  obtain ⟨ad, n, cap, h1, h2, h3⟩ := h
  exact h1.lt
theorem KAt.lt {w : World} {k : Nat} {B : List UInt8} {f : Int} (h : KAt w k B f) : k < w.heap.size := Has.lt h
theorem KAt.below {w w' : World} {k B' : Nat} {B : List UInt8} {f : Int} (h : KAt w k B f) (hb : Below B' w w') (hB : w.heap.size ≤ B') : KAt w' k B f := Has.below h hb (Nat.lt_of_lt_of_le h.lt hB)
/-- The two kinds of journals do not share a block; a change of the one leaves the other. -/
theorem JAt.ne {w : World} {j k : Nat} {B C : List UInt8} {f g : Int} (h : JAt w j B f) (hk : KAt w k C g) : j ≠ k := by
  rintro rfl
  obtain ⟨ad, n, cap, h1, _⟩ := h
  unfold KAt Has at hk
  unfold Has at h1
  rw [h1] at hk
  injection hk with hk
  injection hk with h1 h2
  injection h1 with h1
  injection h1 with h1
  cases h1
theorem JAt.onlyK {w w' : World} {j k : Nat} {B C : List UInt8} {f g : Int} (h : JAt w j B f) (hk : KAt w k C g) (ho : Only [k] w w') : JAt w' j B f := by
  have hne := h.ne hk
  obtain ⟨ad, n, cap, h1, h2, h3⟩ := h
  exact ⟨ad, n, cap, h1.only ho (by simpa using hne), h2.onlyNe ho (fun h0 => h2.ne hk (two_ne _ _ (by simp) (by simp)) h0), h3⟩
theorem KAt.onlyJ {w w' : World} {j k : Nat} {B C : List UInt8} {f g : Int} (h : JAt w j B f) (hk : KAt w k C g) (ho : Only [j] w w') : KAt w' k C g :=
  Has.only hk ho (by have := h.ne hk; simp; omega)

/-- append of a string, by what it comes to. -/
theorem wpList_append_str {P : Program} (w : World) {ops : Array Oper} {rest : List Oper} {o : Oper} {a : Act} {Q : Exit → Act → World → Prop} (hgd : o.guard = none) (sl x : Operand) (t u : TypeId)
    (ho : o.op = .call { callee := .builtin .append, args := #[sl, x], argTypes := #[t, u] }) (v : Value) (s : ByteArray) (hs : a.eval sl = v) (hx : a.eval x = .string s) (v' : Value) (w' : World)
    (hr : (Builtin.append_ #[t, u] o.type #[v, .string s]).run P w = .ok v' w') (h : wpList P ops Q rest (a.put o.dst v') w') : wpList P ops Q (o :: rest) a w := by
  refine wpList_plain hgd fun K hK => ?_
  unfold Oper.wp execOp
  simp only [ho, resolve, invoke, builtin, Sem.run_bind, Sem.run_pure, Result.andThen_ok, List.map_toArray, List.map_cons, List.map_nil, hs, hx, hr]
  exact hK _ _ h
/-- A slice of bytes without spare room, and a string behind it: always a new block. -/
theorem run_grow (w : World) (ad : Option Addr) (l : List UInt8) (k : Nat) (s : ByteArray) (h : RowB w ad l) (hl : l.length = k) (hs : 0 < s.size) (hm : k + s.size ≤ 100000000) :
    ∃ cap C, (Builtin.append_ #[65, 9] 65 #[.slice ad k k, .string s]).run Tryz.prog w = .ok (.slice (some ⟨w.heap.size, 0, none⟩) (k + s.size) cap) (w.drew.alloc (.cells C 5)) ∧
      k + s.size ≤ cap ∧ cap ≤ 9223372036854775807 ∧ ∀ i, i < k + s.size → C[i]? = some (.int .u8 (bt (l ++ s.data.toList) i)) := by
  obtain ⟨i0, hi, hz0, hz1, hz2⟩ := info_parts info_byte
  have key : ∀ (old : Nat) (X : Array Value) (Z : Array Value), X.toList = bcells (l ++ s.data.toList) → ∀ i, i < k + s.size → (X ++ Z)[i]? = some (.int .u8 (bt (l ++ s.data.toList) i)) := by
    intro old X Z hX i hi
    have hsz : X.size = k + s.size := by rw [← Array.length_toList, hX, bcells_length]; simp [hl]
    rw [Array.getElem?_append_left (by omega), ← Array.getElem?_toList, hX]
    have hi' : i < (l ++ s.data.toList).length := by simp [hl]; exact hi
    unfold bcells bt
    rw [List.getElem?_map, List.getElem?_eq_getElem hi', List.getD_eq_getElem?_getD, List.getElem?_eq_getElem hi']
    rfl
  have hcs : (Lib.strCells s) = bcells s.data.toList := rfl
  cases ad with
  | none =>
    have hk0 : k = 0 := by
      rcases Nat.eq_zero_or_pos k with h0 | h0
      · exact h0
      · obtain ⟨b, o, e, _⟩ := h 0 (by omega)
        cases e
    subst hk0
    obtain rfl : l = [] := List.eq_nil_of_length_eq_zero hl
    have hr := run_append_nil_string (P := Tryz.prog) w 65 9 65 5 i0 (.int .u8 0) Tryz.underlying65 Tryz.underlying9 hi hz0 s hs (by omega) (by rw [hz2]; omega)
    refine ⟨_, _, by rw [Nat.zero_add]; exact hr, ?_, ?_, ?_⟩
    · rw [Nat.zero_add]; exact grownCap_ge _ _ _ _
    · exact grownCap_le_maxLen _ _ _ _ (by unfold maxLen; omega)
    · refine key 0 _ _ ?_
      rw [Array.toList_map]
      rfl
  | some b =>
    have holds : ∀ j v, (bcells l)[j]? = some v → w.cell? (b.add j) = some v := by
      intro j v hv
      have hj : j < l.length := by rw [← bcells_length l]; exact (List.getElem?_eq_some_iff.1 hv).1
      obtain ⟨b', o', e, hc⟩ := h j hj
      cases e
      have e2 : (⟨b', o', none⟩ : Addr).add j = ⟨b', o' + j, none⟩ := by unfold Addr.add; split <;> simp_all
      rw [e2, hc, ← hv]
      unfold bcells bt
      rw [List.getElem?_map, List.getElem?_eq_getElem hj, List.getD_eq_getElem?_getD, List.getElem?_eq_getElem hj]
      rfl
    have hr := Lib.run_append_grow_string (P := Tryz.prog) w 65 9 65 5 i0 (.int .u8 0) Tryz.underlying65 Tryz.underlying9 hi hz0 b k k (bcells l) (by rw [hz1, bcells_length]; omega) holds s (by omega) (by omega) (by rw [hz2]; exact growslice_fits (by omega) (by omega))
    refine ⟨_, _, hr, grownCap_ge _ _ _ _, grownCap_le_maxLen _ _ _ _ (by unfold maxLen; omega), ?_⟩
    refine key k _ _ ?_
    rw [hcs]
    simp [bcells]
end Go.Proofs.YtahbhhenobehfaaGreatDoor
namespace Go.Proofs.YtahbhhenobehfaaGreatDoor
open Go.ChangeShapes Go.WideShapes Go.ChangeAt Go.RowKit

theorem RowB.ofString (w : World) (s : ByteArray) (cap : Nat) (t : TypeId) (fr : Nat × Nat) : RowB (w.alloc (.cells (bytesRow s cap) t fr)) (some ⟨w.heap.size, 0, none⟩) s.data.toList := fun i hi => by
  refine ⟨w.heap.size, 0, rfl, ?_⟩
  rw [Nat.zero_add, World.cell?_alloc_mark]
  have hi' : i < s.data.size := by simpa using hi
  unfold bytesRow bt
  rw [Array.getElem?_append_left (by simpa using hi')]
  rw [Array.getElem?_map]
  simp [List.getD, Array.getElem?_eq_getElem hi']
theorem own_base {w : World} {base base' : Nat} {e : TypeId} {size : Nat} {v : Value} {n : Nat} {xs : List Value} (h : w.ownsRow base e size v n xs) (hb : base' ≤ base) : w.ownsRow base' e size v n xs := by
  refine ⟨h.1, ?_⟩
  rcases h.2 with h2 | ⟨g, cap, cur, hv, hg, r⟩
  · exact .inl h2
  · exact .inr ⟨g, cap, cur, hv, Nat.le_trans hb hg, r⟩
theorem bt_drop (s : ByteArray) (k i : Nat) (h : k + i < s.size) : bt (s.data.toList.drop k) i = ((s[k + i]'h).toNat : Int) := by
  have h' : k + i < s.data.size := h
  unfold bt
  rw [List.getD_eq_getElem?_getD, List.getElem?_drop, Array.getElem?_toList, Array.getElem?_eq_getElem h']
  rfl
theorem Scan_any (s : ByteArray) (w : World) (hn : s.size ≤ 4000000) :
    Calls Tryz.prog 29 #[.string s] w (Scanned s.data.toList w) := by
  have kc := fun (wx : World) => run_bytes_of_string (P := Tryz.prog) wx 9 65 5 s Tryz.underlying9 Tryz.underlying65 Tryz.underlying5
  have hcap := grownCap_ge w s.size 0 5
  have hcm : grownCap w s.size 0 5 ≤ maxLen := grownCap_le_maxLen w s.size 0 5 (by unfold maxLen; omega)
  unfold maxLen at hcm
  go_enter Tryz.func29, Tryz.ntmps29
  go_wp2_with fail
  refine (scan_any _ _ _ s.data.toList _ (hid (by simp)) hn hcap (by omega) (by exact RowB.ofString w s _ _ _)).mono ?_
  rintro e w1 ⟨v, rfl, hown, hb⟩
  go_wp2
  go_ret2
  exact ⟨v, rfl, own_base hown (by simp), (((Below.refl w.heap.size w).drew).alloc (Nat.le_refl _) _).trans (hb.mono (by simp))⟩
set_option maxRecDepth 20000 in
set_option maxHeartbeats 2000000 in
theorem rScan_any (s : ByteArray) (w : World) (hn : s.size ≤ 4000000) :
    Calls Tryz.prog 43 #[.string s] w (Scanned s.data.toList w) := by
  obtain ⟨i0, hi, hz0, hz1, hz2⟩ := info_parts info_string
  replace hn : (s.size : Int) ≤ 4000000 := by omega
  go_enter Tryz.func43, Tryz.ntmps43
  go_wp2
  go_loopw [4, 5, 6, 7, 8] (fun v i _ _ _ wr => ∃ (done : List (List UInt8)) (k : Nat), i = .int .i64 k ∧ k ≤ s.size ∧ wr.ownsRow w.heap.size 9 1 v done.length (scells done) ∧ Below w.heap.size w wr ∧ Hid ((scanL s.data.toList).1 = done ++ (scanL (s.data.toList.drop k)).1 ∧ (scanL s.data.toList).2 = (scanL (s.data.toList.drop k)).2) ∧ 6 * done.length ≤ k) (fun _ i _ _ _ _ => s.size - (intOf i).toNat)
  case atStart => exact ⟨[], 0, rfl, Nat.zero_le _, World.ownsRow_nil _ _ _ _, Below.refl _ _, hid ⟨rfl, rfl⟩, by simp⟩
  case round =>
    obtain ⟨done, k, rfl, hk, hown, hb, hsc, hcnt⟩ := hrel
    obtain ⟨x, ex⟩ : ∃ x, x = s.data.toList.drop k := ⟨_, rfl⟩
    rw [← ex] at hsc
    have hxl : x.length = s.size - k := by rw [ex, List.length_drop]; simp
    have hleave : cutL x = none → Hid ((scanL s.data.toList).1 = done ∧ ((s.data.toList.length : Int) - (scanL s.data.toList).2.length) = k) := fun hc => hid (by
      rw [hsc.out.1, hsc.out.2, scanL_none hc, List.append_nil]
      refine ⟨rfl, ?_⟩
      have hsl : s.data.toList.length = s.size := by simp
      show ((s.data.toList.length : Int) - x.length) = k
      omega)
    by_cases h6 : (s.size : Int) - k < 6
    · have Hl := hleave (cutL_short x (by omega))
      clear hleave hxl ex
      go_wp2
      go_ret2
      exact ⟨_, by rw [Hl.out.2]; rfl, by rw [Hl.out.1]; exact hown, hb⟩
    · obtain ⟨x0, e0⟩ : ∃ x, ((s[k]'(by omega)).toNat : Int) = x := ⟨_, rfl⟩
      obtain ⟨x1, e1⟩ : ∃ x, ((s[k + 1]'(by omega)).toNat : Int) = x := ⟨_, rfl⟩
      have hb0 : 0 ≤ x0 ∧ x0 ≤ 255 := by have := (s[k]'(by omega)).toNat_lt; omega
      have hb1 : 0 ≤ x1 ∧ x1 ≤ 255 := by have := (s[k + 1]'(by omega)).toNat_lt; omega
      have hx0 : bt x 0 = x0 := by rw [← e0, ex, bt_drop s k 0 (by omega)]; rfl
      have hx1 : bt x 1 = x1 := by rw [← e1, ex, bt_drop s k 1 (by omega)]
      have hi0 : (k : Int) < (s.size : Int) := by omega
      have hi1 : (k : Int) + 1 < (s.size : Int) := by omega
      obtain ⟨N, hN⟩ : ∃ N : Nat, x0 * 256 + x1 = (N : Int) := ⟨(x0 * 256 + x1).toNat, by omega⟩
      by_cases h7 : (s.size : Int) - k < 6 + N
      · have Hl := hleave (cutL_torn x N (by rw [hx0, hx1, hN]) (by omega))
        clear hleave hxl ex hx0 hx1
        go_wp2
        go_quiet (fail)
        go_wp2
        go_ret2
        exact ⟨_, by rw [Hl.out.2]; rfl, by rw [Hl.out.1]; exact hown, hb.trans ⟨rfl, rfl, rfl, Nat.le_refl _, fun _ _ => rfl⟩⟩
      · obtain ⟨q, eq⟩ : ∃ q, q = s.extract (k + 6) (k + 6 + N) := ⟨_, rfl⟩
        obtain ⟨fr, ef⟩ : ∃ q, q = s.extract k (k + 6 + N) := ⟨_, rfl⟩
        have hex : ((q.size : Nat) : Int) = (N : Int) := by rw [eq, ByteArray.size_extract]; omega
        have hs1 := slice_run s (k + 6) (k + 6 + N) ((k : Int) + 6) ((k : Int) + 6 + (N : Int)) (by omega) (by omega) (by omega) (by omega) q eq
        have hs2 := slice_run s k (k + 6 + N) (k : Int) ((k : Int) + 6 + (N : Int)) rfl (by omega) (by omega) (by omega) fr ef
        have hq : q.data.toList = (x.drop 6).take N := by rw [eq, extract_list, ex, List.drop_drop]; congr 1; omega
        have hf : fr.toList = x.take (6 + N) := by rw [ByteArray.toList_eq, ef, extract_list, ex]; congr 1; omega
        have hcut := cutL_of x N (by rw [hx0, hx1, hN]) (by omega)
        have Hq := hid hq
        have Hf := hid hf
        clear eq ef
        by_cases hsame : frameL ((x.drop 6).take N) = x.take (6 + N)
        · rw [if_pos hsame] at hcut
          have hs0 := scanL_some hcut
          have Hs : Hid ((scanL s.data.toList).1 = (done ++ [q.data.toList]) ++ (scanL (s.data.toList.drop (k + 6 + N))).1 ∧ (scanL s.data.toList).2 = (scanL (s.data.toList.drop (k + 6 + N))).2) := hid (by
            have hd : x.drop (6 + N) = s.data.toList.drop (k + 6 + N) := by rw [ex, List.drop_drop]; congr 1; omega
            rw [hd] at hs0
            rw [hsc.out.1, hsc.out.2, hs0, hq]
            simp)
          have ht : (frameL q.data.toList == fr.toList) = true := by rw [hq, hf]; simpa using hsame
          clear hleave hxl ex hx0 hx1 hsc hcut hs0 hq hf hsame
          have hz := hb.size
          go_wp2
          go_quiet (fail)
          go_wp2_with fail
          refine (rframe_short _ _ N hex (by omega)).mono ?_
          rintro e w1 ⟨rfl, hb1'⟩
          have hb2 : Below w.heap.size w w1 := (show Below w.heap.size w (wr.drewN nq) from hb.trans ⟨rfl, rfl, rfl, Nat.le_refl _, fun _ _ => rfl⟩).trans (hb1'.mono hz)
          have hown1 := own_below (w := wr.drewN nq) hown hb1'
          have hz1' := hb2.size
          clear hb hb1' hown
          go_wp2_with (first | (at_builtin; refine wpList_append_own _ rfl _ _ 32 rfl w.heap.size 9 i0 (.string ⟨#[]⟩) 1 16 Tryz.underlying32 hi hz0 hz1 hz2 rfl (by decide) _ _ _ rfl (hown1.alloc _) ⟨w1.heap.size, 0, none⟩ 1 1 [.string q] rfl rfl ?c1 ?c2 ?c3 ?c4 ?c5 ?_) | go_in)
          case c1 =>
            intro j u hj
            match j, hj with
            | 0, hj => simp at hj; subst hj; simp [Addr.add]
          case c2 => intro u hu; simp at hu; subst hu; rfl
          case c3 => unfold maxLen; omega
          case c4 => omega
          case c5 => simp; omega
          intro v' w2 hown2 hg2 _
          rw [show [Value.string q] = [Value.string ⟨q.data.toList.toArray⟩] from rfl, ← scells_snoc] at hown2
          have hb3 : Below w.heap.size w w2 := (hb2.alloc hz1' _).grown hg2 (by simp; omega) (fun k hk => by
            rcases hown1.2 with ⟨hv, _⟩ | ⟨g, cp, cur, hv, hgb, _⟩
            · rw [hv] at hk; simp [Value.ownBlock] at hk
            · rw [hv] at hk; simp [Value.ownBlock] at hk; omega)
          clear hown1 hg2 hb2
          go_wp2
          go_roundw
          case rel =>
            exact ⟨done ++ [q.data.toList], k + 6 + N, by go_num, by omega, by rw [List.length_append]; exact hown2, hb3, Hs, by simp; omega⟩
          case measure => simp [intOf]; omega
        · rw [if_neg hsame] at hcut
          have Hl := hleave hcut
          have ht : (frameL q.data.toList == fr.toList) = false := by rw [hq, hf]; simpa using hsame
          clear hleave hxl ex hx0 hx1 hsc hcut hq hf hsame
          have hz := hb.size
          go_wp2
          go_quiet (fail)
          go_wp2_with fail
          refine (rframe_short _ _ N hex (by omega)).mono ?_
          rintro e w1 ⟨rfl, hb1'⟩
          have hb2 : Below w.heap.size w w1 := (show Below w.heap.size w (wr.drewN nq) from hb.trans ⟨rfl, rfl, rfl, Nat.le_refl _, fun _ _ => rfl⟩).trans (hb1'.mono hz)
          have hown1 := own_below (w := wr.drewN nq) hown hb1'
          clear hb hb1' hown
          go_wp2
          go_ret2
          exact ⟨_, by rw [Hl.out.2]; rfl, by rw [Hl.out.1]; exact hown1, hb2⟩
end Go.Proofs.YtahbhhenobehfaaGreatDoor
