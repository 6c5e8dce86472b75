/-
  The walk of Strings over two equal lists.
  The walk of awake: what one small journal does, byte by byte.
  The plain law of JournalTorn: of frames that are cut anywhere exactly the whole ones are found, and a first frame with a changed byte is not found as it was. No program in sight.
  Journals that grow and that are cut, in plain mathematics.
-/
import Derived.Test.YtahbhhenobehfaaGreatDoorRows
import Derived.Test.YtahbhhenobehfaaGreatDoorM1
import Derived.Test.YtahbhhenobehfaaGreatDoorM4
import Derived.WalkKit
import Derived.ProofKit
import Derived.OpenShut
import Derived.BigRegion
import Derived.Outline
import Derived.Test.YtahbhhenobehfaaGreatDoorM2
import Derived.Test.YtahbhhenobehfaaGreatDoorNJ6
import Derived.Deep.QuietTactic
import Derived.BigQuiet
import Derived.Test.YtahbhhenobehfaaGreatDoorNJ5
namespace Go.Proofs.YtahbhhenobehfaaGreatDoor
open Go.ChangeShapes Go.WideShapes Go.ChangeAt Go.RowKit

/-- A slice of strings that starts at ad reads as the list: nothing is said of an empty one's address. -/
def RowS (w : World) (ad : Option Addr) (ls : List (List UInt8)) : Prop := ∀ i, i < ls.length → ∃ b o, ad = some ⟨b, o, none⟩ ∧ w.cell? ⟨b, o + i, none⟩ = some (.string ⟨(ls.getD i []).toArray⟩)
theorem RowS.below {w w' : World} {ad : Option Addr} {l : List (List UInt8)} {B : Nat} (h : RowS w ad l) (hb : Below B w w') (hB : w.heap.size ≤ B) : RowS w' ad l := fun i hi => by
  obtain ⟨b, o, e, hc⟩ := h i hi
  exact ⟨b, o, e, (hb.cell (p := ⟨b, o + i, none⟩) (Nat.lt_of_lt_of_le (lt_of_cell hc) hB)).trans hc⟩
theorem RowS.head {w : World} {ad : Option Addr} {l : List (List UInt8)} (h : RowS w ad l) (hi : 0 < l.length) : ∃ b o, ad = some ⟨b, o, none⟩ := by
  obtain ⟨b', o', e, _⟩ := h 0 hi
  exact ⟨b', o', e⟩
theorem RowS.at {w : World} {b o : Nat} {l : List (List UInt8)} (h : RowS w (some ⟨b, o, none⟩) l) (i : Nat) (hi : i < l.length) : ∃ s, Hid (s = ByteArray.mk (l.getD i []).toArray) ∧ w.cell? ⟨b, o + i, none⟩ = some (.string s) := by
  obtain ⟨b', o', e, hc⟩ := h i hi
  cases e
  exact ⟨_, hid rfl, hc⟩
theorem scells_get (ls : List (List UInt8)) (i : Nat) (hi : i < ls.length) : (scells ls)[i]? = some (.string ⟨(ls.getD i []).toArray⟩) := by
  unfold scells
  rw [List.getElem?_map, List.getElem?_eq_getElem hi, List.getD_eq_getElem?_getD, List.getElem?_eq_getElem hi]
  rfl
theorem RowS.ofOwn {w : World} {base : Nat} {v : Value} {ls : List (List UInt8)} (h : w.ownsRow base 9 1 v ls.length (scells ls)) : ∃ ad cap, v = .slice ad ls.length cap ∧ RowS w ad ls := by
  rcases h.2 with ⟨hv, h0⟩ | ⟨g, cap, cur, hv, hb, hh, _, _, _, _⟩
  · exact ⟨none, 0, by rw [hv, h0], fun i hi => by omega⟩
  · refine ⟨some ⟨g, 0, none⟩, cap, hv, fun i hi => ⟨g, 0, rfl, ?_⟩⟩
    subst hv
    have hc := h.cells (g := g) rfl i _ (scells_get ls i hi)
    have e : (⟨g, 0, none⟩ : Addr).add i = ⟨g, 0 + i, none⟩ := by unfold Addr.add; split <;> simp_all
    rw [← e]
    exact hc
theorem RowS.ofHas {w : World} {b : Nat} {ls : List (List UInt8)} {T : TypeId} (h : Has w b (scells ls).toArray T) : RowS w (some ⟨b, 0, none⟩) ls := fun i hi => by
  refine ⟨b, 0, rfl, ?_⟩
  rw [Nat.zero_add]
  refine h.cell ?_
  rw [List.getElem?_toArray]
  exact scells_get ls i hi
theorem strings_none (a1 a2 : Option Addr) (c1 c2 : Nat) (w : World) :
    Calls Tryz.prog 15 #[.slice a1 0 c1, .slice a2 0 c2] w fun e w' => e = .returned (.bool true) ∧ Below w.heap.size w w' := by
  go_enter Tryz.func15, Tryz.ntmps15
  go_wp2
  refine wp_loop_rounds 1 ?_
  rw [rounds_succ]
  go_wp2
  go_ret
  exact ⟨rfl, Below.refl _ _⟩
set_option maxHeartbeats 1000000 in
theorem strings_some (b1 o1 b2 o2 : Nat) (n c1 c2 : Nat) (l : List (List UInt8)) (w : World) (hm : n ≤ 9223372036854775807) (hlen : Hid (l.length = n)) (h1 : RowS w (some ⟨b1, o1, none⟩) l) (h2 : RowS w (some ⟨b2, o2, none⟩) l) :
    Calls Tryz.prog 15 #[.slice (some ⟨b1, o1, none⟩) n c1, .slice (some ⟨b2, o2, none⟩) n c2] w fun e w' => e = .returned (.bool true) ∧ Below w.heap.size w w' := by
  go_enter Tryz.func15, Tryz.ntmps15
  go_wp2
  go_loopw [5, 13] (fun _ i wr => ∃ k : Nat, k ≤ n ∧ i = .int .i64 k ∧ RowS wr (some ⟨b1, o1, none⟩) l ∧ RowS wr (some ⟨b2, o2, none⟩) l ∧ Below w.heap.size w wr) (fun _ i _ => n - (intOf i).toNat)
  case atStart => exact ⟨0, Nat.zero_le _, rfl, h1, h2, Below.refl _ _⟩
  case round =>
    clear h1 h2
    obtain ⟨k, hk, rfl, h1, h2, hb⟩ := hrel
    by_cases hlt : k < n
    · obtain ⟨x, hx, hcx⟩ := h1.at k (by rw [hlen.out]; exact hlt)
      obtain ⟨y, hy, hcy⟩ := h2.at k (by rw [hlen.out]; exact hlt)
      have hxy : x = y := hx.out.trans hy.out.symm
      subst hxy
      go_wp2
      go_region
      go_wp2
      go_roundw
      case rel => exact ⟨k + 1, by omega, by go_num, h1.below ((Below.refl _ _).drew) (Nat.le_refl _), h2.below ((Below.refl _ _).drew) (Nat.le_refl _), hb.drew⟩
      case measure => simp [intOf]; omega
    · go_wp2
      go_ret
      exact ⟨rfl, hb⟩
theorem strings_any (a1 a2 : Option Addr) (n c1 c2 : Nat) (l : List (List UInt8)) (w : World) (hm : n ≤ 9223372036854775807) (hlen : l.length = n) (h1 : RowS w a1 l) (h2 : RowS w a2 l) :
    Calls Tryz.prog 15 #[.slice a1 n c1, .slice a2 n c2] w fun e w' => e = .returned (.bool true) ∧ Below w.heap.size w w' := by
  by_cases h0 : n = 0
  · rw [h0]; exact strings_none a1 a2 c1 c2 w
  · obtain ⟨b1, o1, rfl⟩ := h1.head (by omega)
    obtain ⟨b2, o2, rfl⟩ := h2.head (by omega)
    exact strings_some b1 o1 b2 o2 n c1 c2 l w hm (hid hlen) h1 h2
end Go.Proofs.YtahbhhenobehfaaGreatDoor
namespace Go.Proofs.YtahbhhenobehfaaGreatDoor
open Go.ChangeShapes Go.WideShapes Go.ChangeAt Go.RowKit

def G1 : List UInt8 := actB [] [97]
def G2 : List UInt8 := actB G1 [98, 99]
def G3 : List UInt8 := G2.take 10
def G4 : List UInt8 := actB G3 [100]
theorem sum_a : sum32 [97] = 3826002220 := by decide +kernel
theorem sum_0 : sum32 [] = 2166136261 := by decide +kernel
theorem actF0 : actF [] 0 = 0 := by decide +kernel
theorem len1 : G1.length = 7 := by decide +kernel
theorem actF1 : actF G1 7 = 7 := by decide +kernel
theorem len2 : G2.length = 15 := by decide +kernel
theorem len3 : G3.length = 10 := by decide +kernel
theorem scan3 : scanL G3 = ([[97]], G3.drop 7) := by decide +kernel
theorem actF3 : actF G3 10 = 7 := by decide +kernel
theorem len4 : G4.length = 14 := by decide +kernel
theorem scan4 : (scanL G4).1 = [[97], [100]] := by decide +kernel
theorem aw_sum1 (w : World) : Calls Tryz.prog 28 #[.string ⟨#[97]⟩] w fun e w' => e = .returned (.int .u32 3826002220) ∧ w = w' := by
  refine (checksum_any ⟨#[97]⟩ w (by decide)).mono ?_
  rintro e w' ⟨rfl, h⟩
  exact ⟨by rw [← sum_a], h⟩
theorem aw_sum0 (w : World) : Calls Tryz.prog 28 #[.string ⟨#[]⟩] w fun e w' => e = .returned (.int .u32 2166136261) ∧ w = w' := by
  refine (checksum_any ⟨#[]⟩ w (by decide)).mono ?_
  rintro e w' ⟨rfl, h⟩
  exact ⟨by rw [← sum_0], h⟩
theorem aw_app1 (j : Nat) (w : World) (h : JAt w j [] 0) : Calls Tryz.prog 17 #[.pointer (some ⟨j, 0, none⟩), .string ⟨#[97]⟩] w fun e w' => e = .returned (.int .i64 0) ∧ JAt w' j G1 0 ∧ Only [j] w w' := by
  refine (append_any j [] 0 ⟨#[97]⟩ w h (by decide) (by decide)).mono ?_
  rintro e w' ⟨rfl, h, ho⟩
  exact ⟨rfl, by rw [actF0] at h; exact h, ho⟩
theorem aw_sync (j : Nat) (w : World) (h : JAt w j G1 0) : Calls Tryz.prog 11 #[.pointer (some ⟨j, 0, none⟩)] w fun e w' => e = .returned (.int .i64 7) ∧ JAt w' j G1 7 ∧ Only [j] w w' := by
  refine (sync_any j G1 0 w h).mono ?_
  rintro e w' ⟨rfl, h, ho⟩
  rw [len1] at h ⊢
  exact ⟨rfl, h, ho⟩
theorem aw_app2 (j : Nat) (w : World) (h : JAt w j G1 7) : Calls Tryz.prog 17 #[.pointer (some ⟨j, 0, none⟩), .string ⟨#[98, 99]⟩] w fun e w' => e = .returned (.int .i64 0) ∧ JAt w' j G2 7 ∧ Only [j] w w' := by
  refine (append_any j G1 7 ⟨#[98, 99]⟩ w h (by rw [len1]; decide) (by decide)).mono ?_
  rintro e w' ⟨rfl, h, ho⟩
  exact ⟨rfl, by rw [actF1] at h; exact h, ho⟩
theorem aw_crash (j : Nat) (w : World) (h : JAt w j G2 7) : Calls Tryz.prog 13 #[.pointer (some ⟨j, 0, none⟩), .int .i64 3] w fun e w' => e = .returned (.tuple #[]) ∧ JAt w' j G3 10 ∧ Only [j] w w' := by
  refine (crash_any j G2 7 15 3 w h len2 (by decide) (by decide)).mono ?_
  rintro e w' ⟨rfl, h, ho⟩
  exact ⟨rfl, h, ho⟩
theorem aw_scan (w : World) : Calls Tryz.prog 29 #[.string ⟨G3.toArray⟩] w fun e w' => ∃ b o cap, e = .returned (.tuple #[.slice (some ⟨b, o, none⟩) 1 cap, .int .i64 7]) ∧ w'.cell? ⟨b, o, none⟩ = some (.string ⟨#[97]⟩) ∧ Below w.heap.size w w' := by
  refine (Scan_any ⟨G3.toArray⟩ w (by rw [bsize, len3]; decide)).mono ?_
  rintro e w' ⟨v, rfl, hown, hb⟩
  rw [show (ByteArray.mk G3.toArray).data.toList = G3 from rfl, scan3] at hown ⊢
  obtain ⟨ad, cap, rfl, hr⟩ := RowS.ofOwn hown
  obtain ⟨b, o, rfl⟩ := hr.head (by decide)
  obtain ⟨s, hs, hc⟩ := hr.at 0 (by decide)
  rw [hs.out] at hc
  refine ⟨b, o, cap, ?_, hc, hb⟩
  rw [len3, show (G3.drop 7).length = 3 from by decide +kernel]
  rfl
theorem aw_pays (j : Nat) (w : World) (h : JAt w j G4 7) : Calls Tryz.prog 12 #[.pointer (some ⟨j, 0, none⟩)] w fun e w' => ∃ ad cap, e = .returned (.slice ad 2 cap) ∧ RowS w' ad [[97], [100]] ∧ Below w.heap.size w w' := by
  refine (payloads_any j G4 7 w h (by rw [len4]; decide)).mono ?_
  rintro e w' ⟨v, rfl, hown, hb⟩
  rw [scan4] at hown
  obtain ⟨ad, cap, rfl, hr⟩ := RowS.ofOwn hown
  exact ⟨ad, cap, rfl, hr, hb⟩
theorem aw_app4 (j : Nat) (w : World) (h : JAt w j G3 10) : Calls Tryz.prog 17 #[.pointer (some ⟨j, 0, none⟩), .string ⟨#[100]⟩] w fun e w' => e = .returned (.int .i64 0) ∧ JAt w' j G4 7 ∧ Only [j] w w' := by
  refine (append_any j G3 10 ⟨#[100]⟩ w h (by rw [len3]; decide) (by decide)).mono ?_
  rintro e w' ⟨rfl, h, ho⟩
  exact ⟨rfl, by rw [actF3] at h; exact h, ho⟩
set_option maxHeartbeats 2000000 in
theorem awake_any (w : World) : Calls Tryz.prog 6 #[] w fun e w' => e = .returned (.bool true) ∧ Below w.heap.size w w' := by
  go_enter Tryz.func6, Tryz.ntmps6
  go_wp2_with fail
  refine (new_any w).mono ?_
  rintro e w1 ⟨rfl, h1, b1⟩
  have l1 := h1.lt
  go_wp2_with fail
  refine (aw_sum1 _).mono ?_
  rintro e _ ⟨rfl, rfl⟩
  go_wp2_with fail
  refine (aw_sum0 _).mono ?_
  rintro e _ ⟨rfl, rfl⟩
  go_wp2_with fail
  refine (aw_app1 _ _ h1).mono ?_
  rintro e w2 ⟨rfl, h2, o2⟩
  have b2 : Below w.heap.size w w2 := o2.toBelow b1 (by simp) b1.size
  clear h1 b1 o2
  go_wp2_with fail
  refine (aw_sync _ _ h2).mono ?_
  rintro e w3 ⟨rfl, h3, o3⟩
  have b3 : Below w.heap.size w w3 := o3.toBelow b2 (by simp) b2.size
  clear h2 b2 o3
  go_wp2_with fail
  refine (aw_app2 _ _ h3).mono ?_
  rintro e w4 ⟨rfl, h4, o4⟩
  have b4 : Below w.heap.size w w4 := o4.toBelow b3 (by simp) b3.size
  clear h3 b3 o4
  go_wp2_with fail
  refine (aw_crash _ _ h4).mono ?_
  rintro e w5 ⟨rfl, h5, o5⟩
  have b5 : Below w.heap.size w w5 := o5.toBelow b4 (by simp) b4.size
  clear h4 b4 o5
  go_wp2_with fail
  refine (bytes_any _ _ _ _ h5).mono ?_
  rintro e _ ⟨rfl, rfl⟩
  go_wp2_with fail
  refine (aw_scan _).mono ?_
  rintro e w6 ⟨pb, po, pc, rfl, hc6, o6⟩
  have h6 := h5.below o6 (Nat.le_refl _)
  have b6 : Below w.heap.size w w6 := b5.trans (o6.mono b5.size)
  clear h5 b5 o6
  have hsz : (ByteArray.mk G3.toArray).size = 10 := by rw [bsize, len3]
  go_wp2_with fail
  refine (bytes_any _ _ _ _ h6).mono ?_
  rintro e _ ⟨rfl, rfl⟩
  go_wp2_with fail
  refine (aw_app4 _ _ h6).mono ?_
  rintro e w7 ⟨rfl, h7, o7⟩
  have b7 : Below w.heap.size w w7 := o7.toBelow b6 (by simp) b6.size
  have hsz4 : (ByteArray.mk G4.toArray).size = 14 := by rw [bsize, len4]
  clear h6 b6 o7 hc6
  go_wp2_with fail
  refine (bytes_any _ _ _ _ h7).mono ?_
  rintro e _ ⟨rfl, rfl⟩
  go_wp2_with fail
  refine (aw_pays _ _ h7).mono ?_
  rintro e w8 ⟨ad, cap, rfl, r8, o8⟩
  have b8 : Below w.heap.size w w8 := b7.trans (o8.mono b7.size)
  clear h7 b7 o8
  go_wp2_with fail
  have hn := Has.new w8 #[.string ⟨#[97]⟩, .string ⟨#[100]⟩] 9
  refine (strings_any ad _ 2 cap 2 [[97], [100]] _ (by decide) rfl (r8.below ((Below.refl _ _).alloc (Nat.le_refl _) _) (Nat.le_refl _)) (RowS.ofHas hn)).mono ?_
  rintro e w9 ⟨rfl, o9⟩
  have b9 : Below w.heap.size w w9 := (b8.alloc b8.size _).trans (o9.mono (by have := b8.size; simp; omega))
  clear hn r8 b8 o9
  go_wp2
  go_ret
  exact ⟨rfl, b9⟩
end Go.Proofs.YtahbhhenobehfaaGreatDoor
namespace Go.Proofs.YtahbhhenobehfaaGreatDoor
open Go.RowKit

def allL : List (List UInt8) → List UInt8
  | [] => []
  | p :: r => frameL p ++ allL r
theorem allL_append (a b : List (List UInt8)) : allL (a ++ b) = allL a ++ allL b := by
  induction a with
  | nil => rfl
  | cons p r ih => simp [allL, ih]
theorem allL_snoc (l : List (List UInt8)) (k : Nat) (hk : k < l.length) : allL (l.take (k + 1)) = allL (l.take k) ++ frameL (l.getD k []) := by
  rw [List.take_succ_eq_append_getElem hk, allL_append, List.getD_eq_getElem?_getD, List.getElem?_eq_getElem hk]
  simp [allL]
theorem allL_mono (l : List (List UInt8)) (i k : Nat) (h : i ≤ k) : (allL (l.take i)).length ≤ (allL (l.take k)).length := by
  have e : l.take k = l.take i ++ (l.drop i).take (k - i) := by
    rw [← List.take_add, show i + (k - i) = k from by omega]
  rw [e, allL_append, List.length_append]
  omega
theorem getD_append (a b : List UInt8) (i : Nat) (h : i < a.length) : (a ++ b).getD i 0 = a.getD i 0 := by
  simp [List.getD, List.getElem?_append_left h]
theorem frame_n (p : List UInt8) (hp : p.length ≤ 60000) : (p.length : Int) = bt (frameL p) 0 * 256 + bt (frameL p) 1 := by
  have h0 : bt (frameL p) 0 = ((p.length : Int) / 256) % 256 := byte_toNat _
  have h1 : bt (frameL p) 1 = (p.length : Int) % 256 := byte_toNat _
  omega
theorem bt_append (a b : List UInt8) (i : Nat) (h : i < a.length) : bt (a ++ b) i = bt a i := by unfold bt; rw [getD_append a b i h]
theorem cutL_frame (p y : List UInt8) (hp : p.length ≤ 60000) : cutL (frameL p ++ y) = some (p, y) := by
  have hl := frameL_length p
  have hd : (frameL p).drop 6 = p := by unfold frameL; rw [List.drop_append_of_le_length (by rw [headL_length]; omega)]; simp [headL]
  rw [cutL_of _ p.length (by rw [bt_append _ _ 0 (by omega), bt_append _ _ 1 (by omega)]; exact frame_n p hp) (by rw [List.length_append]; omega)]
  have e1 : ((frameL p ++ y).drop 6).take p.length = p := by
    rw [List.drop_append_of_le_length (by omega), hd]; simp
  have e2 : (frameL p ++ y).take (6 + p.length) = frameL p := by
    rw [List.take_append_of_le_length (by omega), List.take_of_length_le (by omega)]
  have e3 : (frameL p ++ y).drop (6 + p.length) = y := by
    rw [show 6 + p.length = (frameL p).length from by omega]; simp
  rw [e1, e2, e3, if_pos rfl]
theorem cutL_part (p y : List UInt8) (c : Nat) (hp : p.length ≤ 60000) (hc : c < p.length + 6) : cutL ((frameL p ++ y).take c) = none := by
  have hl := frameL_length p
  by_cases h6 : c < 6
  · exact cutL_short _ (by rw [List.length_take]; omega)
  · have hb : ∀ i, i < 6 → bt ((frameL p ++ y).take c) i = bt (frameL p) i := fun i hi => by
      rw [← bt_append (frameL p) y i (by omega)]
      unfold bt
      simp [List.getD, show i < c from by omega]
    refine cutL_torn _ p.length ?_ (by rw [List.length_take, List.length_append]; omega)
    rw [hb 0 (by omega), hb 1 (by omega)]
    exact frame_n p hp
/-- Of frames that end anywhere exactly the whole ones are found. -/
theorem torn : ∀ (ls : List (List UInt8)) (c m : Nat), (∀ p ∈ ls, p.length ≤ 60000) → m ≤ ls.length → (allL (ls.take m)).length ≤ c → (m < ls.length → c < (allL (ls.take (m + 1))).length) → c ≤ (allL ls).length → (scanL ((allL ls).take c)).1 = ls.take m
  | [], c, m, _, hm, _, _, _ => by
    have : cutL (([] : List UInt8).take c) = none := cutL_short _ (by simp)
    simp only [allL]
    rw [scanL_none this]
    simp
  | p :: r, c, 0, hp, _, _, h2, _ => by
    have hc := h2 (by simp)
    simp only [List.take_succ_cons, List.take_zero, allL, List.append_nil] at hc
    rw [frameL_length] at hc
    simp only [allL]
    rw [scanL_none (cutL_part p (allL r) c (hp p (by simp)) hc)]
    rfl
  | p :: r, c, m + 1, hp, hm, h1, h2, h3 => by
    have hl := frameL_length p
    simp only [List.take_succ_cons, allL, List.length_append, List.length_cons] at h1 h2 h3 hm
    have e : (frameL p ++ allL r).take c = frameL p ++ (allL r).take (c - (frameL p).length) := by
      rw [List.take_append]
      rw [List.take_of_length_le (l := frameL p) (by omega)]
    simp only [allL]
    rw [e, scanL_some (cutL_frame p _ (hp p (by simp)))]
    have ih := torn r (c - (frameL p).length) m (fun q hq => hp q (by simp [hq])) (by omega) (by omega) (fun hlt => by have := h2 (by omega); omega) (by omega)
    simp only [List.take_succ_cons]
    rw [ih]
theorem cutL_take {x p r : List UInt8} (h : cutL x = some (p, r)) : frameL p = x.take (6 + p.length) := by
  have h0 := bt_bd x 0
  have h1 := bt_bd x 1
  have hr := cutL_rest h
  have hc := h
  unfold cutL at hc
  split at hc
  · cases hc
  · split at hc
    · cases hc
    · rename_i g6 gn
      have e := cutL_of x (bt x 0 * 256 + bt x 1).toNat (by omega) (by omega)
      rw [h] at e
      split at e
      · rename_i hf
        injection e with e
        injection e with e1 e2
        have hlen : p.length = (bt x 0 * 256 + bt x 1).toNat := by rw [e1, List.length_take, List.length_drop]; omega
        rw [← e1] at hf
        rw [hf, hlen]
      · cases e
/-- A first frame with another byte is not found as it was. -/
theorem spoilt (p : List UInt8) (r : List (List UInt8)) (at' : Nat) (v : UInt8) (hat : at' < p.length + 6) (hv : (v.toNat : Int) ≠ bt (allL (p :: r)) at') :
    (scanL ((allL (p :: r)).set at' v)).1 = [] ∨ ∃ q t, (scanL ((allL (p :: r)).set at' v)).1 = q :: t ∧ q ≠ p := by
  cases hc : cutL ((allL (p :: r)).set at' v) with
  | none => exact .inl (by rw [scanL_none hc])
  | some x =>
    obtain ⟨q, t⟩ := x
    refine .inr ⟨q, _, by rw [scanL_some hc], ?_⟩
    rintro rfl
    have ht := cutL_take hc
    have hl := frameL_length q
    have h1 : (frameL q)[at']? = some v := by
      rw [ht, List.getElem?_take, if_pos (by omega)]
      rw [List.getElem?_set_self (by simp only [allL, List.length_append]; omega)]
    apply hv
    have h2 : bt (allL (q :: r)) at' = bt (frameL q) at' := bt_append _ _ _ (by omega)
    rw [h2]
    unfold bt
    rw [List.getD_eq_getElem?_getD, h1]
    rfl
theorem ofInt_u8 (a : Nat) (ha : a < 256) : (BitVec.ofInt 8 (a : Int)).toNat = a := by
  rw [BitVec.ofInt_natCast, BitVec.toNat_ofNat]; exact Nat.mod_eq_of_lt (by omega)
theorem xor_u8 (a b : Int) (ha : 0 ≤ a ∧ a ≤ 255) (hb : 0 ≤ b ∧ b ≤ 255) (h0 : b ≠ 0) : 0 ≤ bits .xor .u8 a b ∧ bits .xor .u8 a b ≤ 255 ∧ bits .xor .u8 a b ≠ a := by
  obtain ⟨x, rfl⟩ : ∃ x : Nat, a = x := ⟨a.toNat, by omega⟩
  obtain ⟨y, rfl⟩ : ∃ y : Nat, b = y := ⟨b.toNat, by omega⟩
  have hx : x ^^^ y < 2 ^ 8 := Nat.xor_lt_two_pow (by omega) (by omega)
  have e : bits .xor .u8 (x : Int) (y : Int) = ((x ^^^ y : Nat) : Int) := by
    show IntKind.u8.wrap ((BitVec.ofInt 8 (x : Int) ^^^ BitVec.ofInt 8 (y : Int)).toNat : Int) = _
    rw [BitVec.toNat_xor, ofInt_u8 x (by omega), ofInt_u8 y (by omega), IntKind.wrap_u8]
    omega
  rw [e]
  refine ⟨by omega, by omega, fun h => h0 ?_⟩
  have h' : x ^^^ y = x := by omega
  have : x ^^^ (x ^^^ y) = x ^^^ x := by rw [h']
  rw [← Nat.xor_assoc, Nat.xor_self, Nat.zero_xor] at this
  omega
end Go.Proofs.YtahbhhenobehfaaGreatDoor
namespace Go.Proofs.YtahbhhenobehfaaGreatDoor
open Go.RowKit

theorem cutL_split {x p r : List UInt8} (h : cutL x = some (p, r)) : x = frameL p ++ r := by
  have e := cutL_take h
  have hr : r = x.drop (6 + p.length) := by
    have h0 := bt_bd x 0
    have h1 := bt_bd x 1
    have hl := cutL_rest h
    unfold cutL at h
    split at h
    · cases h
    · split at h
      · cases h
      · split at h
        · injection h with h
          injection h with hp hr
          have : p.length = (bt x 0 * 256 + bt x 1).toNat := by rw [← hp, List.length_take, List.length_drop]; omega
          rw [this]; exact hr.symm
        · cases h
  rw [e, hr]
  exact (List.take_append_drop _ x).symm
theorem scan_split : ∀ (n : Nat) (x : List UInt8), x.length ≤ n → x = allL (scanL x).1 ++ (scanL x).2
  | 0, x, hn => by
    have h : cutL x = none := cutL_short _ (by omega)
    rw [scanL_none h]; rfl
  | n + 1, x, hn => by
    cases h : cutL x with
    | none => rw [scanL_none h]; rfl
    | some q =>
      obtain ⟨p, r⟩ := q
      have hl := cutL_rest h
      rw [scanL_some h]
      have ih := scan_split n r (by omega)
      show x = (frameL p ++ allL (scanL r).1) ++ (scanL r).2
      rw [List.append_assoc, ← ih]
      exact cutL_split h
theorem kept_len (B : List UInt8) : kept B = (allL (scanL B).1).length := by
  have h := congrArg List.length (scan_split B.length B (Nat.le_refl _))
  rw [List.length_append] at h
  unfold kept
  omega
theorem kept_take (B : List UInt8) : B.take (kept B) = allL (scanL B).1 := by
  have h := scan_split B.length B (Nat.le_refl _)
  rw [kept_len]
  obtain ⟨A, eA⟩ : ∃ A, A = (scanL B).1 := ⟨_, rfl⟩
  rw [← eA] at h ⊢
  rw [h]
  exact List.take_left
theorem actB_eq (B s : List UInt8) : actB B s = allL ((scanL B).1 ++ [s]) := by
  unfold actB
  rw [kept_take, allL_append]
  simp [allL]
theorem scan_all : ∀ (ls : List (List UInt8)), (∀ p ∈ ls, p.length ≤ 60000) → scanL (allL ls) = (ls, [])
  | [], _ => by
    have : cutL (allL []) = none := cutL_short _ (by simp [allL])
    rw [scanL_none this]; rfl
  | p :: r, h => by
    show scanL (frameL p ++ allL r) = _
    rw [scanL_some (cutL_frame p _ (h p (by simp))), scan_all r fun q hq => h q (by simp [hq])]
theorem kept_all (ls : List (List UInt8)) (h : ∀ p ∈ ls, p.length ≤ 60000) : kept (allL ls) = (allL ls).length := by
  rw [kept_len, scan_all ls h]
theorem greatest (f : Nat → Nat) (c : Nat) (h0 : f 0 ≤ c) : ∀ n, ∃ m, m ≤ n ∧ f m ≤ c ∧ (m < n → c < f (m + 1))
  | 0 => ⟨0, Nat.le_refl _, h0, fun h => by omega⟩
  | n + 1 => by
    by_cases h : f (n + 1) ≤ c
    · exact ⟨n + 1, Nat.le_refl _, h, fun h => by omega⟩
    · obtain ⟨m, h1, h2, h3⟩ := greatest f c h0 n
      refine ⟨m, by omega, h2, fun hm => ?_⟩
      by_cases e : m = n
      · subst e; omega
      · exact h3 (by omega)
/-- What is found in a journal cut at c: its first m payloads, with all whose frames end at or ahead of c. -/
theorem scan_cut (ls : List (List UInt8)) (c : Nat) (h : ∀ p ∈ ls, p.length ≤ 60000) (hc : c ≤ (allL ls).length) :
    ∃ m, m ≤ ls.length ∧ (scanL ((allL ls).take c)).1 = ls.take m ∧ ∀ i, i ≤ ls.length → (allL (ls.take i)).length ≤ c → i ≤ m := by
  obtain ⟨m, h1, h2, h3⟩ := greatest (fun i => (allL (ls.take i)).length) c (by simp [allL]) ls.length
  refine ⟨m, h1, torn ls c m h h1 h2 h3 hc, fun i hi hic => ?_⟩
  rcases Nat.lt_or_ge m i with hm | hm
  · have := h3 (by omega)
    have := allL_mono ls (m + 1) i (by omega)
    omega
  · exact hm
end Go.Proofs.YtahbhhenobehfaaGreatDoor
