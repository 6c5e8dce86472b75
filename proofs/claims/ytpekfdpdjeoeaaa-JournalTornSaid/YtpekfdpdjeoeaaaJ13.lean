/-
  The law JournalTorn, every argument: the walk without a payload, and the cases together.
-/
import Derived.Test.YtpekfdpdjeoeaaaRows
import Derived.Test.YtpekfdpdjeoeaaaJ11
import Derived.WalkKit
import Derived.ProofKit
import Derived.OpenShut
import Derived.Outline
namespace Go.Proofs.Ytpekfdpdjeoeaaa
open Go.ChangeShapes Go.WideShapes Go.ChangeAt Go.RowKit

theorem scan_empty : (scanL ([] : List UInt8)).1 = [] ∧ (scanL ([] : List UInt8)).2 = [] := by
  have : cutL ([] : List UInt8) = none := by unfold cutL; rw [if_pos (by simp)]
  rw [scanL_none this]; exact ⟨rfl, rfl⟩

set_option maxRecDepth 20000 in
set_option maxHeartbeats 4000000 in
theorem torn_none (cut at' ch : Int) (w : World) : Calls Try.prog 4 #[.slice none 0 0, .int .i64 cut, .int .i64 at', .int .u8 ch] w fun e w' => e = .returned (.bool true) ∧ Below w.heap.size w w' := by
  go_enter Try.func4, Try.ntmps4
  go_wp2
  go_loopw [9, 10, 11, 12, 13, 25] (fun all whole _ _ _ i wr => i = .int .i64 0 ∧ all = .string ⟨([] : List UInt8).toArray⟩ ∧ whole = .int .i64 0 ∧ Below w.heap.size w wr) (fun _ _ _ _ _ i _ => 0)
  case atStart => exact ⟨rfl, rfl, rfl, Below.refl _ _⟩
  case round =>
    obtain ⟨rfl, rfl, rfl, hb⟩ := hrel
    have hz0 : (ByteArray.mk ([] : List UInt8).toArray).size = 0 := rfl
    by_cases hc0 : cut < 0
    · go_wp2_with fail
      refine (awake_any _).mono ?_
      rintro e wz ⟨rfl, bz⟩
      have bz : Below w.heap.size w wz := hb.trans (bz.mono hb.size)
      clear hb
      go_wp2
      go_ret
      exact ⟨rfl, bz⟩

    by_cases hc1 : 0 < cut
    · go_wp2_with fail
      refine (awake_any _).mono ?_
      rintro e wz ⟨rfl, bz⟩
      have bz : Below w.heap.size w wz := hb.trans (bz.mono hb.size)
      clear hb
      go_wp2
      go_ret
      exact ⟨rfl, bz⟩

    obtain rfl : cut = 0 := by omega
    have hcr := cut_run ([] : List UInt8) 0 0 rfl (Nat.le_refl _)
    set_option maxRecDepth 20000 in go_wp2_with fail
    refine (Scan_any ⟨(([] : List UInt8).take 0).toArray⟩ _ (by simp [ByteArray.size])).mono ?_
    rintro e w1 ⟨v, rfl, own1, o1⟩
    rw [show (ByteArray.mk (([] : List UInt8).take 0).toArray).data.toList = [] from rfl] at own1 ⊢
    rw [scan_empty.1] at own1
    rw [scan_empty.2]
    have b1 := hb.trans (o1.mono hb.size)
    obtain ⟨ad1, cap1, rfl, r1⟩ := RowS.ofOwn own1
    clear own1 o1 hb
    rw [show ([] : List (List UInt8)).length = 0 from rfl]
    set_option maxRecDepth 20000 in go_wp2_with fail
    refine (strings_any _ _ 0 _ _ [] _ (by omega) rfl (fun i hi => by simp at hi) (fun i hi => by simp at hi)).mono ?_
    rintro e w2 ⟨rfl, o2⟩
    have b2 := b1.trans (o2.mono b1.size)
    clear b1 o2 hcr
    by_cases hch : ch = 0
    · subst hch; go_wp2_with fail
      refine (awake_any _).mono ?_
      rintro e wz ⟨rfl, bz⟩
      have bz : Below w.heap.size w wz := b2.trans (bz.mono b2.size)
      clear b2
      go_wp2
      go_ret
      exact ⟨rfl, bz⟩

    have hch' : (ch == 0) = false := by simpa using hch
    by_cases hat : at' < 0
    all_goals
      go_wp2_with fail
      refine (awake_any _).mono ?_
      rintro e wz ⟨rfl, bz⟩
      have bz : Below w.heap.size w wz := b2.trans (bz.mono b2.size)
      clear b2
      go_wp2
      go_ret
      exact ⟨rfl, bz⟩

set_option maxRecDepth 20000 in
set_option maxHeartbeats 4000000 in
theorem torn_zero (ad : Addr) (cap : Nat) (cut at' ch : Int) (w : World) : Calls Try.prog 4 #[.slice (some ad) 0 cap, .int .i64 cut, .int .i64 at', .int .u8 ch] w fun e w' => e = .returned (.bool true) ∧ Below w.heap.size w w' := by
  go_enter Try.func4, Try.ntmps4
  go_wp2
  go_loopw [9, 10, 11, 12, 13, 25] (fun all whole _ _ _ i wr => i = .int .i64 0 ∧ all = .string ⟨([] : List UInt8).toArray⟩ ∧ whole = .int .i64 0 ∧ Below w.heap.size w wr) (fun _ _ _ _ _ i _ => 0)
  case atStart => exact ⟨rfl, rfl, rfl, Below.refl _ _⟩
  case round =>
    obtain ⟨rfl, rfl, rfl, hb⟩ := hrel
    have hz0 : (ByteArray.mk ([] : List UInt8).toArray).size = 0 := rfl
    by_cases hc0 : cut < 0
    · go_wp2_with fail
      refine (awake_any _).mono ?_
      rintro e wz ⟨rfl, bz⟩
      have bz : Below w.heap.size w wz := hb.trans (bz.mono hb.size)
      clear hb
      go_wp2
      go_ret
      exact ⟨rfl, bz⟩

    by_cases hc1 : 0 < cut
    · go_wp2_with fail
      refine (awake_any _).mono ?_
      rintro e wz ⟨rfl, bz⟩
      have bz : Below w.heap.size w wz := hb.trans (bz.mono hb.size)
      clear hb
      go_wp2
      go_ret
      exact ⟨rfl, bz⟩

    obtain rfl : cut = 0 := by omega
    have hcr := cut_run ([] : List UInt8) 0 0 rfl (Nat.le_refl _)
    set_option maxRecDepth 20000 in go_wp2_with fail
    refine (Scan_any ⟨(([] : List UInt8).take 0).toArray⟩ _ (by simp [ByteArray.size])).mono ?_
    rintro e w1 ⟨v, rfl, own1, o1⟩
    rw [show (ByteArray.mk (([] : List UInt8).take 0).toArray).data.toList = [] from rfl] at own1 ⊢
    rw [scan_empty.1] at own1
    rw [scan_empty.2]
    have b1 := hb.trans (o1.mono hb.size)
    obtain ⟨ad1, cap1, rfl, r1⟩ := RowS.ofOwn own1
    clear own1 o1 hb
    rw [show ([] : List (List UInt8)).length = 0 from rfl]
    set_option maxRecDepth 20000 in go_wp2_with fail
    refine (strings_any _ _ 0 _ _ [] _ (by omega) rfl (fun i hi => by simp at hi) (fun i hi => by simp at hi)).mono ?_
    rintro e w2 ⟨rfl, o2⟩
    have b2 := b1.trans (o2.mono b1.size)
    clear b1 o2 hcr
    by_cases hch : ch = 0
    · subst hch; go_wp2_with fail
      refine (awake_any _).mono ?_
      rintro e wz ⟨rfl, bz⟩
      have bz : Below w.heap.size w wz := b2.trans (bz.mono b2.size)
      clear b2
      go_wp2
      go_ret
      exact ⟨rfl, bz⟩

    have hch' : (ch == 0) = false := by simpa using hch
    by_cases hat : at' < 0
    all_goals
      go_wp2_with fail
      refine (awake_any _).mono ?_
      rintro e wz ⟨rfl, bz⟩
      have bz : Below w.heap.size w wz := b2.trans (bz.mono b2.size)
      clear b2
      go_wp2
      go_ret
      exact ⟨rfl, bz⟩

/-- What came in: a slice of strings, nil or with its cells. -/
def StrsAt (w : World) (a : Option Addr) (n cap : Nat) (ls : List (List UInt8)) : Prop := ls.length = n ∧ n ≤ cap ∧ (cap : Int) ≤ 9223372036854775807 ∧ RowS w a ls ∧ ((a = none ∧ n = 0 ∧ cap = 0) ∨ a ≠ none)
theorem torn_any (a : Option Addr) (n cap : Nat) (cut at' ch : Int) (ls : List (List UInt8)) (w : World) (h : StrsAt w a n cap ls) (hch : 0 ≤ ch ∧ ch ≤ 255) : Calls Try.prog 4 #[.slice a n cap, .int .i64 cut, .int .i64 at', .int .u8 ch] w fun e w' => e = .returned (.bool true) ∧ Below w.heap.size w w' := by
  obtain ⟨h1, h2, h3, h4, h5⟩ := h
  by_cases hn : 30 < n
  · exact torn_many a n cap cut at' ch w hn (by omega)
  · rcases h5 with ⟨rfl, rfl, rfl⟩ | h5
    · exact torn_none cut at' ch w
    · by_cases h0 : n = 0
      · subst h0
        cases a with
        | none => exact absurd rfl h5
        | some ad => exact torn_zero ad cap cut at' ch w
      · obtain ⟨b, o, rfl⟩ := h4.head (by omega)
        exact torn_some b o n ls cap cut at' ch w (by omega) hch (by omega) h2 h3 (hid h1) h4
end Go.Proofs.Ytpekfdpdjeoeaaa
