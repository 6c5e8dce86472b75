/-
  The plain mathematics of package journal: checksums, frames, and the frames that stand at the beginning of bytes. No program in sight.
-/
import GoSem.Claim
import Derived.WalkKit
import Derived.OpenShut
namespace Go.Proofs.YtahbhhenobehfaaGreatDoor
open Go.RowKit

/-- The checksum (FNV-1a with 32 bits). -/
def hashStep (h b : Int) : Int := IntKind.u32.wrap (bits BinOp.xor IntKind.u32 h b * 16777619)
def hash (h : Int) : List UInt8 → Int
  | [] => h
  | b :: r => hash (hashStep h b.toNat) r
def sum32 (l : List UInt8) : Int := hash 2166136261 l
theorem wrap_u32' (n : Int) : IntKind.u32.wrap n = n % 4294967296 := by rw [IntKind.wrap_u32]
theorem wrap_u8' (n : Int) : IntKind.u8.wrap n = n % 256 := by rw [IntKind.wrap_u8]
theorem hash_bd : ∀ (l : List UInt8) (h : Int), 0 ≤ h ∧ h ≤ 4294967295 → 0 ≤ hash h l ∧ hash h l ≤ 4294967295
  | [], _, hh => hh
  | b :: r, h, _ => by
    rw [hash]
    exact hash_bd r _ (by unfold hashStep; rw [wrap_u32']; omega)
theorem sum32_bd (l : List UInt8) : 0 ≤ sum32 l ∧ sum32 l ≤ 4294967295 := hash_bd l _ (by omega)
theorem u32_byte (b : UInt8) : IntKind.u32.wrap (b.toNat : Int) = b.toNat := IntWalk.u32_in _ (by have := b.toNat_lt; omega)
theorem hash_snoc (l : List UInt8) (b : UInt8) : ∀ h, hash h (l ++ [b]) = hashStep (hash h l) b.toNat := by
  induction l with
  | nil => intro h; rfl
  | cons x r ih => intro h; exact ih _
theorem hash_take (s : ByteArray) (k : Nat) (hk : k < s.size) (h : Int) : hash h (s.data.toList.take (k + 1)) = bits BinOp.xor IntKind.u32 (hash h (s.data.toList.take k)) ((s[k].toNat : Int) % 4294967296) * 16777619 % 4294967296 := by
  rw [List.take_succ_eq_append_getElem (by simpa using hk), hash_snoc, ← wrap_u32', ← wrap_u32', u32_byte]; rfl

/-- A byte of a number. -/
def byte (n : Int) : UInt8 := UInt8.ofNat (n % 256).toNat
theorem byte_toNat (n : Int) : ((byte n).toNat : Int) = n % 256 := by
  unfold byte
  rw [UInt8.toNat_ofNat']
  omega
/-- The head of a frame, and the frame. -/
def headL (l : List UInt8) : List UInt8 := [byte ((l.length : Int) / 256), byte l.length, byte (sum32 l / 16777216), byte (sum32 l / 65536), byte (sum32 l / 256), byte (sum32 l)]
def frameL (l : List UInt8) : List UInt8 := headL l ++ l
theorem headL_length (l : List UInt8) : (headL l).length = 6 := rfl
theorem frameL_length (l : List UInt8) : (frameL l).length = l.length + 6 := by simp [frameL, headL_length]; omega

/-- A byte as a number; the payload of the whole frame at the beginning, and the rest. -/
def bt (l : List UInt8) (i : Nat) : Int := ((l.getD i 0).toNat : Int)
def cutL (l : List UInt8) : Option (List UInt8 × List UInt8) :=
  if l.length < 6 then none
  else if (l.length : Int) < 6 + (bt l 0 * 256 + bt l 1) then none
  else if sum32 ((l.drop 6).take (bt l 0 * 256 + bt l 1).toNat) = bt l 2 * 16777216 + bt l 3 * 65536 + bt l 4 * 256 + bt l 5 then
    some ((l.drop 6).take (bt l 0 * 256 + bt l 1).toNat, l.drop (6 + (bt l 0 * 256 + bt l 1).toNat))
  else none
theorem bt_bd (l : List UInt8) (i : Nat) : 0 ≤ bt l i ∧ bt l i ≤ 255 := by
  unfold bt
  have := (l.getD i 0).toNat_lt
  omega
/-- The payloads of the whole frames at the beginning, and what is left (the number bounds how many are looked for). -/
def scanN : Nat → List UInt8 → List (List UInt8) × List UInt8
  | 0, l => ([], l)
  | n + 1, l => match cutL l with
    | none => ([], l)
    | some (p, r) => (p :: (scanN n r).1, (scanN n r).2)
def scanL (l : List UInt8) : List (List UInt8) × List UInt8 := scanN l.length l
theorem cutL_rest {l p r : List UInt8} (h : cutL l = some (p, r)) : r.length + 6 + p.length = l.length ∧ p.length ≤ 65535 := by
  unfold cutL at h
  have h0 := bt_bd l 0
  have h1 := bt_bd l 1
  split at h
  · cases h
  · split at h
    · cases h
    · split at h
      · injection h with h
        injection h with hp hr
        subst hp hr
        simp only [List.length_take, List.length_drop]
        omega
      · cases h
theorem scanN_more : ∀ (n m : Nat) (l : List UInt8), l.length ≤ n → l.length ≤ m → scanN n l = scanN m l
  | 0, 0, _, _, _ => rfl
  | 0, m + 1, l, h, _ => by
    have : cutL l = none := by unfold cutL; rw [if_pos (by omega)]
    simp [scanN, this]
  | n + 1, 0, l, _, h => by
    have : cutL l = none := by unfold cutL; rw [if_pos (by omega)]
    simp [scanN, this]
  | n + 1, m + 1, l, h1, h2 => by
    cases hc : cutL l with
    | none => simp [scanN, hc]
    | some x =>
      obtain ⟨p, r⟩ := x
      have := cutL_rest hc
      simp only [scanN, hc]
      rw [scanN_more n m r (by omega) (by omega)]
theorem scanL_none {l : List UInt8} (h : cutL l = none) : scanL l = ([], l) := by
  unfold scanL
  cases hl : l.length with
  | zero => rfl
  | succ n => simp [scanN, h]
theorem scanL_some {l p r : List UInt8} (h : cutL l = some (p, r)) : scanL l = (p :: (scanL r).1, (scanL r).2) := by
  have hr := cutL_rest h
  unfold scanL
  obtain ⟨n, hn⟩ : ∃ n, l.length = n + 1 := ⟨l.length - 1, by omega⟩
  rw [hn]
  simp only [scanN, h]
  rw [scanN_more n r.length r (by omega) (Nat.le_refl _)]
theorem u8_ext {a b : UInt8} (h : (a.toNat : Int) = b.toNat) : a = b := UInt8.toNat_inj.1 (by omega)
/-- The frame of the payload stands there exactly if its checksum does. -/
theorem frame_iff (x0 x1 x2 x3 x4 x5 : UInt8) (rest : List UInt8) (n : Nat) (hn : (n : Int) = (x0.toNat : Int) * 256 + x1.toNat) (hl : n ≤ rest.length) :
    frameL (rest.take n) = x0 :: x1 :: x2 :: x3 :: x4 :: x5 :: rest.take n ↔ sum32 (rest.take n) = (x2.toNat : Int) * 16777216 + (x3.toNat : Int) * 65536 + (x4.toNat : Int) * 256 + x5.toNat := by
  have hlen : ((rest.take n).length : Int) = n := by rw [List.length_take]; omega
  have hb := sum32_bd (rest.take n)
  have b0 := x0.toNat_lt
  have b1 := x1.toNat_lt
  have b2 := x2.toNat_lt
  have b3 := x3.toNat_lt
  have b4 := x4.toNat_lt
  have b5 := x5.toNat_lt
  unfold frameL headL
  rw [hlen]
  generalize hs : sum32 (rest.take n) = S at *
  simp only [List.cons_append, List.nil_append, List.cons.injEq, and_true]
  constructor
  · rintro ⟨_, _, h2, h3, h4, h5⟩
    have e2 := byte_toNat (S / 16777216)
    have e3 := byte_toNat (S / 65536)
    have e4 := byte_toNat (S / 256)
    have e5 := byte_toNat S
    rw [h2] at e2
    rw [h3] at e3
    rw [h4] at e4
    rw [h5] at e5
    omega
  · intro h
    refine ⟨u8_ext ?_, u8_ext ?_, u8_ext ?_, u8_ext ?_, u8_ext ?_, u8_ext ?_⟩ <;> rw [byte_toNat] <;> omega
theorem six (x : List UInt8) (h : 6 ≤ x.length) : ∃ x0 x1 x2 x3 x4 x5 rest, x = x0 :: x1 :: x2 :: x3 :: x4 :: x5 :: rest := by
  rcases x with _ | ⟨x0, x⟩
  · simp at h
  rcases x with _ | ⟨x1, x⟩
  · simp at h
  rcases x with _ | ⟨x2, x⟩
  · simp at h
  rcases x with _ | ⟨x3, x⟩
  · simp at h
  rcases x with _ | ⟨x4, x⟩
  · simp at h
  rcases x with _ | ⟨x5, x⟩
  · simp at h
  exact ⟨x0, x1, x2, x3, x4, x5, x, rfl⟩
theorem frame_cut (x : List UInt8) (n : Nat) (hn : (n : Int) = bt x 0 * 256 + bt x 1) (hl : 6 + n ≤ x.length) :
    frameL ((x.drop 6).take n) = x.take (6 + n) ↔ sum32 ((x.drop 6).take n) = bt x 2 * 16777216 + bt x 3 * 65536 + bt x 4 * 256 + bt x 5 := by
  obtain ⟨x0, x1, x2, x3, x4, x5, rest, rfl⟩ := six x (by omega)
  have e : (x0 :: x1 :: x2 :: x3 :: x4 :: x5 :: rest).take (6 + n) = x0 :: x1 :: x2 :: x3 :: x4 :: x5 :: rest.take n := by
    rw [show 6 + n = n + 1 + 1 + 1 + 1 + 1 + 1 from by omega]
    simp only [List.take_succ_cons]
  rw [e]
  exact frame_iff x0 x1 x2 x3 x4 x5 rest n hn (by simp only [List.length_cons] at hl; omega)
/-- What cutL says, by the frame. -/
theorem cutL_of (x : List UInt8) (n : Nat) (hn : (n : Int) = bt x 0 * 256 + bt x 1) (hl : 6 + n ≤ x.length) :
    cutL x = if frameL ((x.drop 6).take n) = x.take (6 + n) then some ((x.drop 6).take n, x.drop (6 + n)) else none := by
  have e : (bt x 0 * 256 + bt x 1).toNat = n := by omega
  unfold cutL
  rw [if_neg (by omega), if_neg (by omega), e]
  by_cases h : frameL ((x.drop 6).take n) = x.take (6 + n)
  · rw [if_pos h, if_pos ((frame_cut x n hn hl).1 h)]
  · rw [if_neg h, if_neg (fun hs => h ((frame_cut x n hn hl).2 hs))]
theorem cutL_short (x : List UInt8) (h : x.length < 6) : cutL x = none := by unfold cutL; rw [if_pos h]
theorem cutL_torn (x : List UInt8) (n : Nat) (hn : (n : Int) = bt x 0 * 256 + bt x 1) (h : x.length < 6 + n) : cutL x = none := by
  unfold cutL
  by_cases h6 : x.length < 6
  · rw [if_pos h6]
  · rw [if_neg h6, if_pos (by omega)]
end Go.Proofs.YtahbhhenobehfaaGreatDoor
