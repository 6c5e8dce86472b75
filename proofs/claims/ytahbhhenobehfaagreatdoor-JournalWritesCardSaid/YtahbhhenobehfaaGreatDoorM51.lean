/-
  What the law JournalWrites needs of plain mathematics: journals of short payloads, what a Write and a Recover leave.
  The walks of parts, Small and SmallTerms: they come to an end, whatever they answer.
-/
import Derived.Test.YtahbhhenobehfaaGreatDoorNU25
import Derived.Test.YtahbhhenobehfaaGreatDoorNU29
import Derived.Test.YtahbhhenobehfaaGreatDoorNU32
import Derived.Test.YtahbhhenobehfaaGreatDoorNT4
import Derived.Test.YtahbhhenobehfaaGreatDoorM9
namespace Go.Proofs.YtahbhhenobehfaaGreatDoor
open Go.ChangeShapes Go.WideShapes Go.ChangeAt Go.RowKit

theorem RecovR.same {l : List (List UInt8)} {x y : Rec} {g h : Int} (a : RecovR l x g) (b : RecovR l y h) : g = h ∧ x = y := by
  rcases a.2 with ⟨rfl, fx, px⟩ | ⟨hg, eg, ex⟩
  · obtain ⟨e1, e2⟩ := b.1 x fx px
    exact ⟨e1.symm, e2.symm⟩
  · rcases b.2 with ⟨rfl, fy, py⟩ | ⟨_, eh, ey⟩
    · exact absurd (a.1 y fy py).1 hg
    · exact ⟨eg.trans eh.symm, ex.trans ey.symm⟩
theorem FineR.ground {x : Rec} (h : FineR x) : ∀ y ∈ x.rounds, ∀ t ∈ y.joint, groundB 4 t = true := fun y hy => by
  have h2 := h.parts.2.2.2.2.2.1 y hy
  unfold roundB at h2
  simp only [Bool.and_eq_true, decide_eq_true_eq] at h2
  exact List.all_eq_true.1 h2.2.2.2
theorem RecovR.ground {l : List (List UInt8)} {x : Rec} {g : Int} (a : RecovR l x g) : ∀ y ∈ x.rounds, ∀ t ∈ y.joint, groundB 4 t = true := by
  rcases a.2 with ⟨_, fx, _⟩ | ⟨_, _, rfl⟩
  · exact fx.ground
  · exact fun y hy => nomatch hy
theorem pays_shorter {r : Rec} (h : wfB r = true) (hs : 0 ≤ r.seed ∧ r.seed ≤ 18446744073709551615) (ht : r.text.size ≤ 500) : ∀ p ∈ payL r, p.length ≤ 52000 := by
  have hf := fine_of h hs
  obtain ⟨h1, h2, h3, h4, h5⟩ := wfB_parts h
  rw [List.all_eq_true] at h3
  have hn : r.name.size ≤ 16 := by
    unfold headB at h1
    simp only [Bool.and_eq_true] at h1
    have := nameB_len h1.1
    rwa [blen] at this
  unfold tailB at h4
  simp only [Bool.and_eq_true, decide_eq_true_eq] at h4
  intro p hp
  unfold payL at hp
  rw [List.mem_cons, List.mem_append, List.mem_map] at hp
  rcases hp with rfl | ⟨x, hx, rfl⟩ | hp
  · have q1 := numT_len20 r.seed hs.1 hs.2
    have q2 := numT_len20 r.start hf.start.1 (by have := hf.start.2; omega)
    have q3 := numT_len20 r.clock hf.clock.1 (by have := hf.clock.2; omega)
    have q4 := recL_len r.text.data.toList
    rw [blen] at q4
    have q5 : r.name.data.toList.length = r.name.size := blen _
    unfold payHead
    simp only [List.length_append, List.length_cons, List.length_nil]
    omega
  · have q1 := recL_len (termsL x.joint)
    have q2 := termsL_len (h3 x hx)
    have q3 := listL_len x.faults [] (hf.faults x hx).2
    have q4 : x.faults.length ≤ 4 := by
      have := h3 x hx
      unfold roundB at this
      simp only [Bool.and_eq_true, decide_eq_true_eq] at this
      exact this.2.1
    have q5 : x.faults.length * (20 + ([] : List UInt8).length) ≤ 4 * 20 := Nat.mul_le_mul q4 (by simp)
    unfold payRound
    simp only [List.length_append, List.length_cons, List.length_nil]
    omega
  · split at hp
    · simp only [List.mem_singleton] at hp
      subst hp
      have q3 := listL_len r.goals [44] hf.goals.2
      have q5 : r.goals.length * (20 + ([44] : List UInt8).length) ≤ 4 * 21 := Nat.mul_le_mul h4.1 (by simp)
      unfold payOver
      simp only [List.length_append, List.length_cons, List.length_nil]
      omega
    · simp at hp
theorem allL_lenM (M : Nat) (ls : List (List UInt8)) (h : ∀ p ∈ ls, p.length ≤ M) : (allL ls).length ≤ ls.length * (M + 6) := by
  induction ls with
  | nil => simp [allL]
  | cons p r ih =>
    have := ih fun q hq => h q (by simp [hq])
    have hp := h p (by simp)
    show (frameL p ++ allL r).length ≤ _
    rw [List.length_append, frameL_length, List.length_cons, Nat.add_one_mul]
    omega
/-- The bytes behind the first q appends of was. -/
def WasInv (was : List (List UInt8)) (q : Nat) (B : List UInt8) : Prop := B = allL (was.take q) ∧ (scanL B).1 = was.take q ∧ ∀ p ∈ was.take q, p.length ≤ 300
theorem WasInv.zero (was : List (List UInt8)) : WasInv was 0 [] := ⟨rfl, by rw [List.take_zero, show ([] : List UInt8) = allL [] from rfl, scan_all [] (by simp)], by simp⟩
theorem WasInv.step {was : List (List UInt8)} {q : Nat} {B : List UInt8} (h : WasInv was q B) (hq : q < was.length) (hs : was[q].length ≤ 300) : WasInv was (q + 1) (actB B was[q]) := by
  obtain ⟨_, h2, h3⟩ := h
  have e : actB B was[q] = allL (was.take (q + 1)) := by rw [actB_eq, h2, List.take_succ_eq_append_getElem hq]
  have h4 : ∀ p ∈ was.take (q + 1), p.length ≤ 300 := fun p hp => by
    rw [List.take_succ_eq_append_getElem hq, List.mem_append, List.mem_singleton] at hp
    rcases hp with hp | rfl
    · exact h3 p hp
    · exact hs
  exact ⟨e, by rw [e, scan_all _ (fun p hp => by have := h4 p hp; omega)], h4⟩
theorem WasInv.len {was : List (List UInt8)} {q : Nat} {B : List UInt8} (h : WasInv was q B) (hq : q ≤ 30) : B.length ≤ 9180 := by
  have := allL_lenM 300 _ h.2.2
  rw [← h.1] at this
  have h2 : (was.take q).length ≤ 30 := by rw [List.length_take]; omega
  have := Nat.mul_le_mul_right 306 h2
  omega
theorem wf_rounds {r : Rec} (h : wfB r = true) : r.rounds.length ≤ 65 := by
  have h1 := (wfB_parts h).1
  unfold headB at h1
  simp only [Bool.and_eq_true, decide_eq_true_eq] at h1
  exact h1.2.2.2.2
theorem wrFit {was : List (List UInt8)} {q : Nat} {B : List UInt8} {r : Rec} (h : WasInv was q B) (hq : q ≤ 30) (hs : 0 ≤ r.seed ∧ r.seed ≤ 18446744073709551615) (ht : r.text.size ≤ 500) : WrFit B r :=
  ⟨by have := h.len hq; omega, by rw [h.2.1, List.length_take]; omega, hs, fun hw p hp => by have := pays_shorter hw hs ht p hp; omega, fun hw => by
    have h1 := allL_lenM 52000 _ (pays_shorter hw hs ht)
    have h2 := payL_len2 r
    have h3 := wf_rounds hw
    have h4 : (payL r).length ≤ 67 := by omega
    have := Nat.mul_le_mul_right 52006 h4
    omega⟩
theorem wr_short {was : List (List UInt8)} {q : Nat} {B B' : List UInt8} {r : Rec} {g : Int} (h : WasInv was q B) (hq : q ≤ 30) (hs : 0 ≤ r.seed ∧ r.seed ≤ 18446744073709551615) (ht : r.text.size ≤ 500) (hw : WrSaid B r g B') : ShortL (scanL B').1 ∧ B'.length ≤ 4000000 ∧ (g = 0 → FineR r ∧ (scanL B').1 = payL r) := by
  have hB := h.len hq
  have hsame : ShortL (scanL B).1 := by
    rw [h.2.1]
    exact ⟨by rw [List.length_take]; omega, fun p hp => by have := h.2.2 p hp; omega, Or.inl fun p hp => by have := h.2.2 p hp; omega⟩
  rcases hw with ⟨_, e1, rfl⟩ | ⟨_, _, e1, rfl⟩ | ⟨a1, _, _, a3, _, a5⟩
  · exact ⟨hsame, by omega, fun e => by omega⟩
  · exact ⟨hsame, by omega, fun e => by omega⟩
  · refine ⟨?_, a5, fun _ => ⟨⟨a1, hs⟩, a3⟩⟩
    rw [a3]
    have h2 := payL_len2 r
    have h3 := wf_rounds a1
    exact ⟨by omega, fun p hp => by have := pays_shorter a1 hs ht p hp; omega, Or.inr ⟨r, ⟨a1, hs⟩, rfl⟩⟩
end Go.Proofs.YtahbhhenobehfaaGreatDoor
namespace Go.Proofs.YtahbhhenobehfaaGreatDoor
open Go.ChangeShapes Go.WideShapes Go.ChangeAt Go.RowKit

def SomeInt (w : World) (e : Ending) (w' : World) : Prop := (∃ k : Int, e = .returned (.int .i64 k)) ∧ Below w.heap.size w w'
def SomeBool (w : World) (e : Ending) (w' : World) : Prop := (∃ b : Bool, e = .returned (.bool b)) ∧ Below w.heap.size w w'
theorem parts_zero (n : ByteArray) (ad : Option Addr) (m cap : Nat) (w : World) :
    Calls Tryz.prog 77 #[.agg #[.string n, .slice ad m cap], .int .i64 20, .int .i64 0] w (SomeInt w) := by
  have b0 : Below w.heap.size w (w.alloc (.cells #[.string n, .slice ad m cap] 76)) := (Below.refl _ _).alloc (Nat.le_refl _) _
  go_enter Tryz.func77, Tryz.ntmps77
  go_wp2
  go_ret
  exact ⟨⟨_, rfl⟩, b0⟩
set_option maxRecDepth 20000 in
set_option maxHeartbeats 4000000 in
theorem parts_any : ∀ (K : Nat) (n : ByteArray) (ad : Option Addr) (m cap : Nat) (l : List Tm) (w : World), K ≤ 20 → TmsAt w ad m cap l →
    Calls Tryz.prog 77 #[.agg #[.string n, .slice ad m cap], .int .i64 20, .int .i64 K] w (SomeInt w)
  | 0, n, ad, m, cap, l, w, _, _ => parts_zero n ad m cap w
  | K + 1, n, ad, m, cap, l, w, hK, h => by
    have ih := hid (parts_any K)
    have hl := hid h.len
    have hle := h.le
    have hmx := h.max
    have hK0 : (0 : Int) ≤ K := by omega
    have hK1 : (K : Int) ≤ 20 := by omega
    have hK2 : ¬ (K : Int) + 1 < 1 := by omega
    have hKs : IntKind.wrap .i64 ((K : Int) + 1 - 1) = K := by rw [IntKind.wrap_i64]; omega
    have hKs2 : (K : Int) + 1 - 1 = K := by omega
    have hKs3 : IntKind.wrap .i64 (K : Int) = K := by rw [IntKind.wrap_i64]; omega
    rw [show ((K + 1 : Nat) : Int) = (K : Int) + 1 by omega]
    have b0 : Below w.heap.size w (w.alloc (.cells #[.string n, .slice ad m cap] 76)) := (Below.refl _ _).alloc (Nat.le_refl _) _
    have H0 : Has (w.alloc (.cells #[.string n, .slice ad m cap] 76)) w.heap.size #[.string n, .slice ad m cap] 76 := Has.new _ _ _
    go_enter Tryz.func77, Tryz.ntmps77
    go_wp2
    obtain ⟨w0, ew0⟩ : ∃ w0, w0 = w.alloc (.cells #[.string n, .slice ad m cap] 76) := ⟨_, rfl⟩
    rw [← ew0] at b0 H0
    rw [← ew0]
    have hz : w.heap.size < w0.heap.size := H0.lt
    clear ew0
    go_loopw [7, 16] (fun u i wr => ∃ (k : Nat) (c : Int), k ≤ m ∧ i = .int .i64 k ∧ u = .int .i64 c ∧ Below w0.heap.size w0 wr) (fun _ i _ => m - (intOf i).toNat)
    case atStart => exact ⟨0, 1, Nat.zero_le _, rfl, rfl, Below.refl _ _⟩
    case round =>
      obtain ⟨k, c, hk, rfl, rfl, hb⟩ := hrel
      have hbT := b0.trans (hb.mono b0.size)
      by_cases hlt : k < m
      · by_cases hc : (20 : Int) < c
        · have hb' := hid hbT
          have hk0 : (0 : Int) ≤ k := by omega
          have hkn : (k : Int) < m := by omega
          clear hb hbT h H0 b0
          go_wp2
          go_ret
          exact ⟨⟨_, rfl⟩, hb'.out⟩
        · have hw := h.below hbT (Nat.le_refl _)
          obtain ⟨b, o, rfl⟩ := hw.head (by omega)
          obtain ⟨n2, l2, ad2, m2, cap2, et, _, c0, c1, h2⟩ := hw.at' k (by rw [hl.out]; exact hlt)
          have hk0 : (0 : Int) ≤ k := by omega
          have hkn : (k : Int) < m := by omega
          have bs := hb.size
          have cA : wr.cell? ⟨w.heap.size, 1, none⟩ = some (.slice (some ⟨b, o, none⟩) m cap) := (hb.cell (p := ⟨w.heap.size, 1, none⟩) hz).trans (H0.cell (j := 1) rfl)
          clear et hw hbT
          go_wp2_with fail
          refine (ih.out n2 ad2 m2 cap2 l2 _ (by omega) h2).mono ?_
          rintro e w3 ⟨⟨d, rfl⟩, o3⟩
          have hb3 := hid (hb.trans (o3.mono hb.size))
          clear o3 cA c0 c1 h2
          go_wp2
          go_roundw
          case rel => exact ⟨k + 1, _, by omega, by go_num, rfl, hb3.out⟩
          case measure => simp [intOf]; omega
      · obtain rfl : k = m := by omega
        have hb' := hid hbT
        clear hb hbT h H0 b0
        go_wp2
        go_ret
        exact ⟨⟨_, rfl⟩, hb'.out⟩
theorem small_any (n : ByteArray) (ad : Option Addr) (m cap : Nat) (l : List Tm) (w : World) (h : TmsAt w ad m cap l) :
    Calls Tryz.prog 40 #[.agg #[.string n, .slice ad m cap], .int .i64 20] w (SomeBool w) := by
  have b0 : Below w.heap.size w (w.alloc (.cells #[.string n, .slice ad m cap] 76)) := (Below.refl _ _).alloc (Nat.le_refl _) _
  have h0 := h.below b0 (Nat.le_refl _)
  have H0 : Has (w.alloc (.cells #[.string n, .slice ad m cap] 76)) w.heap.size #[.string n, .slice ad m cap] 76 := Has.new _ _ _
  have c0 := H0.cell (j := 0) rfl
  have c1 := H0.cell (j := 1) rfl
  have hP := hid (parts_any 20 n ad m cap l _ (Nat.le_refl _) h0)
  clear h h0 H0
  go_enter Tryz.func40, Tryz.ntmps40
  go_wp2_with fail
  refine hP.out.mono ?_
  rintro e w1 ⟨⟨k, rfl⟩, o1⟩
  have b1 := b0.trans (o1.mono b0.size)
  clear b0 o1 c0 c1
  go_wp2
  go_ret
  exact ⟨⟨_, rfl⟩, b1⟩
set_option maxRecDepth 20000 in
set_option maxHeartbeats 4000000 in
theorem smallterms_any (ad : Option Addr) (m cap : Nat) (l : List Tm) (w : World) (h : TmsAt w ad m cap l) :
    Calls Tryz.prog 16 #[.slice ad m cap, .int .i64 20] w (SomeBool w) := by
  have hl := hid h.len
  have hle := h.le
  have hmx := h.max
  by_cases h20 : (20 : Int) < m
  · clear h
    go_enter Tryz.func16, Tryz.ntmps16
    go_wp2
    go_ret
    exact ⟨⟨_, rfl⟩, Below.refl _ _⟩
  · go_enter Tryz.func16, Tryz.ntmps16
    go_wp2
    go_loopw [12] (fun i wr => ∃ (k : Nat), k ≤ m ∧ i = .int .i64 k ∧ Below w.heap.size w wr) (fun i _ => m - (intOf i).toNat)
    case atStart => exact ⟨0, Nat.zero_le _, rfl, Below.refl _ _⟩
    case round =>
      obtain ⟨k, hk, rfl, hb⟩ := hrel
      by_cases hlt : k < m
      · have hw := h.below hb (Nat.le_refl _)
        obtain ⟨b, o, rfl⟩ := hw.head (by omega)
        obtain ⟨n2, l2, ad2, m2, cap2, et, _, c0, c1, h2⟩ := hw.at' k (by rw [hl.out]; exact hlt)
        have hk0 : (0 : Int) ≤ k := by omega
        have hkn : (k : Int) < m := by omega
        clear et hw
        go_wp2_with fail
        refine (small_any n2 ad2 m2 cap2 l2 _ h2).mono ?_
        rintro e w3 ⟨⟨B, rfl⟩, o3⟩
        have hb3 := hid (hb.trans (o3.mono hb.size))
        clear o3 c0 c1 h2
        cases B
        · go_wp2
          go_ret
          exact ⟨⟨_, rfl⟩, hb3.out⟩
        · go_wp2
          go_roundw
          case rel => exact ⟨k + 1, by omega, by go_num, hb3.out⟩
          case measure => simp [intOf]; omega
      · obtain rfl : k = m := by omega
        have hb' := hid hb
        clear hb h
        go_wp2
        go_ret
        exact ⟨⟨_, rfl⟩, hb'.out⟩
end Go.Proofs.YtahbhhenobehfaaGreatDoor
