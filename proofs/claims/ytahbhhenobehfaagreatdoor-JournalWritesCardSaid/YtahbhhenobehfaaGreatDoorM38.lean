/-
  What is read of a record when some of its payloads are read. No program in sight.
  The walk of roundly of the reference.
-/
import Derived.Test.YtahbhhenobehfaaGreatDoorNU23
import Derived.Test.YtahbhhenobehfaaGreatDoorM20
namespace Go.Proofs.YtahbhhenobehfaaGreatDoor
open Go.RowKit

/-- A well-formed record. -/
def FineR (r : Rec) : Prop := wfB r = true ∧ 0 ≤ r.seed ∧ r.seed ≤ 18446744073709551615
/-- What is read of r behind its first payload and i more. -/
def partialR (r : Rec) (i : Nat) : Rec :=
  { r with rounds := r.rounds.take i, ended := r.ended && decide (r.rounds.length < i), goals := if (r.ended && decide (r.rounds.length < i)) = true then r.goals else [], excl := [] }
set_option maxRecDepth 100000 in
theorem escB_nosp (c : UInt8) : (32 : UInt8) ∉ escB c := by
  have : ∀ n : Fin 256, (32 : UInt8) ∉ escB (UInt8.ofNat n.val) := by decide
  have h := this ⟨c.toNat, c.toNat_lt⟩
  simpa using h
theorem escL_nosp (l : List UInt8) : (32 : UInt8) ∉ escL l := by
  unfold escL
  split
  · decide
  · unfold escT
    intro h
    obtain ⟨c, _, hc⟩ := List.mem_flatMap.1 h
    exact escB_nosp c hc
theorem name_nosp {l : List UInt8} (h : nameB l = true) : (32 : UInt8) ∉ l := fun hm => by
  unfold nameB spelledB at h
  simp only [Bool.and_eq_true, List.all_eq_true] at h
  have := h.1.2 _ hm
  exact absurd this (by decide)
theorem join_nosp (sep : List UInt8) (hs : (32 : UInt8) ∉ sep) : ∀ xs : List (List UInt8), (∀ x ∈ xs, (32 : UInt8) ∉ x) → (32 : UInt8) ∉ Lib.join xs sep
  | [], _ => by simp [Lib.join, List.intercalate]
  | [x], h => by
    rw [show Lib.join [x] sep = x by simp [Lib.join, List.intercalate]]
    exact h x (by simp)
  | x :: y :: r, h => by
    rw [show Lib.join (x :: y :: r) sep = x ++ (sep ++ Lib.join (y :: r) sep) by simp [Lib.join, List.intercalate]]
    have h1 := h x (by simp)
    have h2 := join_nosp sep hs (y :: r) (fun z hz => h z (List.mem_cons_of_mem _ hz))
    simp only [List.mem_append, not_or]
    exact ⟨h1, hs, h2⟩
theorem listL_nosp {l : List Int} {sep : List UInt8} (hs : (32 : UInt8) ∉ sep) (h : ∀ n ∈ l, n ≤ 9223372036854775807) : (32 : UInt8) ∉ listL l sep := by
  unfold listL
  split
  · decide
  · exact join_nosp sep hs _ fun x hx => by
      obtain ⟨n, hn, rfl⟩ := List.mem_map.1 hx
      exact numT_no n (h n hn) (by decide)
theorem FineR.parts {r : Rec} (h : FineR r) : nameB r.name.data.toList = true ∧ (0 ≤ r.start ∧ r.start ≤ 1000) ∧ (0 ≤ r.clock ∧ r.clock ≤ 1000) ∧ r.text.size ≤ 16384 ∧ r.rounds.length ≤ 65 ∧ (∀ x ∈ r.rounds, roundB x = true) ∧ (∀ n ∈ r.goals, 0 ≤ n ∧ n ≤ 100) ∧ (r.ended = false → r.goals = []) ∧ r.excl = exclL r.rounds := by
  obtain ⟨h1, _, h3, h4, h5⟩ := wfB_parts h.1
  unfold headB at h1
  unfold tailB at h4
  simp only [Bool.and_eq_true, Bool.or_eq_true, decide_eq_true_eq] at h1 h4
  rw [List.all_eq_true] at h3
  exact ⟨h1.1, ⟨by omega, by omega⟩, ⟨by omega, by omega⟩, h1.2.2.2.1, h1.2.2.2.2, h3, withinB_mem h4.2.1, fun e => by
    rcases h4.2.2 with h | h
    · rw [e] at h; cases h
    · exact List.eq_nil_of_length_eq_zero h, of_decide_eq_true h5⟩
theorem head_words {r : Rec} (h : FineR r) : HeadOf (wordsL 32 (payHead r)) r := by
  obtain ⟨h1, h2, h3, _⟩ := h.parts
  refine ⟨?_, h.2, ⟨h2.1, by omega⟩, ⟨h3.1, by omega⟩⟩
  rw [← payHead_join, wordsL_join 32 _ (by simp)]
  intro x hx
  simp only [List.mem_cons, List.mem_nil_iff, or_false] at hx
  rcases hx with rfl | rfl | rfl | rfl | rfl | rfl
  · decide
  · exact name_nosp h1
  · exact fun hc => by have := (numT_dig r.seed (by have := h.2.2; omega)).1 _ hc; exact absurd this.1 (by decide)
  · exact numT_no _ (by omega) (by decide)
  · exact numT_no _ (by omega) (by decide)
  · exact escL_nosp _
theorem round_words {x : Rnd} (h : roundB x = true) : RoundOf (wordsL 32 (payRound x)) x := by
  have hl := termsL_len h
  unfold roundB at h
  simp only [Bool.and_eq_true, decide_eq_true_eq] at h
  obtain ⟨_, _, h3, h4⟩ := h
  have h3' := withinB_mem h3
  refine ⟨?_, List.all_eq_true.1 h4, by omega, fun n hn => ⟨(h3' n hn).1, by have := (h3' n hn).2; omega⟩⟩
  rw [show payRound x = Lib.join [[114, 111, 117, 110, 100], escL (termsL x.joint), listL x.faults []] [32] by simp [payRound, Lib.join, List.intercalate], wordsL_join 32 _ (by simp)]
  intro y hy
  simp only [List.mem_cons, List.mem_nil_iff, or_false] at hy
  rcases hy with rfl | rfl | rfl
  · decide
  · exact escL_nosp _
  · exact listL_nosp (by simp) (fun n hn => by have := (h3' n hn).2; omega)
theorem over_words {r : Rec} (h : FineR r) : OverOf (wordsL 32 (payOver r)) r.goals := by
  obtain ⟨_, _, _, _, _, _, h7, _⟩ := h.parts
  refine ⟨?_, fun n hn => ⟨(h7 n hn).1, by have := (h7 n hn).2; omega⟩⟩
  rw [show payOver r = Lib.join [[111, 118, 101, 114], listL r.goals [44]] [32] by simp [payOver, Lib.join, List.intercalate], wordsL_join 32 _ (by simp)]
  intro y hy
  simp only [List.mem_cons, List.mem_nil_iff, or_false] at hy
  rcases hy with rfl | rfl
  · decide
  · exact listL_nosp (by decide) (fun n hn => by have := (h7 n hn).2; omega)
/-- What the reader holds, of a record whose payloads are l, behind i + 1 of them. -/
def ReadInv (l : List (List UInt8)) (i : Nat) (rr : Rec) (ok : Bool) : Prop := ∀ r, FineR r → payL r = l → ok = true ∧ rr = partialR r i
theorem payL_at (r : Rec) (i : Nat) : (payL r)[i + 1]? = if h : i < r.rounds.length then some (payRound r.rounds[i]) else if r.ended = true ∧ i = r.rounds.length then some (payOver r) else none := by
  unfold payL
  rw [List.getElem?_cons_succ]
  by_cases h : i < r.rounds.length
  · rw [dif_pos h, List.getElem?_append_left (by simpa using h), List.getElem?_map, List.getElem?_eq_getElem h]
    rfl
  · rw [dif_neg h, List.getElem?_append_right (by simpa using h), List.length_map]
    by_cases he : r.ended = true
    · rw [if_pos he]
      by_cases hi : i = r.rounds.length
      · subst hi
        rw [if_pos ⟨he, rfl⟩, Nat.sub_self]; rfl
      · rw [if_neg (fun e => hi e.2)]
        exact List.getElem?_eq_none (by simp; omega)
    · rw [if_neg he, if_neg (fun e => he e.1)]
      rfl
theorem ReadInv.next {l : List (List UInt8)} {i : Nat} {rr rr' : Rec} {ok ok' : Bool} {p : List UInt8} {ws : List (List UInt8)} (h : ReadInv l i rr ok) (hp : l[i + 1]? = some p) (hw : ws = wordsL 32 p) (hn : NextSays ws rr ok rr' ok') : ReadInv l (i + 1) rr' ok' := fun r hr e => by
  obtain ⟨rfl, rfl⟩ := h r hr e
  obtain ⟨_, h1, h2, _⟩ := hn
  obtain ⟨_, _, _, _, _, q6, _, q8, _⟩ := hr.parts
  rw [← e, payL_at] at hp
  split at hp
  · rename_i hi
    cases hp
    have hen : (partialR r i).ended = false := by
      show (r.ended && decide (r.rounds.length < i)) = false
      rw [decide_eq_false (by omega), Bool.and_false]
    have hrw := round_words (q6 _ (List.getElem_mem hi))
    rw [← hw] at hrw
    obtain ⟨e1, e2⟩ := h1 hen _ hrw
    refine ⟨e1, ?_⟩
    rw [e2]
    unfold partialR
    simp only [decide_eq_false (show ¬ r.rounds.length < i by omega), decide_eq_false (show ¬ r.rounds.length < i + 1 by omega), List.take_succ_eq_append_getElem hi]
  · rename_i hi
    split at hp
    · rename_i hi2
      cases hp
      have hen : (partialR r i).ended = false := by
        show (r.ended && decide (r.rounds.length < i)) = false
        rw [decide_eq_false (by omega), Bool.and_false]
      have how := over_words hr
      rw [← hw] at how
      obtain ⟨e1, e2⟩ := h2 hen _ how
      refine ⟨e1, ?_⟩
      rw [e2]
      unfold partialR
      simp only [decide_eq_true (show r.rounds.length < i + 1 by omega), hi2.1, Bool.and_true, if_true]
      rw [List.take_of_length_le (by omega), List.take_of_length_le (by omega)]
    · cases hp
theorem ReadInv.last {l : List (List UInt8)} {rr : Rec} {ok : Bool} (h : ReadInv l (l.length - 1) rr ok) {r : Rec} (hr : FineR r) (e : payL r = l) : ok = true ∧ { rr with excl := exclL rr.rounds } = r := by
  obtain ⟨e1, rfl⟩ := h r hr e
  obtain ⟨_, _, _, _, _, _, _, q8, q9⟩ := hr.parts
  refine ⟨e1, ?_⟩
  have hl : l.length - 1 = r.rounds.length + if r.ended = true then 1 else 0 := by
    rw [← e]
    unfold payL
    rw [List.length_cons, List.length_append, List.length_map]
    split <;> simp
  by_cases he : r.ended = true
  · rw [if_pos he] at hl
    unfold partialR
    simp only [decide_eq_true (show r.rounds.length < l.length - 1 by omega), he, Bool.and_true, if_true]
    rw [List.take_of_length_le (by omega)]
    obtain ⟨a1, a2, a3, a4, a5, a6, a7, a8, a9⟩ := r
    simp only at he q9
    rw [he, q9]
  · have he' : r.ended = false := by simpa using he
    rw [if_neg he] at hl
    unfold partialR
    simp only [he', Bool.false_and, Bool.false_eq_true, if_false]
    rw [List.take_of_length_le (by omega)]
    have hg := q8 he'
    obtain ⟨a1, a2, a3, a4, a5, a6, a7, a8, a9⟩ := r
    simp only at he' q9 hg
    rw [he', q9, hg]
theorem ReadInv.first {l : List (List UInt8)} {p : List UInt8} {ws : List ByteArray} {nm tx : ByteArray} {sd st ck : Int} {ok : Bool} (hp : l[0]? = some p) (hw : ws.map (·.data.toList) = wordsL 32 p) (h : HeadSays ws nm tx sd st ck ok) :
    ReadInv l 0 ⟨nm, tx, sd, st, ck, [], false, [], []⟩ ok := fun r hr e => by
  rw [← e] at hp
  have hp2 : payHead r = p := Option.some.inj hp
  have hh := head_words hr
  rw [hp2, ← hw] at hh
  obtain ⟨e1, rfl, rfl, rfl, rfl, rfl⟩ := h r hh
  refine ⟨e1, ?_⟩
  unfold partialR
  simp
end Go.Proofs.YtahbhhenobehfaaGreatDoor
namespace Go.Proofs.YtahbhhenobehfaaGreatDoor
open Go.ChangeShapes Go.WideShapes Go.ChangeAt Go.RowKit

theorem roundB_g {x : Rnd} (h : x.joint.all (groundB 4) = false) : roundB x = false := by unfold roundB; rw [h]; simp
theorem roundB_w {x : Rnd} (h : withinB x.faults 3 = false) : roundB x = false := by unfold roundB; rw [h]; simp
theorem roundB_ok {x : Rnd} (h1 : x.joint.length ≤ 4) (h2 : x.faults.length ≤ 4) (h3 : withinB x.faults 3 = true) (h4 : x.joint.all (groundB 4) = true) : roundB x = true := by rw [roundB_3 h1 h2, h3, h4]; rfl
theorem withinB_bad {l : List Int} {K : Int} (k : Nat) (hk : k < l.length) (h : ¬ 0 ≤ l.getD k 0 ∨ ¬ l.getD k 0 ≤ K) : withinB l K = false :=
  allP_bad k hk (by
    rw [← getD_int k hk]
    rcases h with h | h
    · rw [decide_eq_false h]; rfl
    · rw [decide_eq_false h]; simp)
theorem withinB_ok {l : List Int} {K : Int} (h : ∀ i, i < l.length → 0 ≤ l.getD i 0 ∧ l.getD i 0 ≤ K) : withinB l K = true :=
  allP_to fun i hi => by
    have := h i hi
    rw [getD_int i hi] at this
    rw [decide_eq_true this.1, decide_eq_true this.2]; rfl
set_option maxRecDepth 20000 in
set_option maxHeartbeats 8000000 in
theorem roundly_any (x : Rnd) (aj : Option Addr) (nj cj : Nat) (af : Option Addr) (nf cf : Nat) (w : World) (hj : TmsAt w aj nj cj x.joint) (hf : HeldL IntC w af nf cf x.faults) :
    Calls Tryz.prog 25 #[.agg #[.slice aj nj cj, .slice af nf cf]] w fun e w' => e = .returned (.bool (roundB x)) ∧ Below w.heap.size w w' := by
  have b0 := (Below.refl w.heap.size w).alloc (Nat.le_refl _) (.cells #[.slice aj nj cj, .slice af nf cf] 45)
  have H0 := Has.new w #[.slice aj nj cj, .slice af nf cf] 45
  have hl1 := hid hj.len
  have hl2 := hid hf.len
  have hjle := hj.le
  have hjmx := hj.max
  have hfle := hf.le
  have hfmx := hf.max
  by_cases h1 : nj ≤ 4
  case neg =>
    have h1i : (4 : Int) < nj := by omega
    have hB := hid (roundB_1 (x := x) (by rw [hl1.out]; exact h1))
    clear H0 hj hf
    go_enter Tryz.func25, Tryz.ntmps25
    go_wp2
    go_ret
    exact ⟨ret_boolv hB.out.symm, b0⟩
  have h1i : ¬ (4 : Int) < nj := by omega
  by_cases h2 : nf ≤ 4
  case neg =>
    have h2i : (4 : Int) < nf := by omega
    have hB := hid (roundB_2 (x := x) (by rw [hl2.out]; exact h2))
    clear H0 hj hf
    go_enter Tryz.func25, Tryz.ntmps25
    go_wp2
    go_ret
    exact ⟨ret_boolv hB.out.symm, b0⟩
  have h2i : ¬ (4 : Int) < nf := by omega
  go_enter Tryz.func25, Tryz.ntmps25
  go_wp2
  obtain ⟨w0, ew0⟩ : ∃ w0, w0 = w.alloc (.cells #[.slice aj nj cj, .slice af nf cf] 45) := ⟨_, rfl⟩
  rw [← ew0] at b0 H0
  rw [← ew0]
  clear ew0
  have hz : w.heap.size < w0.heap.size := H0.lt
  go_loopw [18] (fun i wr => ∃ k : Nat, k ≤ nj ∧ i = .int .i64 k ∧ Hid (∀ j (hj : j < x.joint.length), j < k → groundB 4 x.joint[j] = true) ∧ Below w0.heap.size w0 wr) (fun i _ => nj - (intOf i).toNat)
  case atStart => exact ⟨0, Nat.zero_le _, rfl, hid (fun j hj h => by omega), Below.refl _ _⟩
  case round =>
    obtain ⟨k, hk, rfl, hso, hb⟩ := hrel
    have hbT := b0.trans (hb.mono b0.size)
    have c0 := (H0.below hb hz).cell (j := 0) rfl
    have c1 := (H0.below hb hz).cell (j := 1) rfl
    by_cases hlt : k < nj
    · have hk0 : (0 : Int) ≤ k := by omega
      have hkn : (k : Int) < nj := by omega
      have hki := hid (show k < x.joint.length by rw [hl1.out]; exact hlt)
      have hr := hj.below hbT (Nat.le_refl _)
      obtain ⟨b, o, rfl⟩ := hr.head (by omega)
      obtain ⟨m, l2, ad2, n2, cap2, e2, hm, d1, d2, h2⟩ := hr.at' k hki.out
      have E2 := hid e2
      clear e2 hr
      go_wp2_with fail
      refine (rground_any m ad2 n2 cap2 l2 _ hm h2).mono ?_
      rintro e w1 ⟨rfl, o1⟩
      have b1 := hb.trans (o1.mono hb.size)
      have b1T := b0.trans (b1.mono b0.size)
      obtain ⟨g, eg⟩ : ∃ g, g = groundB 4 (.mk m l2) := ⟨_, rfl⟩
      rw [← eg]
      have Eg := hid eg
      clear eg c0 c1 d1 d2 h2 o1
      cases g
      · go_wp2
        go_ret
        exact ⟨ret_boolv (roundB_g (allP_bad k hki.out (by rw [E2.out]; exact Eg.out.symm))).symm, b1T⟩
      · go_wp2
        go_roundw
        case rel => exact ⟨k + 1, by omega, by go_num, hid (fun j hj h => by
          rcases Nat.lt_succ_iff_lt_or_eq.mp h with h | h
          · exact hso.out j hj h
          · subst h; rw [E2.out]; exact Eg.out.symm), b1⟩
        case measure => simp [intOf]; omega
    · obtain rfl : nj = k := by omega
      have hG := hid (show x.joint.all (groundB 4) = true from allP_to fun i hi => hso.out i hi (by rw [← hl1.out]; exact hi))
      have hr := hf.below hbT (Nat.le_refl _)
      clear hso
      go_wp2
      go_loop [32] (fun i => ∃ k : Nat, k ≤ nf ∧ i = .int .i64 k ∧ Hid (∀ j, j < k → 0 ≤ x.faults.getD j 0 ∧ x.faults.getD j 0 ≤ 3)) (fun i => nf - (intOf i).toNat)
      case atStart => exact ⟨0, Nat.zero_le _, rfl, hid (fun j hj => by omega)⟩
      case round =>
        obtain ⟨k, hk, rfl, hso⟩ := hrel
        by_cases hlt : k < nf
        · have hk0 : (0 : Int) ≤ k := by omega
          have hkn : (k : Int) < nf := by omega
          have hki := hid (show k < x.faults.length by rw [hl2.out]; exact hlt)
          obtain ⟨b2, o2, rfl⟩ := hr.head (by omega)
          have hc := hr.int k hlt
          obtain ⟨v, ev⟩ : ∃ v, v = x.faults.getD k 0 := ⟨_, rfl⟩
          rw [← ev] at hc
          have Ev := hid ev
          clear ev
          by_cases h0 : 0 ≤ v
          · have h0i : ¬ v < 0 := by omega
            by_cases h3 : v ≤ 3
            · have h3i : ¬ 3 < v := by omega
              go_wp2
              go_round
              case rel => exact ⟨k + 1, by omega, by go_num, hid (fun j hj => by
                rcases Nat.lt_succ_iff_lt_or_eq.mp hj with h | h
                · exact hso.out j h
                · subst h; rw [← Ev.out]; exact ⟨h0, h3⟩)⟩
              case measure => simp [intOf]; omega
            · have h3i : 3 < v := by omega
              have hn := hid h3
              clear h3
              go_wp2
              go_ret
              exact ⟨ret_boolv (roundB_w (withinB_bad k hki.out (Or.inr (by rw [← Ev.out]; have := hn.out; omega)))).symm, hbT⟩
          · have h0i : v < 0 := by omega
            have hn := hid h0
            clear h0
            go_wp2
            go_ret
            exact ⟨ret_boolv (roundB_w (withinB_bad k hki.out (Or.inl (by rw [← Ev.out]; have := hn.out; omega)))).symm, hbT⟩
        · obtain rfl : nf = k := by omega
          have hfin := hid (show roundB x = true from roundB_ok (by rw [hl1.out]; exact h1) (by rw [hl2.out]; exact h2) (withinB_ok fun i hi => hso.out i (by rw [← hl2.out]; exact hi)) hG.out)
          go_wp2
          go_ret
          exact ⟨ret_boolv hfin.out.symm, hbT⟩
end Go.Proofs.YtahbhhenobehfaaGreatDoor
