/-
  The functions of both packages that look whether a list is an order of all numbers from 0 on, or a deck, answer the same. Conditions: those of each theorem.
-/
import Derived.Test.YtfncmgaeecjacaaMemB
namespace Go.Proofs.Ytfncmgaeecjacaa.deck
open Go.RowKit
open base mem

/-! ### no program in sight -/
def hasB (xs : List Int) (x : Int) : Bool := decide (x ∈ xs)
def goodAt (xs : List Int) (k : Nat) : Bool := inB (xs.getD k 0) 0 ((xs.length : Int) - 1) && !hasB (xs.take k) (xs.getD k 0)
def ordB (xs : List Int) : Bool := (List.range xs.length).all (goodAt xs)
def deckB (xs : List Int) : Bool := decide (1 ≤ xs.length ∧ xs.length ≤ 52) && ordB xs
theorem ord_no {xs : List Int} {k : Nat} (hk : k < xs.length) (h : goodAt xs k = false) : ordB xs = false := by
  unfold ordB
  rw [List.all_eq_false]
  exact ⟨k, by simpa using hk, by simp [h]⟩
theorem ord_yes {xs : List Int} (h : ∀ j, j < xs.length → goodAt xs j = true) : ordB xs = true := by
  unfold ordB
  rw [List.all_eq_true]
  intro j hj
  exact h j (by simpa using hj)
theorem ord_at {xs : List Int} (h : ordB xs = true) {k : Nat} (hk : k < xs.length) : goodAt xs k = true := by
  unfold ordB at h
  rw [List.all_eq_true] at h
  exact h k (by simpa using hk)
theorem good_range {xs : List Int} {k : Nat} (h : goodAt xs k = true) : inB (xs.getD k 0) 0 ((xs.length : Int) - 1) = true := by
  unfold goodAt at h
  rw [Bool.and_eq_true] at h
  exact h.1
theorem good_fresh {xs : List Int} {k : Nat} (h : goodAt xs k = true) : hasB (xs.take k) (xs.getD k 0) = false := by
  unfold goodAt at h
  rw [Bool.and_eq_true] at h
  simpa using h.2
theorem deck_ord {xs : List Int} (h : deckB xs = true) : ordB xs = true := by
  unfold deckB at h
  rw [Bool.and_eq_true] at h
  exact h.2
theorem deck_len {xs : List Int} (h : deckB xs = true) : 1 ≤ xs.length ∧ xs.length ≤ 52 := by
  unfold deckB at h
  rw [Bool.and_eq_true] at h
  exact of_decide_eq_true h.1
theorem deck_short {xs : List Int} (h : ¬ (1 ≤ xs.length ∧ xs.length ≤ 52)) : deckB xs = false := by
  unfold deckB
  rw [decide_eq_false h, Bool.false_and]
theorem deck_mk {xs : List Int} (h : 1 ≤ xs.length ∧ xs.length ≤ 52) : deckB xs = ordB xs := by
  unfold deckB
  rw [decide_eq_true h, Bool.true_and]
/-- a card of a deck is a place -/
theorem deck_card {xs : List Int} (h : ordB xs = true) {k : Nat} (hk : k < xs.length) : ∃ j : Nat, xs.getD k 0 = (j : Int) ∧ j < xs.length := by
  obtain ⟨h1, h2⟩ := inB_yes (good_range (ord_at h hk))
  obtain ⟨j, hj⟩ := Int.eq_ofNat_of_zero_le h1
  exact ⟨j, hj, by omega⟩
theorem ord_inj {xs : List Int} (h : ordB xs = true) {i j : Nat} (hi : i < xs.length) (hj : j < xs.length) (he : xs.getD i 0 = xs.getD j 0) : i = j := by
  have key : ∀ i j : Nat, i < j → j < xs.length → xs.getD i 0 ≠ xs.getD j 0 := by
    intro i j hij hj he
    have h1 := good_fresh (ord_at h hj)
    unfold hasB at h1
    refine of_decide_eq_false h1 ?_
    rw [← he, List.mem_iff_getElem?]
    have hi : i < xs.length := by omega
    exact ⟨i, by rw [List.getElem?_take, if_pos hij]; simp [List.getD, hi]⟩
  rcases Nat.lt_trichotomy i j with h1 | h1 | h1
  · exact absurd he (key i j h1 hj)
  · exact h1
  · exact absurd he.symm (key j i h1 hi)

def seenL (xs : List Int) (n k : Nat) : List Bool := (List.range n).map fun (i : Nat) => hasB (xs.take k) (i : Int)
theorem seenL_zero (xs : List Int) (n : Nat) : seenL xs n 0 = List.replicate n false := by
  apply List.ext_getElem?
  intro i
  by_cases h : i < n
  · simp [seenL, hasB, h]
  · simp [seenL, h]
theorem seenL_len (xs : List Int) (n k : Nat) : (seenL xs n k).length = n := by simp [seenL]
theorem seenL_getD (xs : List Int) (n k j : Nat) (h : j < n) : (seenL xs n k).getD j false = hasB (xs.take k) (j : Int) := by
  simp [seenL, List.getD, h]
theorem seenL_step (xs : List Int) (n k j : Nat) (hk : k < xs.length) (hj : j < n) (he : xs.getD k 0 = (j : Int)) : (seenL xs n k).set j true = seenL xs n (k + 1) := by
  apply List.ext_getElem?
  intro i
  rw [List.getElem?_set]
  have hx : xs[k]'hk = (j : Int) := by rw [← he]; simp [List.getD, hk]
  by_cases hij : j = i
  · subst hij
    simp only [seenL, List.length_map, List.length_range, hj, if_true, List.getElem?_map, List.getElem?_range hj, Option.map_some]
    rw [List.take_succ_eq_append_getElem hk, hx]
    simp [hasB]
  · rw [if_neg hij]
    by_cases h : i < n
    · simp only [seenL, List.getElem?_map, List.getElem?_range h, Option.map_some]
      rw [List.take_succ_eq_append_getElem hk, hx]
      have : ¬ (i : Int) = (j : Int) := by omega
      simp [hasB, this]
    · simp [seenL, h]

/-! ### the program -/
theorem info_bool : (Try.prog.info? 4).map (fun i => (i.zero, i.size, i.bytes)) = some (some (.bool false), 1, 1) := by kernel_rfl

set_option maxHeartbeats 1000000 in
theorem isOrder_any (A : Option Addr) (n c : Nat) (xs : List Int) (w : World) (hR : Rd w w.heap.size A n xs) (hn : n ≤ 1048576) :
    Calls Try.prog 74 #[.slice A n c] w fun e w' => e = .returned (.bool (ordB xs)) ∧ Below w.heap.size w w' := by
  obtain ⟨i0, hi, hz0, hz1, hz2⟩ := info_parts info_bool
  have hz2' : i0.bytes * n ≤ 281474976710656 := by rw [hz2]; omega
  have HL := hide hR.len
  generalize hE : ordB xs = E
  have HE := hide hE
  clear hz2 hE
  go_enter Try.func74, Try.ntmps74
  go_wp2_with (at_make; refine wpList_make_full _ rfl (.tmp 7) (.tmp 7) 23 rfl w.heap.size 4 i0 (.bool false) 1 Try.underlying23 hi hz0 hz1 .i64 .i64 _ _ n rfl rfl rfl rfl hz2' (by unfold maxLen; omega) (Nat.le_refl _) ?_; intro w1 hown hgr)
  have hb1 : Below w.heap.size w w1 := (Below.refl _ _).grown hgr (Nat.le_refl _) (fun _ h => by cases h)
  have hown1 : OwnB w1 w.heap.size (some ⟨w.heap.size, 0, none⟩) n n (seenL xs n 0) := by
    unfold OwnB
    rw [seenL_zero]
    simpa [Value.cells, toList_madeCells_one, bvs] using hown
  clear hown hgr hz2' hi hz0 hz1
  generalize hg : w.heap.size = g at *
  have HG := hide hg
  clear hg
  go_loopw [5, 11] (fun _ i wr => ∃ k : Nat, k ≤ n ∧ i = .int .i64 k ∧ OwnB wr g (some ⟨g, 0, none⟩) n n (seenL xs n k) ∧ Below g w wr ∧ Hid (∀ j, j < k → goodAt xs j = true)) (fun _ i _ => n - (intOf i).toNat)
  case atStart => exact ⟨0, Nat.zero_le _, rfl, hown1, hb1, fun j hj => absurd hj (Nat.not_lt_zero j)⟩
  case round =>
    obtain ⟨k, hk, rfl, hown, hb, hgood⟩ := hrel
    by_cases hlt : k < n
    · obtain ⟨b, o, rfl, hbB, hc⟩ := (hR.below hb).at_ hlt
      have hkx : k < xs.length := by rw [HL.out]; exact hlt
      clear hR hb1 hown1
      cases hin : inB (xs.getD k 0) 0 ((n : Int) - 1)
      · have HF := hide (ord_no hkx (by unfold goodAt; rw [HL.out, hin]; rfl))
        generalize xs.getD k 0 = x at *
        clear hkx
        go_wp2_with (go_at_call 69; refine (within_any _ _ _ _).mono ?_; rintro e w' ⟨rfl, rfl⟩)
        go_ret
        exact ⟨by rw [← HE.out, HF.out]; rfl, by rw [HG.out]; exact hb⟩
      · obtain ⟨hx1, hx2⟩ := inB_yes hin
        obtain ⟨j, hj⟩ := Int.eq_ofNat_of_zero_le hx1
        have hjn : j < n := by omega
        have hc2 := World.ownsRow.cellAt (h := hown) j (by omega)
        rw [bvs_at _ _ (by rw [hown.len]; exact hjn), seenL_getD xs n k j hjn] at hc2
        have hf2 := World.ownsRow.frozenAt (h := hown) j
        have hst := World.ownsRow.stored (h := hown) j (.bool true)
        rw [bvs_set, seenL_step xs n k j hkx hjn hj] at hst
        cases hhas : hasB (xs.take k) (j : Int)
        · have HN := hide (show goodAt xs k = true by unfold goodAt; rw [HL.out, hin, hj, hhas]; rfl)
          rw [hj] at hc hin
          rw [hhas] at hc2
          have HS := hide hst
          have hge : g ≤ wr.heap.size := by have := hb.size; rw [HG.out] at this; exact this
          clear hst hown hj hx1 hx2 hhas hkx
          go_wp2_with (go_at_call 69; refine (within_any _ _ _ _).mono ?_; rintro e w' ⟨rfl, rfl⟩)
          go_roundw
          case rel => exact ⟨k + 1, by omega, by go_num, HS.out.1, hb.grown HS.out.2 hge (fun j hj => by cases hj; exact Nat.le_refl _), fun i hi => by rcases Nat.lt_succ_iff_lt_or_eq.1 hi with h | h; exact hgood.out i h; rw [h]; exact HN.out⟩
          case measure => simp [intOf]; omega
        · have HF := hide (ord_no hkx (by unfold goodAt; rw [HL.out, hin, hj, hhas]; rfl))
          rw [hj] at hc hin
          rw [hhas] at hc2
          clear hst hown hj hx1 hx2 hhas hkx
          go_wp2_with (go_at_call 69; refine (within_any _ _ _ _).mono ?_; rintro e w' ⟨rfl, rfl⟩)
          go_ret
          exact ⟨by rw [← HE.out, HF.out]; rfl, by rw [HG.out]; exact hb⟩
    · obtain rfl : k = n := by omega
      go_wp2
      go_ret
      exact ⟨by rw [← HE.out, ord_yes (fun j hj => hgood.out j (by rw [← HL.out]; exact hj))]; rfl, by rw [HG.out]; exact hb⟩

set_option maxHeartbeats 1000000 in
theorem IsDeck_any (A : Option Addr) (n c : Nat) (xs : List Int) (w : World) (hR : Rd w w.heap.size A n xs) (hn : n ≤ 9223372036854775807) :
    Calls Try.prog 52 #[.slice A n c] w fun e w' => e = .returned (.bool (deckB xs)) ∧ Below w.heap.size w w' := by
  by_cases h1 : 1 ≤ n
  · by_cases h2 : n ≤ 52
    · rw [deck_mk (by rw [hR.len]; exact ⟨h1, h2⟩)]
      go_enter Try.func52, Try.ntmps52
      go_wp2_with (go_at_call 74; refine (isOrder_any A n c xs _ hR (by omega)).mono ?_; rintro e w' ⟨rfl, hb⟩)
      go_ret
      exact ⟨rfl, hb⟩
    · rw [deck_short (by rw [hR.len]; omega)]
      clear hR
      go_enter Try.func52, Try.ntmps52
      go_wp2
      go_ret
      exact ⟨rfl, Below.refl _ _⟩
  · rw [deck_short (by rw [hR.len]; omega)]
    obtain rfl : n = 0 := by omega
    clear hR
    go_enter Try.func52, Try.ntmps52
    go_wp2
    go_ret
    exact ⟨rfl, Below.refl _ _⟩

theorem has_no {xs : List Int} {x : Int} (h : ∀ j, j < xs.length → xs.getD j 0 ≠ x) : hasB xs x = false := by
  unfold hasB
  refine decide_eq_false fun hm => ?_
  obtain ⟨j, hj, he⟩ := List.mem_iff_getElem.1 hm
  exact h j hj (by simp [List.getD, hj, he])
theorem has_yes {xs : List Int} {x : Int} {j : Nat} (hj : j < xs.length) (h : xs.getD j 0 = x) : hasB xs x = true := by
  unfold hasB
  refine decide_eq_true ?_
  rw [← h]
  simp [List.getD, hj]

set_option maxHeartbeats 1000000 in
theorem l02Has_any (A : Option Addr) (n c : Nat) (xs : List Int) (x : Int) (B : Nat) (w : World) (hR : Rd w B A n xs) (hn : n ≤ 9223372036854775807) :
    Calls Try.prog 95 #[.slice A n c, .int .i64 x] w fun e w' => e = .returned (.bool (hasB xs x)) ∧ w = w' := by
  have HL := hide hR.len
  generalize hE : hasB xs x = E
  have HE := hide hE
  clear hE
  go_enter Try.func95, Try.ntmps95
  go_wp2
  go_loop [5] (fun i => ∃ k : Nat, k ≤ n ∧ i = .int .i64 k ∧ Hid (∀ j, j < k → xs.getD j 0 ≠ x)) (fun i => n - (intOf i).toNat)
  case atStart => exact ⟨0, Nat.zero_le _, rfl, fun j hj => absurd hj (Nat.not_lt_zero j)⟩
  case round =>
    obtain ⟨k, hk, rfl, hno⟩ := hrel
    by_cases hlt : k < n
    · obtain ⟨b, o, rfl, hbB, hc⟩ := hR.at_ hlt
      have hkx : k < xs.length := by rw [HL.out]; exact hlt
      clear hR
      by_cases hy : xs.getD k 0 = x
      · have HF := hide (has_yes hkx hy)
        rw [hy] at hc
        clear hy hkx
        go_wp2
        go_ret
        exact ⟨by rw [← HE.out, HF.out]; rfl, rfl⟩
      · generalize hz : xs.getD k 0 = z at *
        have HZ := hide hz
        have hb : (z == x) = false := by simpa using hy
        have HY := hide hy
        clear hz hy hkx
        go_wp2
        go_round
        case rel => exact ⟨k + 1, by omega, by go_num, fun j hj => by rcases Nat.lt_succ_iff_lt_or_eq.1 hj with h | h; exact hno.out j h; rw [h, HZ.out]; exact HY.out⟩
        case measure => simp [intOf]; omega
    · obtain rfl : k = n := by omega
      go_wp2
      go_ret
      exact ⟨by rw [← HE.out, has_no (fun j hj => hno.out j (by rw [← HL.out]; exact hj))]; rfl, rfl⟩

theorem Rd.take {w : World} {B : Nat} {A : Option Addr} {n : Nat} {xs : List Int} (h : Rd w B A n xs) {k : Nat} (hk : k ≤ n) : Rd w B A k (xs.take k) := by
  refine ⟨by rw [List.length_take, h.len]; omega, fun h0 => ?_⟩
  obtain ⟨b, o, e, hb, hc⟩ := h.2 (by omega)
  refine ⟨b, o, e, hb, fun j hj => ?_⟩
  rw [hc j (by omega)]
  simp [List.getD, hj]

theorem quiet_eq {P : Program} {f : FuncId} {args : Array Value} {w : World} {n : Nat} {v : Value}
    (h : Calls P f args (w.drewN n) fun e w' => e = .returned v ∧ w.drewN n = w') : Calls P f args (w.drewN n) fun e w'' => e = .returned v ∧ ∃ m, w'' = w.drewN m :=
  h.mono fun _ _ ⟨he, hm⟩ => ⟨he, n, hm.symm⟩

set_option maxHeartbeats 1000000 in
theorem l02Orders_any (A : Option Addr) (n c m : Nat) (xs : List Int) (B : Nat) (w : World) (hR : Rd w B A n xs) (hn : n ≤ 9223372036854775807) (hnc : n ≤ c) (hm : m ≤ 9223372036854775807) :
    Calls Try.prog 73 #[.slice A n c, .int .i64 m] w fun e w' => e = .returned (.bool (decide (n = m) && ordB xs)) ∧ ∃ q, w' = w.drewN q := by
  by_cases hnm : n = m
  · subst hnm
    have HL := hide hR.len
    rw [decide_eq_true (rfl : n = n), Bool.true_and]
    generalize hE : ordB xs = E
    have HE := hide hE
    clear hE
    go_enter Try.func73, Try.ntmps73
    go_wp2
    go_loopw [5] (fun i wr => ∃ k q : Nat, k ≤ n ∧ i = .int .i64 k ∧ Hid (∀ j, j < k → goodAt xs j = true) ∧ Hid (wr = w.drewN q)) (fun i _ => n - (intOf i).toNat)
    case atStart => exact ⟨0, 0, Nat.zero_le _, rfl, fun j hj => absurd hj (Nat.not_lt_zero j), rfl⟩
    case round =>
      obtain ⟨k, q, hk, rfl, hgood, hw⟩ := hrel
      by_cases hlt : k < n
      · have hRk : Rd wr B A k (xs.take k) := by rw [hw.out]; exact Rd.take hR hk
        have hR' : Rd wr B A n xs := by rw [hw.out]; exact hR
        obtain ⟨b, o, rfl, hbB, hc⟩ := hR'.at_ hlt
        have hkx : k < xs.length := by rw [HL.out]; exact hlt
        have hlt' : (k : Int) < (n : Int) := by omega
        have h0 : (0 : Int) ≤ (k : Int) := by omega
        have hkc : (k : Int) ≤ (c : Int) := by omega
        clear hR hR'
        cases hin : inB (xs.getD k 0) 0 ((n : Int) - 1)
        · have HF := hide (ord_no hkx (by unfold goodAt; rw [HL.out, hin]; rfl))
          generalize xs.getD k 0 = x at *
          clear hkx hRk
          go_wp2
          go_quiet ((go_at_call 68; exact quiet_eq (l00In_any _ _ _ _)))
          go_wp2
          go_ret
          exact ⟨by rw [← HE.out, HF.out]; rfl, q + nq, by rw [hw.out, World.drewN_drewN]⟩
        · cases hhas : hasB (xs.take k) (xs.getD k 0)
          · have HN := hide (show goodAt xs k = true by unfold goodAt; rw [HL.out, hin, hhas]; rfl)
            have hH := fun q => l02Has_any (some ⟨b, o, none⟩) k c (xs.take k) (xs.getD k 0) B (wr.drewN q) (hRk.drewN q) (by omega)
            rw [hhas] at hH
            have HH := hide hH
            generalize xs.getD k 0 = x at *
            clear hkx hRk hH hhas
            go_wp2
            go_quiet ((first | (go_at_call 68; exact quiet_eq (l00In_any _ _ _ _)) | (go_at_call 95; exact quiet_eq (HH.out _))))
            go_wp2
            go_roundw
            case rel => exact ⟨k + 1, q + nq, by omega, by go_num, fun i hi => by rcases Nat.lt_succ_iff_lt_or_eq.1 hi with h | h; exact hgood.out i h; rw [h]; exact HN.out, hide (by rw [hw.out, World.drewN_drewN])⟩
            case measure => simp [intOf]; omega
          · have HF := hide (ord_no hkx (by unfold goodAt; rw [HL.out, hin, hhas]; rfl))
            have hH := fun q => l02Has_any (some ⟨b, o, none⟩) k c (xs.take k) (xs.getD k 0) B (wr.drewN q) (hRk.drewN q) (by omega)
            rw [hhas] at hH
            have HH := hide hH
            generalize xs.getD k 0 = x at *
            clear hkx hRk hH hhas
            go_wp2
            go_quiet ((first | (go_at_call 68; exact quiet_eq (l00In_any _ _ _ _)) | (go_at_call 95; exact quiet_eq (HH.out _))))
            go_wp2
            go_ret
            exact ⟨by rw [← HE.out, HF.out]; rfl, q + nq, by rw [hw.out, World.drewN_drewN]⟩
      · obtain rfl : k = n := by omega
        go_wp2
        go_ret
        exact ⟨by rw [← HE.out, ord_yes (fun j hj => hgood.out j (by rw [← HL.out]; exact hj))]; rfl, q, hw.out⟩
  · rw [decide_eq_false hnm, Bool.false_and]
    have hb : ((n : Int) != (m : Int)) = true := by rw [bne_iff_ne]; omega
    clear hR hnm
    go_enter Try.func73, Try.ntmps73
    go_wp2
    go_ret
    exact ⟨rfl, 0, rfl⟩

set_option maxHeartbeats 1000000 in
theorem l02Deck_any (A : Option Addr) (n c : Nat) (xs : List Int) (B : Nat) (w : World) (hR : Rd w B A n xs) (hn : n ≤ 9223372036854775807) (hnc : n ≤ c) :
    Calls Try.prog 67 #[.slice A n c] w fun e w' => e = .returned (.bool (deckB xs)) ∧ ∃ q, w' = w.drewN q := by
  by_cases h1 : 1 ≤ n
  · by_cases h2 : n ≤ 52
    · rw [deck_mk (by rw [hR.len]; exact ⟨h1, h2⟩)]
      have hO := l02Orders_any A n c n xs B w hR hn hnc hn
      rw [decide_eq_true (rfl : n = n), Bool.true_and] at hO
      have HO := hide hO
      clear hO hR
      go_enter Try.func67, Try.ntmps67
      go_wp2_with (go_at_call 73; refine HO.out.mono ?_; rintro e w' ⟨rfl, q, rfl⟩)
      go_ret
      exact ⟨rfl, q, rfl⟩
    · rw [deck_short (by rw [hR.len]; omega)]
      clear hR
      go_enter Try.func67, Try.ntmps67
      go_wp2
      go_ret
      exact ⟨rfl, 0, rfl⟩
  · rw [deck_short (by rw [hR.len]; omega)]
    obtain rfl : n = 0 := by omega
    clear hR
    go_enter Try.func67, Try.ntmps67
    go_wp2
    go_ret
    exact ⟨rfl, 0, rfl⟩

theorem l02Deck_b (A : Option Addr) (n c : Nat) (xs : List Int) (w : World) (hR : Rd w w.heap.size A n xs) (hn : n ≤ 9223372036854775807) (hnc : n ≤ c) :
    Calls Try.prog 67 #[.slice A n c] w fun e w' => e = .returned (.bool (deckB xs)) ∧ Below w.heap.size w w' :=
  (l02Deck_any A n c xs _ w hR hn hnc).mono fun _ _ ⟨he, q, hq⟩ => ⟨he, by rw [hq]; exact below_drewN (Below.refl _ _) q⟩
theorem IsDeck_b (A : Option Addr) (n c : Nat) (xs : List Int) (w : World) (hR : Rd w w.heap.size A n xs) (hn : n ≤ 9223372036854775807) (_hnc : n ≤ c) :
    Calls Try.prog 52 #[.slice A n c] w fun e w' => e = .returned (.bool (deckB xs)) ∧ Below w.heap.size w w' := IsDeck_any A n c xs w hR hn
end Go.Proofs.Ytfncmgaeecjacaa.deck
