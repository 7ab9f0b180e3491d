/-
  Whether cards are a hand: both packages answer the same. Conditions: those of each theorem.
-/
import Derived.Test.YtlldocdmjeeaaaaApp
namespace Go.Proofs.Ytlldocdmjeeaaaa.hand
open Go.RowKit
open base mem

/-! ### no program in sight -/
def hasB (xs : List Int) (x : Int) : Bool := decide (x ∈ xs)
theorem has_no {xs : List Int} {x : Int} (h : ∀ j, j < xs.length → xs.getD j 0 ≠ x) : hasB xs x = false := by
  unfold hasB
  refine decide_eq_false fun hm => ?_
  obtain ⟨j, hj, he⟩ := List.mem_iff_getElem.1 hm
  exact h j hj (by simp [List.getD, hj, he])
theorem has_yes {xs : List Int} {x : Int} {j : Nat} (hj : j < xs.length) (h : xs.getD j 0 = x) : hasB xs x = true := by
  unfold hasB
  refine decide_eq_true ?_
  rw [← h]
  simp [List.getD, hj]
def goodC (xs : List Int) (k : Nat) : Bool := inB (xs.getD k 0) 0 51 && !hasB (xs.take k) (xs.getD k 0)
def cardsB (xs : List Int) : Bool := (List.range xs.length).all (goodC xs)
def handB (xs : List Int) (lo hi : Nat) : Bool := decide (lo ≤ xs.length ∧ xs.length ≤ hi) && cardsB xs
theorem cards_no {xs : List Int} {k : Nat} (hk : k < xs.length) (h : goodC xs k = false) : cardsB xs = false := by
  unfold cardsB
  rw [List.all_eq_false]
  exact ⟨k, by simpa using hk, by simp [h]⟩
theorem cards_yes {xs : List Int} (h : ∀ j, j < xs.length → goodC xs j = true) : cardsB xs = true := by
  unfold cardsB
  rw [List.all_eq_true]
  intro j hj
  exact h j (by simpa using hj)
theorem cards_at {xs : List Int} (h : cardsB xs = true) {k : Nat} (hk : k < xs.length) : goodC xs k = true := by
  unfold cardsB at h
  rw [List.all_eq_true] at h
  exact h k (by simpa using hk)
theorem hand_cards {xs : List Int} {lo hi : Nat} (h : handB xs lo hi = true) : cardsB xs = true := by
  unfold handB at h
  rw [Bool.and_eq_true] at h
  exact h.2
theorem hand_len {xs : List Int} {lo hi : Nat} (h : handB xs lo hi = true) : lo ≤ xs.length ∧ xs.length ≤ hi := by
  unfold handB at h
  rw [Bool.and_eq_true] at h
  exact of_decide_eq_true h.1
theorem card_range {xs : List Int} (h : cardsB xs = true) {k : Nat} (hk : k < xs.length) : ∃ j : Nat, xs.getD k 0 = (j : Int) ∧ j < 52 := by
  have h1 := cards_at h hk
  unfold goodC at h1
  rw [Bool.and_eq_true] at h1
  obtain ⟨a, b⟩ := inB_yes h1.1
  obtain ⟨j, hj⟩ := Int.eq_ofNat_of_zero_le a
  exact ⟨j, hj, by omega⟩
theorem quiet_eq {P : Program} {f : FuncId} {args : Array Value} {w : World} {n : Nat} {v : Value}
    (h : Calls P f args (w.drewN n) fun e w' => e = .returned v ∧ w.drewN n = w') : Calls P f args (w.drewN n) fun e w'' => e = .returned v ∧ ∃ m, w'' = w.drewN m :=
  h.mono fun _ _ ⟨he, hm⟩ => ⟨he, n, hm.symm⟩
/-! ### the program -/

set_option maxHeartbeats 1000000 in
theorem l00Has_any (A : Option Addr) (n c : Nat) (xs : List Int) (x : Int) (B : Nat) (w : World) (hR : Rd w B A n xs) (hn : n ≤ 9223372036854775807) :
    Calls Try.prog 64 #[.slice A n c, .int .i64 x] w fun e w' => e = .returned (.bool (hasB xs x)) ∧ w = w' := by
  have HL := hide hR.len
  obtain ⟨E, hE⟩ := ex_eq (hasB xs x)
  rw [hE]
  have HE := hide hE
  clear hE
  go_enter Try.func64, Try.ntmps64
  go_wp2
  go_loop [5] (fun i => ∃ k : Nat, k ≤ n ∧ i = .int .i64 k ∧ Hid (∀ j, j < k → xs.getD j 0 ≠ x)) (fun i => n - (intOf i).toNat)
  case atStart => exact ⟨0, Nat.zero_le _, rfl, fun j hj => absurd hj (Nat.not_lt_zero j)⟩
  case round =>
    obtain ⟨k, hk, rfl, hno⟩ := hrel
    by_cases hlt : k < n
    · obtain ⟨b, o, rfl, hbB, hc⟩ := hR.at_ hlt
      have hkx : k < xs.length := by rw [HL.out]; exact hlt
      clear hR
      by_cases hy : xs.getD k 0 = x
      · have HF := hide (has_yes hkx hy)
        have HK := hide hy
        have HKX := hide hkx
        rw [hy] at hc
        clear hy hkx
        go_wp2
        go_ret
        exact ⟨by rw [← HE.out, HF.out]; rfl, rfl⟩
      · obtain ⟨z, hz⟩ := ex_eq (xs.getD k 0)
        rw [hz] at hc hy
        have HZ := hide hz
        have hb : (z == x) = false := by simp; omega
        have HY := hide hy
        clear hz hy hkx
        go_wp2
        go_round
        case rel => exact ⟨k + 1, by omega, by go_num, fun j hj => by rcases Nat.lt_succ_iff_lt_or_eq.1 hj with h | h; exact hno.out j h; rw [h, HZ.out]; exact HY.out⟩
        case measure => simp [intOf]; omega
    · obtain rfl : k = n := by omega
      have HN := hide (has_no (xs := xs) (x := x) (fun j hj => hno.out j (by rw [← HL.out]; exact hj)))
      go_wp2
      go_ret
      exact ⟨by rw [← HE.out, HN.out]; rfl, rfl⟩

/-- what an index tells -/
def idxOk (xs : List Int) (x : Int) (i : Int) : Prop := (hasB xs x = true ∧ 0 ≤ i ∧ i < 9223372036854775808) ∨ (hasB xs x = false ∧ i = -1)

set_option maxHeartbeats 1000000 in
theorem Index_any (A : Option Addr) (n c : Nat) (xs : List Int) (x : Int) (B : Nat) (w : World) (hR : Rd w B A n xs) (hn : n ≤ 9223372036854775807) :
    Calls Try.prog 105 #[.slice A n c, .int .i64 x] w fun e w' => (∃ i, e = .returned (.int .i64 i) ∧ idxOk xs x i) ∧ w = w' := by
  have HL := hide hR.len
  go_enter Try.func105, Try.ntmps105
  go_wp2
  go_loop [5, 8] (fun _ i => ∃ k : Nat, k ≤ n ∧ i = .int .i64 k ∧ Hid (∀ j, j < k → xs.getD j 0 ≠ x)) (fun _ i => n - (intOf i).toNat)
  case atStart => exact ⟨0, Nat.zero_le _, rfl, fun j hj => absurd hj (Nat.not_lt_zero j)⟩
  case round =>
    obtain ⟨k, hk, rfl, hno⟩ := hrel
    by_cases hlt : k < n
    · obtain ⟨b, o, rfl, hbB, hc⟩ := hR.at_ hlt
      have hkx : k < xs.length := by rw [HL.out]; exact hlt
      clear hR
      by_cases hy : xs.getD k 0 = x
      · have HF := hide (has_yes hkx hy)
        have HK := hide hy
        have HKX := hide hkx
        rw [hy] at hc
        clear hy hkx
        go_wp2
        go_ret
        exact ⟨⟨_, rfl, .inl ⟨HF.out, by omega, by omega⟩⟩, rfl⟩
      · obtain ⟨z, hz⟩ := ex_eq (xs.getD k 0)
        rw [hz] at hc hy
        have HZ := hide hz
        have hb : (x == z) = false := by simp; omega
        have HY := hide hy
        clear hz hy hkx
        go_wp2
        go_round
        case rel => exact ⟨k + 1, by omega, by go_num, fun j hj => by rcases Nat.lt_succ_iff_lt_or_eq.1 hj with h | h; exact hno.out j h; rw [h, HZ.out]; exact HY.out⟩
        case measure => simp [intOf]; omega
    · obtain rfl : k = n := by omega
      have HN := hide (has_no (xs := xs) (x := x) (fun j hj => hno.out j (by rw [← HL.out]; exact hj)))
      go_wp2
      go_ret
      exact ⟨⟨_, rfl, .inr ⟨HN.out, rfl⟩⟩, rfl⟩

theorem Contains_any (A : Option Addr) (n c : Nat) (xs : List Int) (x : Int) (B : Nat) (w : World) (hR : Rd w B A n xs) (hn : n ≤ 9223372036854775807) :
    Calls Try.prog 86 #[.slice A n c, .int .i64 x] w fun e w' => e = .returned (.bool (hasB xs x)) ∧ w = w' := by
  have HI := hide (Index_any A n c xs x B w hR hn)
  obtain ⟨E, hE⟩ := ex_eq (hasB xs x)
  rw [hE]
  have HE := hide hE
  clear hR hE
  go_enter Try.func86, Try.ntmps86
  go_wp2_with fail
  refine HI.out.mono ?_
  rintro e w' ⟨⟨i, rfl, hi⟩, rfl⟩
  rcases hi with ⟨h1, h2, h3⟩ | ⟨h1, h2⟩
  · have HF := hide (HE.out.symm.trans h1)
    have hd : decide (0 ≤ i) = true := by simpa using h2
    clear h1 HI
    go_wp2
    go_ret
    exact ⟨by rw [HF.out]; rfl, rfl⟩
  · have HF := hide (HE.out.symm.trans h1)
    subst h2
    clear h1 HI
    go_wp2
    go_ret
    exact ⟨by rw [HF.out]; rfl, rfl⟩

set_option maxHeartbeats 1000000 in
theorem l03Hand_any (A : Option Addr) (n c : Nat) (xs : List Int) (B : Nat) (w : World) (hR : Rd w B A n xs) (hn : n ≤ 1048576) (hnc : n ≤ c) :
    Calls Try.prog 52 #[.slice A n c] w fun e w' => e = .returned (.bool (handB xs 1 7)) ∧ ∃ q, w' = w.drewN q := by
  have HL := hide hR.len
  have HE0 := hide (show cardsB xs = false → handB xs 1 7 = false from fun h => by simp [handB, h])
  have HE1 := hide (show cardsB xs = true → handB xs 1 7 = decide (1 ≤ n ∧ n ≤ 7) from fun h => by simp [handB, h, hR.len])
  obtain ⟨E, hE⟩ := ex_eq (handB xs 1 7)
  rw [hE] at HE0 HE1 ⊢
  clear hE
  go_enter Try.func52, Try.ntmps52
  go_wp2
  go_loopw [3, 6] (fun _ i wr => ∃ k q : Nat, k ≤ n ∧ i = .int .i64 k ∧ Hid (∀ j, j < k → goodC xs j = true) ∧ Hid (wr = w.drewN q)) (fun _ i _ => n - (intOf i).toNat)
  case atStart => exact ⟨0, 0, Nat.zero_le _, rfl, fun j hj => absurd hj (Nat.not_lt_zero j), rfl⟩
  case round =>
    obtain ⟨k, q, hk, rfl, hgood, hw⟩ := hrel
    by_cases hlt : k < n
    · have hRk : Rd wr B A k (xs.take k) := by rw [hw.out]; exact Rd.take hR hk
      have hR' : Rd wr B A n xs := by rw [hw.out]; exact hR
      obtain ⟨b, o, rfl, hbB, hc⟩ := hR'.at_ hlt
      have hkx : k < xs.length := by rw [HL.out]; exact hlt
      have hlt' : (k : Int) < (n : Int) := by omega
      have h0 : (0 : Int) ≤ (k : Int) := by omega
      have hkc : (k : Int) ≤ (c : Int) := by omega
      clear hR hR'
      obtain ⟨x, hx⟩ := ex_eq (xs.getD k 0)
      have hgx : goodC xs k = (inB x 0 51 && !hasB (xs.take k) x) := by unfold goodC; rw [hx]
      rw [hx] at hc
      cases hin : inB x 0 51
      · have HF := hide (cards_no hkx (by rw [hgx, hin]; rfl))
        clear hkx hRk hx hgx
        go_wp2
        go_quiet ((go_at_call 62; exact quiet_eq (l00In_any _ _ _ _)))
        go_wp2
        go_ret
        exact ⟨by rw [HE0.out HF.out]; rfl, q + nq, by rw [hw.out, World.drewN_drewN]⟩
      · have hH := fun q => l00Has_any (some ⟨b, o, none⟩) k c (xs.take k) x B (wr.drewN q) (hRk.drewN q) (by omega)
        cases hhas : hasB (xs.take k) x
        · have HN := hide (show goodC xs k = true by rw [hgx, hin, hhas]; rfl)
          rw [hhas] at hH
          have HH := hide hH
          clear hkx hRk hH hhas hx hgx
          go_wp2
          go_quiet ((first | (go_at_call 62; exact quiet_eq (l00In_any _ _ _ _)) | (go_at_call 64; exact quiet_eq (HH.out _))))
          go_wp2
          go_roundw
          case rel => exact ⟨k + 1, q + nq, by omega, by go_num, fun i hi => by rcases Nat.lt_succ_iff_lt_or_eq.1 hi with h | h; exact hgood.out i h; rw [h]; exact HN.out, hide (by rw [hw.out, World.drewN_drewN])⟩
          case measure => simp [intOf]; omega
        · have HF := hide (cards_no hkx (by rw [hgx, hin, hhas]; rfl))
          rw [hhas] at hH
          have HH := hide hH
          clear hkx hRk hH hhas hx hgx
          go_wp2
          go_quiet ((first | (go_at_call 62; exact quiet_eq (l00In_any _ _ _ _)) | (go_at_call 64; exact quiet_eq (HH.out _))))
          go_wp2
          go_ret
          exact ⟨by rw [HE0.out HF.out]; rfl, q + nq, by rw [hw.out, World.drewN_drewN]⟩
    · obtain rfl : k = n := by omega
      have HY := hide (HE1.out (cards_yes (fun j hj => hgood.out j (by rw [← HL.out]; exact hj))))
      clear hR
      by_cases h1 : 1 ≤ k
      · by_cases h7 : k ≤ 7
        · go_wp2
          go_ret
          exact ⟨by rw [HY.out]; simp [h1, h7] <;> omega, q, hw.out⟩
        · go_wp2
          go_ret
          exact ⟨by rw [HY.out]; simp [h1, h7] <;> omega, q, hw.out⟩
      · obtain rfl : k = 0 := by omega
        go_wp2
        go_ret
        exact ⟨by rw [HY.out]; rfl, q, hw.out⟩

set_option maxHeartbeats 1000000 in
theorem isHand_any (A : Option Addr) (n c : Nat) (xs : List Int) (lo hi : Nat) (B : Nat) (w : World) (hR : Rd w B A n xs) (hn : n ≤ 1048576) (hnc : n ≤ c) (_hlo : lo ≤ 1000) (_hhi : hi ≤ 1000) :
    Calls Try.prog 53 #[.slice A n c, .int .i64 lo, .int .i64 hi] w fun e w' => e = .returned (.bool (handB xs lo hi)) ∧ w = w' := by
  have HL := hide hR.len
  by_cases hl : lo ≤ n
  rotate_left
  · have hE : handB xs lo hi = false := by simp [handB, hR.len, hl]
    rw [hE]
    clear hE hR
    go_enter Try.func53, Try.ntmps53
    go_wp2
    go_ret
    exact ⟨rfl, rfl⟩
  by_cases hh : n ≤ hi
  rotate_left
  · have hE : handB xs lo hi = false := by simp [handB, hR.len, hh]
    rw [hE]
    clear hE hR
    go_enter Try.func53, Try.ntmps53
    go_wp2
    go_ret
    exact ⟨rfl, rfl⟩
  have g1 : decide (n < lo) = false := by simp; omega
  have g2 : decide (hi < n) = false := by simp; omega
  have hE : handB xs lo hi = cardsB xs := by simp [handB, hR.len, hl, hh]
  rw [hE]
  clear hE
  obtain ⟨E, hE⟩ := ex_eq (cardsB xs)
  rw [hE]
  have HE := hide hE
  clear hE
  go_enter Try.func53, Try.ntmps53
  go_wp2
  go_loop [7, 8, 21] (fun _ _ i => ∃ k : Nat, k ≤ n ∧ i = .int .i64 k ∧ Hid (∀ j, j < k → goodC xs j = true)) (fun _ _ i => n - (intOf i).toNat)
  case atStart => exact ⟨0, Nat.zero_le _, rfl, fun j hj => absurd hj (Nat.not_lt_zero j)⟩
  case round =>
    obtain ⟨k, hk, rfl, hgood⟩ := hrel
    by_cases hlt : k < n
    · have hRk : Rd w B A k (xs.take k) := Rd.take hR hk
      obtain ⟨b, o, rfl, hbB, hc⟩ := hR.at_ hlt
      have hkx : k < xs.length := by rw [HL.out]; exact hlt
      have hkc : (k : Int) ≤ (c : Int) := by omega
      clear hR
      obtain ⟨x, hx⟩ := ex_eq (xs.getD k 0)
      have hgx : goodC xs k = (inB x 0 51 && !hasB (xs.take k) x) := by unfold goodC; rw [hx]
      rw [hx] at hc
      cases hin : inB x 0 51
      · have HF := hide (cards_no hkx (by rw [hgx, hin]; rfl))
        clear hkx hRk hx hgx
        go_wp2_with (go_at_call 70; refine (within_any _ _ _ _).mono ?_; rintro e w' ⟨rfl, rfl⟩)
        go_ret
        exact ⟨by rw [← HE.out, HF.out]; rfl, rfl⟩
      · have hH := Contains_any (some ⟨b, o, none⟩) k c (xs.take k) x B w hRk (by omega)
        cases hhas : hasB (xs.take k) x
        · have HN := hide (show goodC xs k = true by rw [hgx, hin, hhas]; rfl)
          rw [hhas] at hH
          have HH := hide hH
          clear hkx hRk hH hhas hx hgx
          go_wp2_with (first | (go_at_call 70; refine (within_any _ _ _ _).mono ?_; rintro e w' ⟨rfl, rfl⟩) | (go_at_call 86; refine HH.out.mono ?_; rintro e w' ⟨rfl, rfl⟩))
          go_round
          case rel => exact ⟨k + 1, by omega, by go_num, fun i hi => by rcases Nat.lt_succ_iff_lt_or_eq.1 hi with h | h; exact hgood.out i h; rw [h]; exact HN.out⟩
          case measure => simp [intOf]; omega
        · have HF := hide (cards_no hkx (by rw [hgx, hin, hhas]; rfl))
          rw [hhas] at hH
          have HH := hide hH
          clear hkx hRk hH hhas hx hgx
          go_wp2_with (first | (go_at_call 70; refine (within_any _ _ _ _).mono ?_; rintro e w' ⟨rfl, rfl⟩) | (go_at_call 86; refine HH.out.mono ?_; rintro e w' ⟨rfl, rfl⟩))
          go_ret
          exact ⟨by rw [← HE.out, HF.out]; rfl, rfl⟩
    · obtain rfl : k = n := by omega
      have HY := hide (cards_yes (fun j hj => hgood.out j (by rw [← HL.out]; exact hj)))
      clear hR
      go_wp2
      go_ret
      exact ⟨by rw [← HE.out, HY.out]; rfl, rfl⟩

theorem hand_five (xs : List Int) : handB xs 5 5 = (handB xs 1 7 && decide (xs.length = 5)) := by
  unfold handB
  cases cardsB xs
  · simp
  · rw [Bool.eq_iff_iff]; simp; omega
theorem hand_big (xs : List Int) : handB xs 5 7 = (handB xs 1 7 && decide (5 ≤ xs.length)) := by
  unfold handB
  cases cardsB xs
  · simp
  · rw [Bool.eq_iff_iff]; simp; omega

theorem spec_IsHand (A : Option Addr) (n c : Nat) (xs : List Int) (w : World) (hR : Rd w w.heap.size A n xs) (hn : n ≤ 1048576) (hnc : n ≤ c) :
    Calls Try.prog 16 #[.slice A n c] w fun e w' => e = .returned (.bool (handB xs 1 7)) ∧ Below w.heap.size w w' := by
  have H := hide (l03Hand_any A n c xs w.heap.size w hR hn hnc)
  clear hR
  generalize handB xs 1 7 = E at *
  go_enter Try.func16, Try.ntmps16
  go_wp2_with fail
  refine H.out.mono ?_
  rintro e w' ⟨rfl, q, rfl⟩
  go_wp2
  go_ret
  exact ⟨rfl, bdrewN (Below.refl _ _) _⟩

theorem impl_IsHand (A : Option Addr) (n c : Nat) (xs : List Int) (w : World) (hR : Rd w w.heap.size A n xs) (hn : n ≤ 1048576) (hnc : n ≤ c) :
    Calls Try.prog 18 #[.slice A n c] w fun e w' => e = .returned (.bool (handB xs 1 7)) ∧ Below w.heap.size w w' := by
  have H := hide (isHand_any A n c xs 1 7 w.heap.size w hR hn hnc (by omega) (by omega))
  clear hR
  generalize handB xs 1 7 = E at *
  go_enter Try.func18, Try.ntmps18
  go_wp2_with fail
  refine H.out.mono ?_
  rintro e w' ⟨rfl, rfl⟩
  go_wp2
  go_ret
  exact ⟨rfl, Below.refl _ _⟩

theorem l03Five_any (A : Option Addr) (n c : Nat) (xs : List Int) (B : Nat) (w : World) (hR : Rd w B A n xs) (hn : n ≤ 1048576) (hnc : n ≤ c) :
    Calls Try.prog 54 #[.slice A n c] w fun e w' => e = .returned (.bool (handB xs 5 5)) ∧ ∃ q, w' = w.drewN q := by
  have H := hide (l03Hand_any A n c xs B w hR hn hnc)
  rw [hand_five, hR.len]
  clear hR
  generalize handB xs 1 7 = E at *
  by_cases h : n = 5
  · have hb : decide (n = 5) = true := decide_eq_true h
    rw [hb]
    subst h
    cases E
    all_goals
      go_enter Try.func54, Try.ntmps54
      go_wp2_with fail
      refine H.out.mono ?_
      rintro e w' ⟨rfl, q, rfl⟩
      go_wp2
      go_ret
      exact ⟨rfl, q, rfl⟩
  · have hb : decide (n = 5) = false := decide_eq_false h
    rw [hb]
    have hb2 : ((n : Int) == 5) = false := by simp; omega
    clear hb
    cases E
    all_goals
      go_enter Try.func54, Try.ntmps54
      go_wp2_with fail
      refine H.out.mono ?_
      rintro e w' ⟨rfl, q, rfl⟩
      go_wp2
      go_ret
      exact ⟨rfl, q, rfl⟩

theorem l03Big_any (A : Option Addr) (n c : Nat) (xs : List Int) (B : Nat) (w : World) (hR : Rd w B A n xs) (hn : n ≤ 1048576) (hnc : n ≤ c) :
    Calls Try.prog 58 #[.slice A n c] w fun e w' => e = .returned (.bool (handB xs 5 7)) ∧ ∃ q, w' = w.drewN q := by
  have H := hide (l03Hand_any A n c xs B w hR hn hnc)
  rw [hand_big, hR.len]
  clear hR
  generalize handB xs 1 7 = E at *
  by_cases h : 5 ≤ n
  · have hb : decide (5 ≤ n) = true := decide_eq_true h
    rw [hb]
    have hb2 : decide ((5 : Int) ≤ (n : Int)) = true := by simp; omega
    clear hb
    cases E
    all_goals
      go_enter Try.func58, Try.ntmps58
      go_wp2_with fail
      refine H.out.mono ?_
      rintro e w' ⟨rfl, q, rfl⟩
      go_wp2
      go_ret
      exact ⟨rfl, q, rfl⟩
  · have hb : decide (5 ≤ n) = false := decide_eq_false h
    rw [hb]
    have hb2 : decide ((5 : Int) ≤ (n : Int)) = false := by simp; omega
    clear hb
    cases E
    all_goals
      go_enter Try.func58, Try.ntmps58
      go_wp2_with fail
      refine H.out.mono ?_
      rintro e w' ⟨rfl, q, rfl⟩
      go_wp2
      go_ret
      exact ⟨rfl, q, rfl⟩

end Go.Proofs.Ytlldocdmjeeaaaa.hand
