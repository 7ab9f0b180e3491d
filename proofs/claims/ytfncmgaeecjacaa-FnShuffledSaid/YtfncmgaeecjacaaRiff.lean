/-
  RiffleBy and UnriffleBy of both packages answer the same. Conditions: those of each theorem.
-/
import Derived.Test.YtfncmgaeecjacaaApp
import Derived.Test.YtfncmgaeecjacaaDeck
import Derived.Test.YtfncmgaeecjacaaLawB
namespace Go.Proofs.Ytfncmgaeecjacaa.deck
open Go.RowKit
open base mem

def cF (ys : List Bool) : Nat → Nat
  | 0 => 0
  | k + 1 => cF ys k + (if ys.getD k false then 0 else 1)
def cT (ys : List Bool) : Nat → Nat
  | 0 => 0
  | k + 1 => cT ys k + (if ys.getD k false then 1 else 0)
theorem cF_add (ys : List Bool) (k : Nat) : cF ys k + cT ys k = k := by
  induction k with
  | zero => rfl
  | succ k ih => rw [cF, cT]; split <;> omega
theorem cT_mono (ys : List Bool) {j k : Nat} (h : j ≤ k) : cT ys j ≤ cT ys k := by
  induction k with
  | zero => obtain rfl : j = 0 := by omega
            exact Nat.le_refl _
  | succ k ih =>
    rcases Nat.lt_succ_iff_lt_or_eq.1 (Nat.lt_succ_of_le h) with h1 | h1
    · rw [cT]; have := ih (by omega); omega
    · rw [h1]; exact Nat.le_refl _
theorem rif_hi {ys : List Bool} {k n : Nat} (hk : k < n) (h : ys.getD k false = true) : cF ys n + cT ys k < n := by
  have h1 := cT_mono ys (show k + 1 ≤ n from hk)
  have h2 := cF_add ys n
  rw [cT, h, if_pos rfl] at h1
  omega
theorem rif_lo {ys : List Bool} {k n : Nat} (hk : k < n) : cF ys k < n := by
  have := cF_add ys k
  omega
def rifTo (xs : List Int) (ys : List Bool) (u : Nat) : Nat → List Int
  | 0 => []
  | k + 1 => rifTo xs ys u k ++ [if ys.getD k false then xs.getD (u + cT ys k) 0 else xs.getD (cF ys k) 0]
theorem rifTo_len (xs : List Int) (ys : List Bool) (u k : Nat) : (rifTo xs ys u k).length = k := by induction k with | zero => rfl | succ k ih => simp [rifTo, ih]
def rifOk (xs : List Int) (ys : List Bool) : Bool := deckB xs && decide (ys.length = xs.length)
def rifOut (xs : List Int) (ys : List Bool) : List Int := if rifOk xs ys then rifTo xs ys (cF ys ys.length) ys.length else []
theorem rif_len52 {xs : List Int} {ys : List Bool} (h : rifOk xs ys = true) : ys.length ≤ 52 := by
  simp only [rifOk, Bool.and_eq_true] at h
  have h1 := deck_len h.1
  have h2 := of_decide_eq_true h.2
  omega
theorem rifOut_len (xs : List Int) (ys : List Bool) : (rifOut xs ys).length ≤ 1048576 := by
  unfold rifOut
  split
  · next h => have := rif_len52 h; rw [rifTo_len]; omega
  · simp
/-- the cards of one half, in order -/
def selTo (xs : List Int) (ys : List Bool) (b : Bool) : Nat → List Int
  | 0 => []
  | k + 1 => if ys.getD k false = b then selTo xs ys b k ++ [xs.getD k 0] else selTo xs ys b k
theorem selTo_yes {xs : List Int} {ys : List Bool} {b : Bool} {k : Nat} (h : ys.getD k false = b) : selTo xs ys b (k + 1) = selTo xs ys b k ++ [xs.getD k 0] := by rw [selTo, if_pos h]
theorem selTo_no {xs : List Int} {ys : List Bool} {b : Bool} {k : Nat} (h : ¬ ys.getD k false = b) : selTo xs ys b (k + 1) = selTo xs ys b k := by rw [selTo, if_neg h]
theorem selTo_len (xs : List Int) (ys : List Bool) (b : Bool) (k : Nat) : (selTo xs ys b k).length ≤ k := by
  induction k with
  | zero => exact Nat.le_refl _
  | succ k ih =>
    rw [selTo]
    split
    · rw [List.length_append]; simp only [List.length_cons, List.length_nil]; omega
    · omega
def unrOut (xs : List Int) (ys : List Bool) : List Int := if rifOk xs ys then selTo xs ys false ys.length ++ selTo xs ys true ys.length else []
theorem unrOut_len (xs : List Int) (ys : List Bool) : (unrOut xs ys).length ≤ 1048576 := by
  unfold unrOut
  split
  · next h =>
    have := rif_len52 h
    have := selTo_len xs ys false ys.length
    have := selTo_len xs ys true ys.length
    rw [List.length_append]; omega
  · simp

set_option maxHeartbeats 2000000 in
theorem spec_RiffleBy (A : Option Addr) (n c : Nat) (xs : List Int) (A' : Option Addr) (n' c' : Nat) (ys : List Bool) (w : World) (hR : Rd w w.heap.size A n xs) (hn : n ≤ 1048576) (hnc : n ≤ c)
    (hS : RdB w w.heap.size A' n' ys) (hn' : n' ≤ 1048576) (_hnc' : n' ≤ c') :
    Calls Try.prog 26 #[.slice A n c, .slice A' n' c'] w fun e w' => ∃ A2 c2, e = .returned (.tuple #[.slice A2 (rifOut xs ys).length c2, .bool (rifOk xs ys)]) ∧ Own w' w.heap.size A2 (rifOut xs ys).length c2 (rifOut xs ys) ∧ Below w.heap.size w w' := by
  have hL1 := l02Deck_b A n c xs w hR (by omega) hnc
  cases hD : deckB xs
  · have hK : rifOk xs ys = false := by simp [rifOk, hD]
    have hO : rifOut xs ys = [] := by simp [rifOut, hK]
    rw [hD] at hL1
    rw [hO, hK]
    have HL1 := hide hL1
    clear hL1 hO hK hD hR hS
    go_enter Try.func26, Try.ntmps26
    go_wp2_with fail
    refine HL1.out.mono ?_
    rintro e v1 ⟨rfl, hb⟩
    go_wp2
    go_ret2
    exact ⟨none, 0, rfl, Own.nil _ _, hb⟩
  by_cases hl : n' = n
  rotate_left
  · have hK : rifOk xs ys = false := by simp [rifOk, hR.len, hS.len, hl]
    have hO : rifOut xs ys = [] := by simp [rifOut, hK]
    rw [hD] at hL1
    rw [hO, hK]
    have HL1 := hide hL1
    have hbb : ((n' : Int) != (n : Int)) = true := by rw [bne_iff_ne]; omega
    clear hL1 hO hK hD hR hS hl
    go_enter Try.func26, Try.ntmps26
    go_wp2_with fail
    refine HL1.out.mono ?_
    rintro e v1 ⟨rfl, hb⟩
    go_wp2
    go_ret2
    exact ⟨none, 0, rfl, Own.nil _ _, hb⟩
  subst hl
  have hK : rifOk xs ys = true := by simp [rifOk, hD, hR.len, hS.len]
  have hO : rifOut xs ys = rifTo xs ys (cF ys n') n' := by simp [rifOut, hK, hS.len]
  rw [hD] at hL1
  rw [hO, hK]
  have hd := deck_len hD
  rw [hR.len] at hd
  have HL1 := hide hL1
  have HX := hide hS.len
  clear hL1 hO hK hD
  go_enter Try.func26, Try.ntmps26
  go_wp2_with fail
  refine HL1.out.mono ?_
  rintro e v1 ⟨rfl, hb⟩
  have hz := hb.size
  have hR1 := hR.below hb
  have hS1 := hS.below hb
  clear hR hS
  go_wp2
  go_loop [6, 7] (fun u i => ∃ k : Nat, k ≤ n' ∧ i = .int .i64 k ∧ u = .int .i64 ((cF ys k : Nat) : Int)) (fun _ i => n' - (intOf i).toNat)
  case atStart => exact ⟨0, Nat.zero_le _, rfl, rfl⟩
  case round =>
    obtain ⟨k, hk, rfl, rfl⟩ := hrel
    by_cases hlt : k < n'
    · obtain ⟨b, o, rfl, hbB, hc⟩ := hS1.at_ hlt
      have hcf := rif_lo (ys := ys) hlt
      obtain ⟨y, hy⟩ := ex_eq (ys.getD k false)
      rw [hy] at hc
      cases y
      · have HC := hide (show cF ys (k + 1) = cF ys k + 1 by rw [cF, hy]; rfl)
        obtain ⟨j, hj⟩ := ex_eq (cF ys k)
        rw [hj] at HC hcf ⊢
        clear hR1 hS1 hy hj
        go_wp2
        go_round
        case rel => exact ⟨k + 1, by omega, by go_num, int_congr (by have := HC.out; omega)⟩
        case measure => simp [intOf]; omega
      · have HC := hide (show cF ys (k + 1) = cF ys k by rw [cF, hy]; rfl)
        obtain ⟨j, hj⟩ := ex_eq (cF ys k)
        rw [hj] at HC hcf ⊢
        clear hR1 hS1 hy hj
        go_wp2
        go_round
        case rel => exact ⟨k + 1, by omega, by go_num, int_congr (by have := HC.out; omega)⟩
        case measure => simp [intOf]; omega
    · obtain rfl : n' = k := by omega
      have hu := cF_add ys n'
      go_wp2
      generalize hg : w.heap.size = g at *
      have HG := hide hg
      clear hg
      go_loopw [8, 9, 10, 11] (fun v one two i wr => ∃ j : Nat, j ≤ n' ∧ i = .int .i64 j ∧ one = .int .i64 ((cF ys j : Nat) : Int) ∧ two = .int .i64 ((cF ys n' + cT ys j : Nat) : Int) ∧ Lst wr g v (rifTo xs ys (cF ys n') j) ∧ Below g v1 wr) (fun _ _ _ i _ => n' - (intOf i).toNat)
      case atStart => exact ⟨0, Nat.zero_le _, rfl, rfl, rfl, Lst.new _ hz, (Below.refl _ _).alloc hz _⟩
      case round =>
        obtain ⟨k, hk2, rfl, rfl, rfl, hown, hbr⟩ := hrel
        have hgr : g ≤ wr.heap.size := Nat.le_trans hz hbr.size
        by_cases hlt : k < n'
        · obtain ⟨b, o, rfl, hbB, hc⟩ := (hS1.below hbr).at_ hlt
          have hlk := rifTo_len xs ys (cF ys n') k
          clear hu
          obtain ⟨y, hy⟩ := ex_eq (ys.getD k false)
          rw [hy] at hc
          cases y
          · obtain ⟨b', o', rfl, hbB', hc'⟩ := (hR1.below (hbr.mono (Nat.le_refl _))).at_ (rif_lo hlt)
            have HS := hide (show rifTo xs ys (cF ys n') k ++ [xs.getD (cF ys k) 0] = rifTo xs ys (cF ys n') (k + 1) by rw [rifTo, hy]; rfl)
            have HC := hide (show cF ys (k + 1) = cF ys k + 1 ∧ cT ys (k + 1) = cT ys k + 0 by rw [cF, cT, hy]; exact ⟨rfl, rfl⟩)
            obtain ⟨x, hx⟩ := ex_eq (xs.getD (cF ys k) 0)
            rw [hx] at hc' HS
            obtain ⟨j, hj⟩ := ex_eq (cF ys k)
            have HJ := hide hj
            have hjn : j < n' := by rw [← hj]; exact rif_lo hlt
            rw [hj] at hc' ⊢
            obtain ⟨t, ht⟩ := ex_eq (cF ys n' + cT ys k)
            have HT := hide ht
            rw [ht]
            have ht2 : t ≤ 1048576 := by have := cF_add ys n'; have := cF_add ys k; have := cT_mono ys hk2; omega
            clear hx hy hj ht hR1 hS1 hb
            go_wp2_with (at_builtin; refine wpList_app rfl (.tmp 56) (.tmp 61) rfl g _ (rifTo xs ys (cF ys n') k) [x] rfl (hown.alloc _) (some ⟨wr.heap.size, 0, none⟩) 1 1 rfl (rd_one wr x 2) (fun h => by cases h) (by omega) (by simp; omega) ?_; intro v4 w4 ho4 hg4 _)
            have hb4 : Below g wr w4 := ((Below.refl _ _).alloc hgr _).trans ((hown.alloc _).grown hg4 (by simp; omega))
            have ho4' : Lst w4 g v4 (rifTo xs ys (cF ys n') (k + 1)) := by rw [← HS.out]; exact ho4
            clear hg4 ho4 hown
            go_wp2
            go_roundw
            case rel => exact ⟨k + 1, by omega, by go_num, int_congr (by have := HC.out; have := HJ.out; have := HT.out; omega), int_congr (by have := HC.out; have := HJ.out; have := HT.out; omega), ho4', hbr.trans hb4⟩
            case measure => simp [intOf]; omega
          · obtain ⟨b', o', rfl, hbB', hc'⟩ := (hR1.below (hbr.mono (Nat.le_refl _))).at_ (rif_hi hlt hy)
            have HS := hide (show rifTo xs ys (cF ys n') k ++ [xs.getD (cF ys n' + cT ys k) 0] = rifTo xs ys (cF ys n') (k + 1) by rw [rifTo, hy]; rfl)
            have HC := hide (show cF ys (k + 1) = cF ys k + 0 ∧ cT ys (k + 1) = cT ys k + 1 by rw [cF, cT, hy]; exact ⟨rfl, rfl⟩)
            obtain ⟨x, hx⟩ := ex_eq (xs.getD (cF ys n' + cT ys k) 0)
            rw [hx] at hc' HS
            obtain ⟨j, hj⟩ := ex_eq (cF ys n' + cT ys k)
            have HJ := hide hj
            have hjn : j < n' := by rw [← hj]; exact rif_hi hlt hy
            rw [hj] at hc' ⊢
            obtain ⟨t, ht⟩ := ex_eq (cF ys k)
            have HT := hide ht
            rw [ht]
            have ht2 : t ≤ 1048576 := by have := cF_add ys n'; have := cF_add ys k; have := cT_mono ys hk2; omega
            clear hx hy hj ht hR1 hS1 hb
            go_wp2_with (at_builtin; refine wpList_app rfl (.tmp 47) (.tmp 52) rfl g _ (rifTo xs ys (cF ys n') k) [x] rfl (hown.alloc _) (some ⟨wr.heap.size, 0, none⟩) 1 1 rfl (rd_one wr x 2) (fun h => by cases h) (by omega) (by simp; omega) ?_; intro v4 w4 ho4 hg4 _)
            have hb4 : Below g wr w4 := ((Below.refl _ _).alloc hgr _).trans ((hown.alloc _).grown hg4 (by simp; omega))
            have ho4' : Lst w4 g v4 (rifTo xs ys (cF ys n') (k + 1)) := by rw [← HS.out]; exact ho4
            clear hg4 ho4 hown
            go_wp2
            go_roundw
            case rel => exact ⟨k + 1, by omega, by go_num, int_congr (by have := HC.out; have := HJ.out; have := HT.out; omega), int_congr (by have := HC.out; have := HJ.out; have := HT.out; omega), ho4', hbr.trans hb4⟩
            case measure => simp [intOf]; omega
        · obtain rfl : k = n' := by omega
          obtain ⟨A4, c4, rfl, ho⟩ := hown.form
          go_wp2
          go_ret2
          exact ⟨A4, c4, rfl, by rw [HG.out]; exact ho, by rw [HG.out]; exact hb.trans hbr⟩

set_option maxHeartbeats 2000000 in
theorem impl_RiffleBy (A : Option Addr) (n c : Nat) (xs : List Int) (A' : Option Addr) (n' c' : Nat) (ys : List Bool) (w : World) (hR : Rd w w.heap.size A n xs) (hn : n ≤ 1048576) (hnc : n ≤ c)
    (hS : RdB w w.heap.size A' n' ys) (hn' : n' ≤ 1048576) (_hnc' : n' ≤ c') :
    Calls Try.prog 27 #[.slice A n c, .slice A' n' c'] w fun e w' => ∃ A2 c2, e = .returned (.tuple #[.slice A2 (rifOut xs ys).length c2, .bool (rifOk xs ys)]) ∧ Own w' w.heap.size A2 (rifOut xs ys).length c2 (rifOut xs ys) ∧ Below w.heap.size w w' := by
  have hL1 := IsDeck_b A n c xs w hR (by omega) hnc
  cases hD : deckB xs
  · have hK : rifOk xs ys = false := by simp [rifOk, hD]
    have hO : rifOut xs ys = [] := by simp [rifOut, hK]
    rw [hD] at hL1
    rw [hO, hK]
    have HL1 := hide hL1
    clear hL1 hO hK hD hR hS
    go_enter Try.func27, Try.ntmps27
    go_wp2_with fail
    refine HL1.out.mono ?_
    rintro e v1 ⟨rfl, hb⟩
    go_wp2
    go_ret2
    exact ⟨none, 0, rfl, Own.nil _ _, hb⟩
  by_cases hl : n' = n
  rotate_left
  · have hK : rifOk xs ys = false := by simp [rifOk, hR.len, hS.len, hl]
    have hO : rifOut xs ys = [] := by simp [rifOut, hK]
    rw [hD] at hL1
    rw [hO, hK]
    have HL1 := hide hL1
    have hbb : ((n' : Int) != (n : Int)) = true := by rw [bne_iff_ne]; omega
    clear hL1 hO hK hD hR hS hl
    go_enter Try.func27, Try.ntmps27
    go_wp2_with fail
    refine HL1.out.mono ?_
    rintro e v1 ⟨rfl, hb⟩
    go_wp2
    go_ret2
    exact ⟨none, 0, rfl, Own.nil _ _, hb⟩
  subst hl
  have hK : rifOk xs ys = true := by simp [rifOk, hD, hR.len, hS.len]
  have hO : rifOut xs ys = rifTo xs ys (cF ys n') n' := by simp [rifOut, hK, hS.len]
  rw [hD] at hL1
  rw [hO, hK]
  have hd := deck_len hD
  rw [hR.len] at hd
  have HL1 := hide hL1
  have HX := hide hS.len
  clear hL1 hO hK hD
  go_enter Try.func27, Try.ntmps27
  go_wp2_with fail
  refine HL1.out.mono ?_
  rintro e v1 ⟨rfl, hb⟩
  have hz := hb.size
  have hR1 := hR.below hb
  have hS1 := hS.below hb
  clear hR hS
  go_wp2
  go_loop [7, 9, 25] (fun u _ i => ∃ k : Nat, k ≤ n' ∧ i = .int .i64 k ∧ u = .int .i64 ((cF ys k : Nat) : Int)) (fun _ _ i => n' - (intOf i).toNat)
  case atStart => exact ⟨0, Nat.zero_le _, rfl, rfl⟩
  case round =>
    obtain ⟨k, hk, rfl, rfl⟩ := hrel
    by_cases hlt : k < n'
    · obtain ⟨b, o, rfl, hbB, hc⟩ := hS1.at_ hlt
      have hcf := rif_lo (ys := ys) hlt
      obtain ⟨y, hy⟩ := ex_eq (ys.getD k false)
      rw [hy] at hc
      cases y
      · have HC := hide (show cF ys (k + 1) = cF ys k + 1 by rw [cF, hy]; rfl)
        obtain ⟨j, hj⟩ := ex_eq (cF ys k)
        rw [hj] at HC hcf ⊢
        clear hR1 hS1 hy hj
        go_wp2
        go_round
        case rel => exact ⟨k + 1, by omega, by go_num, int_congr (by have := HC.out; omega)⟩
        case measure => simp [intOf]; omega
      · have HC := hide (show cF ys (k + 1) = cF ys k by rw [cF, hy]; rfl)
        obtain ⟨j, hj⟩ := ex_eq (cF ys k)
        rw [hj] at HC hcf ⊢
        clear hR1 hS1 hy hj
        go_wp2
        go_round
        case rel => exact ⟨k + 1, by omega, by go_num, int_congr (by have := HC.out; omega)⟩
        case measure => simp [intOf]; omega
    · obtain rfl : n' = k := by omega
      have hu := cF_add ys n'
      go_wp2
      generalize hg : w.heap.size = g at *
      have HG := hide hg
      clear hg
      go_loopw [6, 7, 10, 12, 37] (fun one two v _ i wr => ∃ j : Nat, j ≤ n' ∧ i = .int .i64 j ∧ one = .int .i64 ((cF ys j : Nat) : Int) ∧ two = .int .i64 ((cF ys n' + cT ys j : Nat) : Int) ∧ Lst wr g v (rifTo xs ys (cF ys n') j) ∧ Below g v1 wr) (fun _ _ _ _ i _ => n' - (intOf i).toNat)
      case atStart => exact ⟨0, Nat.zero_le _, rfl, rfl, rfl, Lst.new _ hz, (Below.refl _ _).alloc hz _⟩
      case round =>
        obtain ⟨k, hk2, rfl, rfl, rfl, hown, hbr⟩ := hrel
        have hgr : g ≤ wr.heap.size := Nat.le_trans hz hbr.size
        by_cases hlt : k < n'
        · obtain ⟨b, o, rfl, hbB, hc⟩ := (hS1.below hbr).at_ hlt
          have hlk := rifTo_len xs ys (cF ys n') k
          clear hu
          obtain ⟨y, hy⟩ := ex_eq (ys.getD k false)
          rw [hy] at hc
          cases y
          · obtain ⟨b', o', rfl, hbB', hc'⟩ := (hR1.below (hbr.mono (Nat.le_refl _))).at_ (rif_lo hlt)
            have HS := hide (show rifTo xs ys (cF ys n') k ++ [xs.getD (cF ys k) 0] = rifTo xs ys (cF ys n') (k + 1) by rw [rifTo, hy]; rfl)
            have HC := hide (show cF ys (k + 1) = cF ys k + 1 ∧ cT ys (k + 1) = cT ys k + 0 by rw [cF, cT, hy]; exact ⟨rfl, rfl⟩)
            obtain ⟨x, hx⟩ := ex_eq (xs.getD (cF ys k) 0)
            rw [hx] at hc' HS
            obtain ⟨j, hj⟩ := ex_eq (cF ys k)
            have HJ := hide hj
            have hjn : j < n' := by rw [← hj]; exact rif_lo hlt
            rw [hj] at hc' ⊢
            obtain ⟨t, ht⟩ := ex_eq (cF ys n' + cT ys k)
            have HT := hide ht
            rw [ht]
            have ht2 : t ≤ 1048576 := by have := cF_add ys n'; have := cF_add ys k; have := cT_mono ys hk2; omega
            clear hx hy hj ht hR1 hS1 hb
            go_wp2_with (at_builtin; refine wpList_app rfl (.tmp 51) (.tmp 56) rfl g _ (rifTo xs ys (cF ys n') k) [x] rfl (hown.alloc _) (some ⟨wr.heap.size, 0, none⟩) 1 1 rfl (rd_one wr x 2) (fun h => by cases h) (by omega) (by simp; omega) ?_; intro v4 w4 ho4 hg4 _)
            have hb4 : Below g wr w4 := ((Below.refl _ _).alloc hgr _).trans ((hown.alloc _).grown hg4 (by simp; omega))
            have ho4' : Lst w4 g v4 (rifTo xs ys (cF ys n') (k + 1)) := by rw [← HS.out]; exact ho4
            clear hg4 ho4 hown
            go_wp2
            go_roundw
            case rel => exact ⟨k + 1, by omega, by go_num, int_congr (by have := HC.out; have := HJ.out; have := HT.out; omega), int_congr (by have := HC.out; have := HJ.out; have := HT.out; omega), ho4', hbr.trans hb4⟩
            case measure => simp [intOf]; omega
          · obtain ⟨b', o', rfl, hbB', hc'⟩ := (hR1.below (hbr.mono (Nat.le_refl _))).at_ (rif_hi hlt hy)
            have HS := hide (show rifTo xs ys (cF ys n') k ++ [xs.getD (cF ys n' + cT ys k) 0] = rifTo xs ys (cF ys n') (k + 1) by rw [rifTo, hy]; rfl)
            have HC := hide (show cF ys (k + 1) = cF ys k + 0 ∧ cT ys (k + 1) = cT ys k + 1 by rw [cF, cT, hy]; exact ⟨rfl, rfl⟩)
            obtain ⟨x, hx⟩ := ex_eq (xs.getD (cF ys n' + cT ys k) 0)
            rw [hx] at hc' HS
            obtain ⟨j, hj⟩ := ex_eq (cF ys n' + cT ys k)
            have HJ := hide hj
            have hjn : j < n' := by rw [← hj]; exact rif_hi hlt hy
            rw [hj] at hc' ⊢
            obtain ⟨t, ht⟩ := ex_eq (cF ys k)
            have HT := hide ht
            rw [ht]
            have ht2 : t ≤ 1048576 := by have := cF_add ys n'; have := cF_add ys k; have := cT_mono ys hk2; omega
            clear hx hy hj ht hR1 hS1 hb
            go_wp2_with (at_builtin; refine wpList_app rfl (.tmp 42) (.tmp 47) rfl g _ (rifTo xs ys (cF ys n') k) [x] rfl (hown.alloc _) (some ⟨wr.heap.size, 0, none⟩) 1 1 rfl (rd_one wr x 2) (fun h => by cases h) (by omega) (by simp; omega) ?_; intro v4 w4 ho4 hg4 _)
            have hb4 : Below g wr w4 := ((Below.refl _ _).alloc hgr _).trans ((hown.alloc _).grown hg4 (by simp; omega))
            have ho4' : Lst w4 g v4 (rifTo xs ys (cF ys n') (k + 1)) := by rw [← HS.out]; exact ho4
            clear hg4 ho4 hown
            go_wp2
            go_roundw
            case rel => exact ⟨k + 1, by omega, by go_num, int_congr (by have := HC.out; have := HJ.out; have := HT.out; omega), int_congr (by have := HC.out; have := HJ.out; have := HT.out; omega), ho4', hbr.trans hb4⟩
            case measure => simp [intOf]; omega
        · obtain rfl : k = n' := by omega
          obtain ⟨A4, c4, rfl, ho⟩ := hown.form
          go_wp2
          go_ret2
          exact ⟨A4, c4, rfl, by rw [HG.out]; exact ho, by rw [HG.out]; exact hb.trans hbr⟩

set_option maxHeartbeats 2000000 in
theorem spec_UnriffleBy (A : Option Addr) (n c : Nat) (xs : List Int) (A' : Option Addr) (n' c' : Nat) (ys : List Bool) (w : World) (hR : Rd w w.heap.size A n xs) (hn : n ≤ 1048576) (hnc : n ≤ c)
    (hS : RdB w w.heap.size A' n' ys) (hn' : n' ≤ 1048576) (_hnc' : n' ≤ c') :
    Calls Try.prog 15 #[.slice A n c, .slice A' n' c'] w fun e w' => ∃ A2 c2, e = .returned (.tuple #[.slice A2 (unrOut xs ys).length c2, .bool (rifOk xs ys)]) ∧ Own w' w.heap.size A2 (unrOut xs ys).length c2 (unrOut xs ys) ∧ Below w.heap.size w w' := by
  have hL1 := l02Deck_b A n c xs w hR (by omega) hnc
  cases hD : deckB xs
  · have hK : rifOk xs ys = false := by simp [rifOk, hD]
    have hO : unrOut xs ys = [] := by simp [unrOut, hK]
    rw [hD] at hL1
    rw [hO, hK]
    have HL1 := hide hL1
    clear hL1 hO hK hD hR hS
    go_enter Try.func15, Try.ntmps15
    go_wp2_with fail
    refine HL1.out.mono ?_
    rintro e v1 ⟨rfl, hb⟩
    go_wp2
    go_ret2
    exact ⟨none, 0, rfl, Own.nil _ _, hb⟩
  by_cases hl : n' = n
  rotate_left
  · have hK : rifOk xs ys = false := by simp [rifOk, hR.len, hS.len, hl]
    have hO : unrOut xs ys = [] := by simp [unrOut, hK]
    rw [hD] at hL1
    rw [hO, hK]
    have HL1 := hide hL1
    have hbb : ((n' : Int) != (n : Int)) = true := by rw [bne_iff_ne]; omega
    clear hL1 hO hK hD hR hS hl
    go_enter Try.func15, Try.ntmps15
    go_wp2_with fail
    refine HL1.out.mono ?_
    rintro e v1 ⟨rfl, hb⟩
    go_wp2
    go_ret2
    exact ⟨none, 0, rfl, Own.nil _ _, hb⟩
  subst hl
  have hK : rifOk xs ys = true := by simp [rifOk, hD, hR.len, hS.len]
  have hO : unrOut xs ys = selTo xs ys false n' ++ selTo xs ys true n' := by simp [unrOut, hK, hS.len]
  rw [hD] at hL1
  rw [hO, hK]
  have hd := deck_len hD
  rw [hR.len] at hd
  have HL1 := hide hL1
  have HX := hide hS.len
  clear hL1 hO hK hD
  go_enter Try.func15, Try.ntmps15
  go_wp2_with fail
  refine HL1.out.mono ?_
  rintro e v1 ⟨rfl, hb⟩
  have hz := hb.size
  have hR1 := hR.below hb
  have hS1 := hS.below hb
  clear hR hS
  go_wp2
  generalize hg : w.heap.size = g at *
  have HG := hide hg
  clear hg
  go_loopw [6, 7] (fun v i wr => ∃ k : Nat, k ≤ n' ∧ i = .int .i64 k ∧ Lst wr g v (selTo xs ys false k) ∧ Below g v1 wr) (fun _ i _ => n' - (intOf i).toNat)
  case atStart => exact ⟨0, Nat.zero_le _, rfl, Lst.new _ hz, (Below.refl _ _).alloc hz _⟩
  case round =>
    obtain ⟨k, hk, rfl, hown, hbr⟩ := hrel
    have hgr : g ≤ wr.heap.size := Nat.le_trans hz hbr.size
    by_cases hlt : k < n'
    · obtain ⟨b, o, rfl, hbB, hc⟩ := (hS1.below hbr).at_ hlt
      have hlk := selTo_len xs ys false k
      obtain ⟨y, hy⟩ := ex_eq (ys.getD k false)
      rw [hy] at hc
      by_cases hyb : y = false
      · subst hyb
        obtain ⟨b', o', rfl, hbB', hc'⟩ := (hR1.below hbr).at_ hlt
        have HS := hide (show (selTo xs ys false k) ++ [xs.getD k 0] = (selTo xs ys false (k + 1)) from by rw [selTo_yes hy])
        have hll : (selTo xs ys false k).length ≤ 2000000 := by omega
        obtain ⟨L, hL⟩ := ex_eq (selTo xs ys false k)
        rw [hL] at hll hown HS
        obtain ⟨x, hx⟩ := ex_eq (xs.getD k 0)
        rw [hx] at hc' HS
        clear hx hy hL hR1 hS1 hb
        go_wp2_with (at_builtin; refine wpList_app rfl (.tmp 31) (.tmp 36) rfl g _ L [x] rfl (hown.alloc _) (some ⟨wr.heap.size, 0, none⟩) 1 1 rfl (rd_one wr x 2) (fun h => by cases h) (by omega) (by simp; omega) ?_; intro v4 w4 ho4 hg4 _)
        have hb4 : Below g wr w4 := ((Below.refl _ _).alloc hgr _).trans ((hown.alloc _).grown hg4 (by simp; omega))
        have ho4' : Lst w4 g v4 (selTo xs ys false (k + 1)) := by rw [← HS.out]; exact ho4
        clear hg4 ho4 hown
        go_wp2
        go_roundw
        case rel => exact ⟨k + 1, by omega, by go_num, ho4', hbr.trans hb4⟩
        case measure => simp [intOf]; omega
      · have HS := hide (selTo_no (xs := xs) (ys := ys) (b := false) (k := k) (by rw [hy]; exact hyb))
        obtain rfl : y = true := by cases y <;> first | rfl | exact absurd rfl hyb
        clear hy hyb hR1 hS1 hb
        go_wp2
        go_roundw
        case rel => exact ⟨k + 1, by omega, by go_num, by rw [HS.out]; exact hown, hbr⟩
        case measure => simp [intOf]; omega
    · obtain rfl : n' = k := by omega
      go_wp2
      go_loopw [6, 8] (fun v i wr => ∃ k : Nat, k ≤ n' ∧ i = .int .i64 k ∧ Lst wr g v (selTo xs ys false n' ++ selTo xs ys true k) ∧ Below g v1 wr) (fun _ i _ => n' - (intOf i).toNat)
      case atStart => exact ⟨0, Nat.zero_le _, rfl, by show Lst _ _ _ (selTo xs ys false n' ++ []); rw [List.append_nil]; exact hown, hbr⟩
      case round =>
        obtain ⟨k, hk, rfl, hown, hbr⟩ := hrel
        have hgr : g ≤ wr.heap.size := Nat.le_trans hz hbr.size
        by_cases hlt : k < n'
        · obtain ⟨b, o, rfl, hbB, hc⟩ := (hS1.below hbr).at_ hlt
          have hlk := selTo_len xs ys true k
          obtain ⟨y, hy⟩ := ex_eq (ys.getD k false)
          rw [hy] at hc
          by_cases hyb : y = true
          · subst hyb
            obtain ⟨b', o', rfl, hbB', hc'⟩ := (hR1.below hbr).at_ hlt
            have HS := hide (show (selTo xs ys false n' ++ selTo xs ys true k) ++ [xs.getD k 0] = (selTo xs ys false n' ++ selTo xs ys true (k + 1)) from by rw [selTo_yes hy, List.append_assoc])
            have hll : (selTo xs ys false n' ++ selTo xs ys true k).length ≤ 2000000 := by have := selTo_len xs ys false n'; rw [List.length_append]; omega
            obtain ⟨L, hL⟩ := ex_eq (selTo xs ys false n' ++ selTo xs ys true k)
            rw [hL] at hll hown HS
            obtain ⟨x, hx⟩ := ex_eq (xs.getD k 0)
            rw [hx] at hc' HS
            clear hx hy hL hR1 hS1 hb
            go_wp2_with (at_builtin; refine wpList_app rfl (.tmp 48) (.tmp 53) rfl g _ L [x] rfl (hown.alloc _) (some ⟨wr.heap.size, 0, none⟩) 1 1 rfl (rd_one wr x 2) (fun h => by cases h) (by omega) (by simp; omega) ?_; intro v4 w4 ho4 hg4 _)
            have hb4 : Below g wr w4 := ((Below.refl _ _).alloc hgr _).trans ((hown.alloc _).grown hg4 (by simp; omega))
            have ho4' : Lst w4 g v4 (selTo xs ys false n' ++ selTo xs ys true (k + 1)) := by rw [← HS.out]; exact ho4
            clear hg4 ho4 hown
            go_wp2
            go_roundw
            case rel => exact ⟨k + 1, by omega, by go_num, ho4', hbr.trans hb4⟩
            case measure => simp [intOf]; omega
          · have HS := hide (selTo_no (xs := xs) (ys := ys) (b := true) (k := k) (by rw [hy]; exact hyb))
            obtain rfl : y = false := by cases y <;> first | rfl | exact absurd rfl hyb
            clear hy hyb hR1 hS1 hb
            go_wp2
            go_roundw
            case rel => exact ⟨k + 1, by omega, by go_num, by rw [HS.out]; exact hown, hbr⟩
            case measure => simp [intOf]; omega
        · obtain rfl : n' = k := by omega
          obtain ⟨A4, c4, rfl, ho⟩ := hown.form
          go_wp2
          go_ret2
          exact ⟨A4, c4, rfl, by rw [HG.out]; exact ho, by rw [HG.out]; exact hb.trans hbr⟩

set_option maxHeartbeats 2000000 in
theorem impl_UnriffleBy (A : Option Addr) (n c : Nat) (xs : List Int) (A' : Option Addr) (n' c' : Nat) (ys : List Bool) (w : World) (hR : Rd w w.heap.size A n xs) (hn : n ≤ 1048576) (hnc : n ≤ c)
    (hS : RdB w w.heap.size A' n' ys) (hn' : n' ≤ 1048576) (_hnc' : n' ≤ c') :
    Calls Try.prog 18 #[.slice A n c, .slice A' n' c'] w fun e w' => ∃ A2 c2, e = .returned (.tuple #[.slice A2 (unrOut xs ys).length c2, .bool (rifOk xs ys)]) ∧ Own w' w.heap.size A2 (unrOut xs ys).length c2 (unrOut xs ys) ∧ Below w.heap.size w w' := by
  have hL1 := IsDeck_b A n c xs w hR (by omega) hnc
  cases hD : deckB xs
  · have hK : rifOk xs ys = false := by simp [rifOk, hD]
    have hO : unrOut xs ys = [] := by simp [unrOut, hK]
    rw [hD] at hL1
    rw [hO, hK]
    have HL1 := hide hL1
    clear hL1 hO hK hD hR hS
    go_enter Try.func18, Try.ntmps18
    go_wp2_with fail
    refine HL1.out.mono ?_
    rintro e v1 ⟨rfl, hb⟩
    go_wp2
    go_ret2
    exact ⟨none, 0, rfl, Own.nil _ _, hb⟩
  by_cases hl : n' = n
  rotate_left
  · have hK : rifOk xs ys = false := by simp [rifOk, hR.len, hS.len, hl]
    have hO : unrOut xs ys = [] := by simp [unrOut, hK]
    rw [hD] at hL1
    rw [hO, hK]
    have HL1 := hide hL1
    have hbb : ((n' : Int) != (n : Int)) = true := by rw [bne_iff_ne]; omega
    clear hL1 hO hK hD hR hS hl
    go_enter Try.func18, Try.ntmps18
    go_wp2_with fail
    refine HL1.out.mono ?_
    rintro e v1 ⟨rfl, hb⟩
    go_wp2
    go_ret2
    exact ⟨none, 0, rfl, Own.nil _ _, hb⟩
  subst hl
  have hK : rifOk xs ys = true := by simp [rifOk, hD, hR.len, hS.len]
  have hO : unrOut xs ys = selTo xs ys false n' ++ selTo xs ys true n' := by simp [unrOut, hK, hS.len]
  rw [hD] at hL1
  rw [hO, hK]
  have hd := deck_len hD
  rw [hR.len] at hd
  have HL1 := hide hL1
  have HX := hide hS.len
  clear hL1 hO hK hD
  go_enter Try.func18, Try.ntmps18
  go_wp2_with fail
  refine HL1.out.mono ?_
  rintro e v1 ⟨rfl, hb⟩
  have hz := hb.size
  have hR1 := hR.below hb
  have hS1 := hS.below hb
  clear hR hS
  go_wp2
  generalize hg : w.heap.size = g at *
  have HG := hide hg
  clear hg
  go_loopw [6, 7, 8, 9, 24] (fun up lo _ _ i wr => ∃ k : Nat, k ≤ n' ∧ i = .int .i64 k ∧ Lst wr g up (selTo xs ys false k) ∧ Lst wr g lo (selTo xs ys true k) ∧ mem.Sep up lo ∧ Below g v1 wr) (fun _ _ _ _ i _ => n' - (intOf i).toNat)
  case atStart =>
    have e : (v1.alloc (.cells #[] 2)).heap.size = v1.heap.size + 1 := by simp
    exact ⟨0, Nat.zero_le _, rfl, (Lst.new v1 hz).alloc _, by have := Lst.new (v1.alloc (.cells #[] 2)) (show g ≤ _ by rw [e]; omega); rw [e] at this; exact this, .inr (by simp [Value.ownBlock]), ((Below.refl _ _).alloc hz _).alloc (by simp; omega) _⟩
  case round =>
    obtain ⟨k, hk, rfl, hup, hlo, hsep, hbr⟩ := hrel
    have hgr : g ≤ wr.heap.size := Nat.le_trans hz hbr.size
    have hlfalse := selTo_len xs ys false k
    have hltrue := selTo_len xs ys true k
    by_cases hlt : k < n'
    · obtain ⟨b, o, rfl, hbB, hc⟩ := (hS1.below hbr).at_ hlt
      obtain ⟨b', o', rfl, hbB', hc'⟩ := (hR1.below hbr).at_ hlt
      obtain ⟨y, hy⟩ := ex_eq (ys.getD k false)
      rw [hy] at hc
      cases y
      · have HS := hide (show selTo xs ys false k ++ [xs.getD k 0] = selTo xs ys false (k + 1) from (selTo_yes hy).symm)
        have HN := hide (selTo_no (xs := xs) (ys := ys) (b := true) (k := k) (by rw [hy]; simp))
        obtain ⟨L, hL⟩ := ex_eq (selTo xs ys false k)
        rw [hL] at hlfalse hup HS
        obtain ⟨x, hx⟩ := ex_eq (xs.getD k 0)
        rw [hx] at hc' HS
        have HSEP := hide hsep
        clear hx hy hL hR1 hS1 hb hsep
        go_wp2_with (at_builtin; refine wpList_app rfl (.tmp 37) (.tmp 42) rfl g _ L [x] rfl (hup.alloc _) (some ⟨wr.heap.size, 0, none⟩) 1 1 rfl (rd_one wr x 2) (fun h => by cases h) (by omega) (by simp; omega) ?_; intro v4 w4 ho4 hg4 hbk4)
        have hb4 : Below g wr w4 := ((Below.refl _ _).alloc hgr _).trans ((hup.alloc _).grown hg4 (by simp; omega))
        have ho4' : Lst w4 g v4 (selTo xs ys false (k + 1)) := by rw [← HS.out]; exact ho4
        have hot : Lst w4 g u7 (selTo xs ys true (k + 1)) := by
          rw [HN.out]
          exact Lst.kept (hlo.alloc _) hg4 ((HSEP.out.symm))
        have hsep4 : mem.Sep v4 u7 := mem.Sep.app (H := wr.heap.size + 1) (HSEP.out) (by rcases hbk4 with e | e; exact .inl e; exact .inr (by rw [e]; simp)) (fun q hq => by have := (hlo.blk q hq).2; omega)
        clear hg4 ho4 hbk4 hup hlo
        go_wp2
        go_roundw
        case rel => exact ⟨k + 1, by omega, by go_num, ho4', hot, hsep4, hbr.trans hb4⟩
        case measure => simp [intOf]; omega
      · have HS := hide (show selTo xs ys true k ++ [xs.getD k 0] = selTo xs ys true (k + 1) from (selTo_yes hy).symm)
        have HN := hide (selTo_no (xs := xs) (ys := ys) (b := false) (k := k) (by rw [hy]; simp))
        obtain ⟨L, hL⟩ := ex_eq (selTo xs ys true k)
        rw [hL] at hltrue hlo HS
        obtain ⟨x, hx⟩ := ex_eq (xs.getD k 0)
        rw [hx] at hc' HS
        have HSEP := hide hsep
        clear hx hy hL hR1 hS1 hb hsep
        go_wp2_with (at_builtin; refine wpList_app rfl (.tmp 30) (.tmp 35) rfl g _ L [x] rfl (hlo.alloc _) (some ⟨wr.heap.size, 0, none⟩) 1 1 rfl (rd_one wr x 2) (fun h => by cases h) (by omega) (by simp; omega) ?_; intro v4 w4 ho4 hg4 hbk4)
        have hb4 : Below g wr w4 := ((Below.refl _ _).alloc hgr _).trans ((hlo.alloc _).grown hg4 (by simp; omega))
        have ho4' : Lst w4 g v4 (selTo xs ys true (k + 1)) := by rw [← HS.out]; exact ho4
        have hot : Lst w4 g u6 (selTo xs ys false (k + 1)) := by
          rw [HN.out]
          exact Lst.kept (hup.alloc _) hg4 (HSEP.out)
        have hsep4 : mem.Sep v4 u6 := mem.Sep.app (H := wr.heap.size + 1) (HSEP.out.symm) (by rcases hbk4 with e | e; exact .inl e; exact .inr (by rw [e]; simp)) (fun q hq => by have := (hup.blk q hq).2; omega)
        clear hg4 ho4 hbk4 hup hlo
        go_wp2
        go_roundw
        case rel => exact ⟨k + 1, by omega, by go_num, hot, ho4', hsep4.symm, hbr.trans hb4⟩
        case measure => simp [intOf]; omega
    · obtain rfl : n' = k := by omega
      obtain ⟨A5, c5, rfl, hlo5⟩ := hlo.form
      obtain ⟨m5, hm5⟩ := ex_eq (selTo xs ys true n').length
      have hlr := hlo5.rd
      have hnone := hlo5.nilc
      rw [hm5] at hltrue hlr hlo5 ⊢
      have hlen := hlo5.len
      clear hm5 hlo hsep hR1 hS1
      go_wp2_with (at_builtin; refine wpList_app rfl (.tmp 45) (.tmp 46) rfl g _ (selTo xs ys false n') (selTo xs ys true n') rfl hup A5 m5 c5 rfl hlr hnone (by omega) hgr ?_; intro v4 w4 ho4 hg4 _)
      have hb4 : Below g wr w4 := hup.grown hg4 hgr
      obtain ⟨A4, c4, rfl, ho⟩ := ho4.form
      go_wp2
      go_ret2
      exact ⟨A4, c4, rfl, by rw [HG.out]; exact ho, by rw [HG.out]; exact (hb.trans hbr).trans hb4⟩

end Go.Proofs.Ytfncmgaeecjacaa.deck
