/-
  JoinDecks of both packages answers the same. Conditions: those of each theorem.
-/
import Derived.Test.YtfncmgaeecjacaaDeck
import Derived.Test.YtfncmgaeecjacaaApp
namespace Go.Proofs.Ytfncmgaeecjacaa.deck
open Go.RowKit
open base mem

def joinTo (xs ys : List Int) : Nat → List Int
  | 0 => []
  | k + 1 => joinTo xs ys k ++ [xs.getD (ys.getD k 0).toNat 0]
theorem joinTo_len (xs ys : List Int) (k : Nat) : (joinTo xs ys k).length = k := by induction k with | zero => rfl | succ k ih => simp [joinTo, ih]
def joinOk (xs ys : List Int) : Bool := deckB xs && (deckB ys && decide (xs.length = ys.length))
def joinOut (xs ys : List Int) : List Int := if joinOk xs ys then joinTo xs ys ys.length else []
theorem joinOut_len (xs ys : List Int) : (joinOut xs ys).length ≤ 1048576 := by
  unfold joinOut
  split
  · next h =>
    simp only [joinOk, Bool.and_eq_true] at h
    have := deck_len h.2.1
    rw [joinTo_len]
    omega
  · simp

set_option maxHeartbeats 1000000 in
theorem impl_JoinDecks (A : Option Addr) (n c : Nat) (xs : List Int) (A' : Option Addr) (n' c' : Nat) (ys : List Int) (w : World) (hR : Rd w w.heap.size A n xs) (hn : n ≤ 1048576) (hnc : n ≤ c)
    (hS : Rd w w.heap.size A' n' ys) (hn' : n' ≤ 1048576) (hnc' : n' ≤ c') :
    Calls Try.prog 50 #[.slice A n c, .slice A' n' c'] w fun e w' => ∃ A2 c2, e = .returned (.tuple #[.slice A2 (joinOut xs ys).length c2, .bool (joinOk xs ys)]) ∧ Own w' w.heap.size A2 (joinOut xs ys).length c2 (joinOut xs ys) ∧ Below w.heap.size w w' := by
  have hL1 := IsDeck_b A n c xs w hR (by omega) hnc
  have hL2 := fun v h => IsDeck_b A' n' c' ys v h (by omega) hnc'
  cases hD : deckB xs
  · have hK : joinOk xs ys = false := by simp [joinOk, hD]
    have hO : joinOut xs ys = [] := by simp [joinOut, hK]
    rw [hD] at hL1
    rw [hO, hK]
    have HL1 := hide hL1
    clear hL1 hL2 hO hK hD hR hS
    go_enter Try.func50, Try.ntmps50
    go_wp2_with fail
    refine HL1.out.mono ?_
    rintro e v1 ⟨rfl, hb⟩
    go_wp2
    go_ret2
    exact ⟨none, 0, rfl, Own.nil _ _, hb⟩
  · cases hD2 : deckB ys
    · have hK : joinOk xs ys = false := by simp [joinOk, hD2]
      have hO : joinOut xs ys = [] := by simp [joinOut, hK]
      rw [hD] at hL1
      rw [hD2] at hL2
      rw [hO, hK]
      have HL1 := hide hL1
      have HL2 := hide hL2
      clear hL1 hL2 hO hK hD hD2 hR
      go_enter Try.func50, Try.ntmps50
      go_wp2_with fail
      refine HL1.out.mono ?_
      rintro e v1 ⟨rfl, hb⟩
      go_wp2_with fail
      refine (HL2.out v1 ((hS.below hb).more hb.size)).mono ?_
      rintro e v2 ⟨rfl, hb2⟩
      go_wp2
      go_ret2
      exact ⟨none, 0, rfl, Own.nil _ _, hb.trans (hb2.mono hb.size)⟩
    · by_cases hl : n = n'
      · subst hl
        have hK : joinOk xs ys = true := by simp [joinOk, hD, hD2, hR.len, hS.len]
        have hO : joinOut xs ys = joinTo xs ys n := by simp [joinOut, hK, hS.len]
        rw [hD] at hL1
        rw [hD2] at hL2
        rw [hO, hK]
        have hd := deck_len hD
        rw [hR.len] at hd
        have HL1 := hide hL1
        have HL2 := hide hL2
        have HO := hide (deck_ord hD2)
        have HX := hide hS.len
        clear hL1 hL2 hO hK hD hD2
        go_enter Try.func50, Try.ntmps50
        go_wp2_with fail
        refine HL1.out.mono ?_
        rintro e v1 ⟨rfl, hb⟩
        have hz := hb.size
        go_wp2_with fail
        refine (HL2.out v1 ((hS.below hb).more hb.size)).mono ?_
        rintro e v2 ⟨rfl, hb2⟩
        have hb3 := hb.trans (hb2.mono hz)
        have hz3 := hb3.size
        go_wp2
        generalize hg : w.heap.size = g at *
        have HG := hide hg
        clear hg
        go_loopw [6, 8, 27] (fun v _ i wr => ∃ k : Nat, k ≤ n ∧ i = .int .i64 k ∧ Lst wr g v (joinTo xs ys k) ∧ Below g w wr) (fun _ _ i _ => n - (intOf i).toNat)
        case atStart => exact ⟨0, Nat.zero_le _, rfl, Lst.new _ hz3, hb3.alloc hz3 _⟩
        case round =>
          obtain ⟨k, hk, rfl, hown, hbr⟩ := hrel
          have hgr : g ≤ wr.heap.size := by have := hbr.size; rw [HG.out] at this; exact this
          by_cases hlt : k < n
          · obtain ⟨j, hj, hjx⟩ := deck_card HO.out (show k < ys.length by rw [HX.out]; exact hlt)
            have hjn : j < n := by rw [← HX.out]; exact hjx
            obtain ⟨b, o, rfl, hbB, hc⟩ := (hS.below hbr).at_ hlt
            obtain ⟨b', o', rfl, hbB', hc'⟩ := (hR.below hbr).at_ hjn
            have hlk := joinTo_len xs ys k
            have HS := hide (show joinTo xs ys k ++ [xs.getD j 0] = joinTo xs ys (k + 1) by rw [joinTo, hj]; rfl)
            rw [hj] at hc
            generalize xs.getD j 0 = x at *
            clear hj hR hS hb hb2 hb3
            go_wp2_with (at_builtin; refine wpList_app rfl (.tmp 31) (.tmp 36) rfl g _ (joinTo xs ys k) [x] rfl (hown.alloc _) (some ⟨wr.heap.size, 0, none⟩) 1 1 rfl (rd_one wr x 2) (fun h => by cases h) (by omega) (by simp; omega) ?_; intro v4 w4 ho4 hg4 _)
            have hb4 : Below g wr w4 := ((Below.refl _ _).alloc hgr _).trans ((hown.alloc _).grown hg4 (by simp; omega))
            have ho4' : Lst w4 g v4 (joinTo xs ys (k + 1)) := by rw [← HS.out]; exact ho4
            clear hg4 ho4 hown
            go_wp2
            go_roundw
            case rel => exact ⟨k + 1, by omega, by go_num, ho4', hbr.trans hb4⟩
            case measure => simp only [intOf]; omega
          · obtain rfl : k = n := by omega
            obtain ⟨A4, c4, rfl, ho⟩ := hown.form
            go_wp2
            go_ret2
            refine ⟨A4, c4, rfl, ?_, ?_⟩
            · rw [HG.out]; exact ho
            · rw [HG.out]; exact hbr
      · have hK : joinOk xs ys = false := by simp [joinOk, hR.len, hS.len, hl]
        have hO : joinOut xs ys = [] := by simp [joinOut, hK]
        have hbne : ((n : Int) != (n' : Int)) = true := by rw [bne_iff_ne]; omega
        rw [hD] at hL1
        rw [hD2] at hL2
        rw [hO, hK]
        have HL1 := hide hL1
        have HL2 := hide hL2
        clear hL1 hL2 hO hK hD hD2 hR hl
        go_enter Try.func50, Try.ntmps50
        go_wp2_with fail
        refine HL1.out.mono ?_
        rintro e v1 ⟨rfl, hb⟩
        go_wp2_with fail
        refine (HL2.out v1 ((hS.below hb).more hb.size)).mono ?_
        rintro e v2 ⟨rfl, hb2⟩
        go_wp2
        go_ret2
        exact ⟨none, 0, rfl, Own.nil _ _, hb.trans (hb2.mono hb.size)⟩
end Go.Proofs.Ytfncmgaeecjacaa.deck
