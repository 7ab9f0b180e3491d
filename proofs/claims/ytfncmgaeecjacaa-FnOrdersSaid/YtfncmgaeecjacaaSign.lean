/-
  SignOf and OrderOf of both packages. Conditions: those of each theorem.
-/
import Derived.Test.YtfncmgaeecjacaaCycI
namespace Go.Proofs.Ytfncmgaeecjacaa.deck
open Go.RowKit
open base mem

def sgnN (n k : Nat) : Int := if (n - k) % 2 = 0 then 1 else -1
def sgnOut (xs : List Int) : Int := if deckB xs then sgnN xs.length (cycL xs).length else 0

set_option maxHeartbeats 1000000 in
theorem spec_SignOf (A : Option Addr) (n c : Nat) (xs : List Int) (w : World) (hR : Rd w w.heap.size A n xs) (hn : n ≤ 1048576) (hnc : n ≤ c) :
    Calls Try.prog 43 #[.slice A n c] w fun e w' => e = .returned (.tuple #[.int .i64 (sgnOut xs), .bool (deckB xs)]) ∧ Below w.heap.size w w' := by
  have hL1 := l02Deck_b A n c xs w hR (by omega) hnc
  have hlen : (cycL xs).length ≤ n := by rw [← hR.len]; exact cycL_len
  cases hD : deckB xs
  · have hO : sgnOut xs = 0 := by simp [sgnOut, hD]
    rw [hD] at hL1
    rw [hO]
    have HL1 := hide hL1
    clear hL1 hO hD hR
    go_enter Try.func43, Try.ntmps43
    go_wp2_with fail
    refine HL1.out.mono ?_
    rintro e v1 ⟨rfl, hb⟩
    go_wp2
    go_ret2
    exact ⟨rfl, hb⟩
  have hd := deck_len hD
  rw [hR.len] at hd
  have HO := hide (show sgnOut xs = sgnN n (cycL xs).length by simp [sgnOut, hD, hR.len])
  have HEX := hide (fun v h => l02Cycles_any A n c xs v h hd.1 hd.2 (deck_ord hD))
  rw [hD] at hL1
  rw [HO.out]
  have HL1 := hide hL1
  obtain ⟨m, hm⟩ := ex_eq (cycL xs).length
  have HM := hide hm
  have hR2 := hR
  rw [hm] at hlen HEX ⊢
  clear hL1 hD hm HO hR
  have hsub : (n : Int) - (m : Int) = ((n - m : Nat) : Int) := by omega
  obtain ⟨d, hde⟩ := ex_eq (n - m)
  have HS := hide (show sgnN n m = if d % 2 = 0 then 1 else -1 by unfold sgnN; rw [hde])
  have HSUB := hide (show (n : Int) - (m : Int) = (d : Int) by omega)
  clear hsub hde
  by_cases hp : d % 2 = 0
  · have hp2 : (((n : Int) - (m : Int)) % 2 == 0) = true := by rw [HSUB.out]; simp; omega
    have HE := hide (show sgnN n m = 1 by rw [HS.out, if_pos hp])
    clear hp
    go_enter Try.func43, Try.ntmps43
    go_wp2_with fail
    refine HL1.out.mono ?_
    rintro e v1 ⟨rfl, hb⟩
    go_wp2_with fail
    refine (HEX.out v1 ((hR2.below hb).more hb.size)).mono ?_
    rintro e v2 ⟨A2, c2, rfl, ho, hb2⟩
    go_wp2
    go_ret2
    rw [HE.out]
    exact ⟨rfl, hb.trans (hb2.mono hb.size)⟩
  · have hp2 : (((n : Int) - (m : Int)) % 2 == 0) = false := by rw [HSUB.out]; simp; omega
    have HE := hide (show sgnN n m = -1 by rw [HS.out, if_neg hp])
    clear hp
    go_enter Try.func43, Try.ntmps43
    go_wp2_with fail
    refine HL1.out.mono ?_
    rintro e v1 ⟨rfl, hb⟩
    go_wp2_with fail
    refine (HEX.out v1 ((hR2.below hb).more hb.size)).mono ?_
    rintro e v2 ⟨A2, c2, rfl, ho, hb2⟩
    go_wp2
    go_ret2
    rw [HE.out]
    exact ⟨rfl, hb.trans (hb2.mono hb.size)⟩

set_option maxHeartbeats 1000000 in
theorem impl_SignOf (A : Option Addr) (n c : Nat) (xs : List Int) (w : World) (hR : Rd w w.heap.size A n xs) (hn : n ≤ 1048576) (hnc : n ≤ c) :
    Calls Try.prog 44 #[.slice A n c] w fun e w' => e = .returned (.tuple #[.int .i64 (sgnOut xs), .bool (deckB xs)]) ∧ Below w.heap.size w w' := by
  have hL1 := impl_CyclesOf A n c xs w hR (by omega) hnc
  have hlen : (cycL xs).length ≤ n := by rw [← hR.len]; exact cycL_len
  cases hD : deckB xs
  · have hO : sgnOut xs = 0 := by simp [sgnOut, hD]
    rw [hD] at hL1
    rw [hO]
    have HL1 := hide hL1
    clear hL1 hO hD hR
    go_enter Try.func44, Try.ntmps44
    go_wp2_with fail
    refine HL1.out.mono ?_
    rintro e v1 ⟨A2, c2, rfl, ho, hb⟩
    go_wp2
    go_ret2
    exact ⟨rfl, hb⟩
  have hd := deck_len hD
  rw [hR.len] at hd
  have HO := hide (show sgnOut xs = sgnN n (cycL xs).length by simp [sgnOut, hD, hR.len])
  have hcyc : cycOut xs = cycL xs := by simp [cycOut, hD]
  rw [hcyc] at hL1
  rw [hD] at hL1
  rw [HO.out]
  have HL1 := hide hL1
  obtain ⟨m, hm⟩ := ex_eq (cycL xs).length
  have HM := hide hm
  have hR2 := hR
  rw [hm] at hlen HL1 ⊢
  clear hL1 hD hm HO hR
  have hsub : (n : Int) - (m : Int) = ((n - m : Nat) : Int) := by omega
  obtain ⟨d, hde⟩ := ex_eq (n - m)
  have HS := hide (show sgnN n m = if d % 2 = 0 then 1 else -1 by unfold sgnN; rw [hde])
  have HSUB := hide (show (n : Int) - (m : Int) = (d : Int) by omega)
  clear hsub hde
  by_cases hp : d % 2 = 0
  · have hp2 : (((n : Int) - (m : Int)) % 2 == 0) = true := by rw [HSUB.out]; simp; omega
    have HE := hide (show sgnN n m = 1 by rw [HS.out, if_pos hp])
    clear hp
    go_enter Try.func44, Try.ntmps44
    go_wp2_with fail
    refine HL1.out.mono ?_
    rintro e v1 ⟨A2, c2, rfl, ho, hb⟩
    go_wp2
    go_ret2
    rw [HE.out]
    exact ⟨rfl, hb⟩
  · have hp2 : (((n : Int) - (m : Int)) % 2 == 0) = false := by rw [HSUB.out]; simp; omega
    have HE := hide (show sgnN n m = -1 by rw [HS.out, if_neg hp])
    clear hp
    go_enter Try.func44, Try.ntmps44
    go_wp2_with fail
    refine HL1.out.mono ?_
    rintro e v1 ⟨A2, c2, rfl, ho, hb⟩
    go_wp2
    go_ret2
    rw [HE.out]
    exact ⟨rfl, hb⟩

end Go.Proofs.Ytfncmgaeecjacaa.deck
