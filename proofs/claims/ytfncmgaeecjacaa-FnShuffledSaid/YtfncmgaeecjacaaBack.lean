/-
  BackDeck and RisingRuns of both packages answer the same. Conditions: those of each theorem.
-/
import Derived.Test.YtfncmgaeecjacaaDeck
import Derived.Test.YtfncmgaeecjacaaApp
import Derived.Test.YtfncmgaeecjacaaDesc
namespace Go.Proofs.Ytfncmgaeecjacaa.deck
open Go.RowKit
open base mem

def plTo (xs : List Int) : Nat → List Int
  | 0 => List.replicate xs.length 0
  | k + 1 => (plTo xs k).set (xs.getD k 0).toNat (k : Int)
theorem plTo_len (xs : List Int) (k : Nat) : (plTo xs k).length = xs.length := by induction k with | zero => simp [plTo] | succ k ih => simp [plTo, ih]
def places (xs : List Int) : List Int := plTo xs xs.length
def backOut (xs : List Int) : List Int := if deckB xs then places xs else []
theorem backOut_len (xs : List Int) : (backOut xs).length ≤ 1048576 := by
  unfold backOut
  split
  · next h => have := deck_len h; unfold places; rw [plTo_len]; omega
  · simp

set_option maxHeartbeats 1000000 in
theorem impl_BackDeck (A : Option Addr) (n c : Nat) (xs : List Int) (w : World) (hR : Rd w w.heap.size A n xs) (hn : n ≤ 1048576) (hnc : n ≤ c) :
    Calls Try.prog 51 #[.slice A n c] w fun e w' => ∃ A' c', e = .returned (.tuple #[.slice A' (backOut xs).length c', .bool (deckB xs)]) ∧ Own w' w.heap.size A' (backOut xs).length c' (backOut xs) ∧ Below w.heap.size w w' := by
  have hL := IsDeck_b A n c xs w hR (by omega) hnc
  cases hD : deckB xs
  · have hO : backOut xs = [] := by simp [backOut, hD]
    rw [hD] at hL
    rw [hO]
    have HL := hide hL
    clear hL hO hD hR
    go_enter Try.func51, Try.ntmps51
    go_wp2_with fail
    refine HL.out.mono ?_
    rintro e w' ⟨rfl, hb⟩
    go_wp2
    go_ret2
    exact ⟨none, 0, rfl, Own.nil _ _, hb⟩
  · have hO : backOut xs = places xs := by simp [backOut, hD]
    have hl : (places xs).length = n := by unfold places; rw [plTo_len, hR.len]
    have HO := hide (deck_ord hD)
    rw [hD] at hL
    rw [hO, hl]
    have HH := hide hL
    have HL := hide hR.len
    obtain ⟨i0, hi, hz0, hz1, hz2⟩ := info_parts info_int64
    have hz2' : i0.bytes * n ≤ 281474976710656 := by rw [hz2]; omega
    clear hL hO hD hl hz2
    go_enter Try.func51, Try.ntmps51
    go_wp2_with fail
    refine HH.out.mono ?_
    rintro e v1 ⟨rfl, hb0⟩
    have hz := hb0.size
    have hR1 := (hR.below hb0).more hz
    go_wp2_with (at_make; refine wpList_make_full _ rfl (.tmp 11) (.tmp 11) 22 rfl v1.heap.size 2 i0 (.int .i64 0) 1 Try.underlying22 hi hz0 hz1 .i64 .i64 _ _ n rfl rfl rfl rfl hz2' (by unfold maxLen; omega) (Nat.le_refl _) ?_; intro w1 hown hgr)
    have hb1 : Below v1.heap.size v1 w1 := (Below.refl _ _).grown hgr (Nat.le_refl _) (fun _ h => by cases h)
    have hown1 : Own w1 v1.heap.size (some ⟨v1.heap.size, 0, none⟩) n n (plTo xs 0) := by
      unfold Own
      rw [plTo, HL.out]
      simpa [Value.cells, toList_madeCells_one, ivs] using hown
    clear hown hgr hz2' hi hz0 hz1 hR
    generalize hg : v1.heap.size = g at *
    have HG := hide hg
    clear hg
    go_loopw [5, 6, 15] (fun _ _ i wr => ∃ k : Nat, k ≤ n ∧ i = .int .i64 k ∧ Own wr g (some ⟨g, 0, none⟩) n n (plTo xs k) ∧ Below g v1 wr) (fun _ _ i _ => n - (intOf i).toNat)
    case atStart => exact ⟨0, Nat.zero_le _, rfl, hown1, hb1⟩
    case round =>
      obtain ⟨k, hk, rfl, hown, hb⟩ := hrel
      by_cases hlt : k < n
      · obtain ⟨b, o, rfl, hbB, hc⟩ := (hR1.below hb).at_ hlt
        obtain ⟨j, hj, hjx⟩ := deck_card HO.out (show k < xs.length by rw [HL.out]; exact hlt)
        have hjn : j < n := by rw [← HL.out]; exact hjx
        have hlp := plTo_len xs k
        rw [HL.out] at hlp
        have hc2 := World.ownsRow.cellAt (h := hown) j (by omega)
        rw [ivs_at _ _ (by rw [hlp]; exact hjn)] at hc2
        have hf2 := World.ownsRow.frozenAt (h := hown) j
        have hst := World.ownsRow.stored (h := hown) j (.int .i64 (k : Int))
        rw [ivs_set, show (plTo xs k).set j (k : Int) = plTo xs (k + 1) by rw [plTo, hj]; rfl] at hst
        rw [hj] at hc
        generalize (plTo xs k).getD j 0 = y at *
        have HS := hide hst
        have hge : g ≤ wr.heap.size := by have := hb.size; rw [HG.out] at this; exact this
        clear hst hown hj hjx hlp
        go_wp2
        go_roundw
        case rel => exact ⟨k + 1, by omega, by go_num, HS.out.1, hb.grown HS.out.2 hge (fun j hj => by cases hj; exact Nat.le_refl _)⟩
        case measure => simp [intOf]; omega
      · obtain rfl : k = n := by omega
        go_wp2
        go_ret2
        exact ⟨_, _, rfl, by unfold places; rw [HL.out]; exact hown.mono hz, hb0.trans (hb.mono hz)⟩

def runsOut (xs : List Int) : Int := if deckB xs then (desc (places xs) : Int) + 1 else 0
theorem desc_le (xs : List Int) : desc xs ≤ xs.length := by have := descTo_le xs (xs.length - 1); unfold desc; omega

set_option maxHeartbeats 1000000 in
theorem impl_RisingRuns (A : Option Addr) (n c : Nat) (xs : List Int) (w : World) (hR : Rd w w.heap.size A n xs) (hn : n ≤ 1048576) (hnc : n ≤ c) :
    Calls Try.prog 56 #[.slice A n c] w fun e w' => e = .returned (.tuple #[.int .i64 (runsOut xs), .bool (deckB xs)]) ∧ Below w.heap.size w w' := by
  have hL := impl_BackDeck A n c xs w hR hn hnc
  cases hD : deckB xs
  · have hO : runsOut xs = 0 := by simp [runsOut, hD]
    rw [hD] at hL
    rw [hO]
    have HL := hide hL
    clear hL hO hD hR
    go_enter Try.func56, Try.ntmps56
    go_wp2_with fail
    refine HL.out.mono ?_
    rintro e w' ⟨A', c', rfl, _, hb⟩
    go_wp2
    go_ret2
    exact ⟨rfl, hb⟩
  · have hO : runsOut xs = (desc (places xs) : Int) + 1 := by simp [runsOut, hD]
    have hB : backOut xs = places xs := by simp [backOut, hD]
    have hl : (places xs).length = n := by unfold places; rw [plTo_len, hR.len]
    have hd := desc_le (places xs)
    rw [hl] at hd
    rw [hD, hB, hl] at hL
    rw [hO]
    have HL := hide hL
    have hDs := fun A c B w h => descents_b A n c (places xs) B w h hn
    generalize desc (places xs) = d at hDs hd ⊢
    have HDs := hide hDs
    clear hL hO hD hl hB hDs
    go_enter Try.func56, Try.ntmps56
    go_wp2_with fail
    refine HL.out.mono ?_
    rintro e v1 ⟨A2, c2, rfl, ho2, hb⟩
    have hz := hb.size
    go_wp2_with fail
    refine (HDs.out A2 c2 _ v1 ho2.rd).mono ?_
    rintro e v3 ⟨rfl, hb3⟩
    go_wp2
    go_ret2
    exact ⟨rfl, hb.trans (hb3.mono hz)⟩
end Go.Proofs.Ytfncmgaeecjacaa.deck
