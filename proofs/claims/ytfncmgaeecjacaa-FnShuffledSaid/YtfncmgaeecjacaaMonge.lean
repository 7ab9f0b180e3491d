/-
  MongeShuffle of both packages makes the same. Conditions: those of each theorem.
-/
import Derived.Test.YtfncmgaeecjacaaApp
import Derived.Test.YtfncmgaeecjacaaDeck
import Derived.Test.YtfncmgaeecjacaaIns
import Derived.Test.YtfncmgaeecjacaaLaw
namespace Go.Proofs.Ytfncmgaeecjacaa.deck
open Go.RowKit
open base mem

/-! ### no program in sight -/
def mon (xs : List Int) : Nat → List Int
  | 0 => []
  | k + 1 => if k % 2 = 1 then xs.getD k 0 :: mon xs k else mon xs k ++ [xs.getD k 0]
theorem mon_len (xs : List Int) (k : Nat) : (mon xs k).length = k := by
  induction k with
  | zero => rfl
  | succ k ih => rw [mon]; split <;> simp [ih]
theorem mon_odd {xs : List Int} {k : Nat} {x : Int} (h : k % 2 = 1) (hx : xs.getD k 0 = x) : mon xs (k + 1) = x :: mon xs k := by rw [mon, if_pos h, hx]
theorem mon_even {xs : List Int} {k : Nat} {x : Int} (h : k % 2 = 0) (hx : xs.getD k 0 = x) : mon xs (k + 1) = mon xs k ++ [x] := by rw [mon, if_neg (by omega), hx]
def monOut (xs : List Int) : List Int := if deckB xs then mon xs xs.length else []
theorem monOut_len (xs : List Int) : (monOut xs).length ≤ 1048576 := by
  unfold monOut
  split
  · next h => rw [mon_len]; have := (deck_len h).2; omega
  · simp

set_option maxHeartbeats 4000000 in
theorem spec_MongeShuffle (A : Option Addr) (n c : Nat) (xs : List Int) (w : World) (hR : Rd w w.heap.size A n xs) (hn : n ≤ 1048576) (hnc : n ≤ c) :
    Calls Try.prog 28 #[.slice A n c] w fun e w' => ∃ A' c', e = .returned (.tuple #[.slice A' (monOut xs).length c', .bool (deckB xs)]) ∧ Own w' w.heap.size A' (monOut xs).length c' (monOut xs) ∧ Below w.heap.size w w' := by
  have hL := l02Deck_b A n c xs w hR (by omega) hnc
  cases hD : deckB xs
  · have hO : monOut xs = [] := by simp [monOut, hD]
    rw [hO]
    rw [hD] at hL
    have HL := hide hL
    clear hL hO hD hR
    go_enter Try.func28, Try.ntmps28
    go_wp2_with fail
    refine HL.out.mono ?_
    rintro e w' ⟨rfl, hb⟩
    go_wp2
    go_ret2
    exact ⟨none, 0, rfl, Own.nil _ _, hb⟩
  · have hO : monOut xs = mon xs n := by simp [monOut, hD, hR.len]
    obtain ⟨hd1, hd2⟩ := deck_len hD
    rw [hR.len] at hd1 hd2
    rw [hD] at hL
    rw [hO]
    have HL := hide hL
    clear hL hO hD
    go_enter Try.func28, Try.ntmps28
    go_wp2_with fail
    refine HL.out.mono ?_
    rintro e v1 ⟨rfl, hb⟩
    have hR1 := hR.below hb
    have hz := hb.size
    clear HL hR
    go_wp2
    generalize hg : w.heap.size = g at *
    have HG := hide hg
    clear hg
    go_loopw [4, 5] (fun v i wr => ∃ k : Nat, k ≤ n ∧ i = .int .i64 k ∧ Lst wr g v (mon xs k) ∧ Below g w wr) (fun _ i _ => n - (intOf i).toNat)
    case atStart => exact ⟨0, Nat.zero_le _, rfl, Lst.new _ hz, hb.alloc hz _⟩
    case round =>
      obtain ⟨k, hk, rfl, hown, hbr⟩ := hrel
      have hgr : g ≤ wr.heap.size := by have := hbr.size; rw [HG.out] at this; exact this
      by_cases hlt : k < n
      · have hRw : Rd wr g A n xs := by
          have := hR1
          exact this.keep fun p hp => by rw [hbr.cell hp, hb.cell hp]
        obtain ⟨b, o, rfl, hbB, hc⟩ := hRw.at_ hlt
        have hlk := mon_len xs k
        obtain ⟨x, hx⟩ := ex_eq (xs.getD k 0)
        rw [hx] at hc
        have HX := hide hx
        have hbw : b < wr.heap.size := Nat.lt_of_lt_of_le hbB hgr
        obtain ⟨A2, c2, rfl, ho⟩ := hown.formn (mon_len xs k)
        clear hx hRw hR1
        by_cases hodd : k % 2 = 1
        · have hm1 : (k : Int) % 2 = 1 := by omega
          have hm2 : (k : Int).tmod 2 = 1 := by rw [Int.tmod_eq_emod_of_nonneg (by omega)]; exact hm1
          have HM := hide (mon_odd hodd HX.out)
          clear hodd
          go_wp2_with (at_builtin; refine wpList_app rfl (.tmp 23) (.tmp 24) rfl g _ [x] (mon xs k) rfl (Lst.one wr hgr x) A2 k c2 rfl ((ho.rd.alloc (Nat.le_refl _) _).more (by simp)) (fun h => ho.nilc h) (by simp; omega) (by simp; omega) ?_; intro v2 w2 ho2 hg2 _)
          have hb2 : Below g wr w2 := ((Below.refl _ _).alloc hgr _).trans ((Lst.one wr hgr x).grown hg2 (by simp; omega))
          have ho2' : Lst w2 g v2 (mon xs (k + 1)) := by rw [HM.out]; exact ho2
          clear hg2 ho2 hown
          go_wp2
          go_roundw
          case rel => exact ⟨k + 1, hlt, by go_num, ho2', hbr.trans hb2⟩
          case measure => simp [intOf]; omega
        · have hm1 : (k : Int) % 2 = 0 := by omega
          have hm2 : (k : Int).tmod 2 = 0 := by rw [Int.tmod_eq_emod_of_nonneg (by omega)]; exact hm1
          have HM := hide (mon_even (show k % 2 = 0 by omega) HX.out)
          clear hodd
          go_wp2_with (at_builtin; refine wpList_app rfl (.tmp 26) (.tmp 31) rfl g _ (mon xs k) [x] rfl (hown.alloc _) (some ⟨wr.heap.size, 0, none⟩) 1 1 rfl (rd_one wr x 2) (fun h => by cases h) (by omega) (by simp; omega) ?_; intro v2 w2 ho2 hg2 _)
          have hb2 : Below g wr w2 := ((Below.refl _ _).alloc hgr _).trans ((hown.alloc _).grown hg2 (by simp; omega))
          have ho2' : Lst w2 g v2 (mon xs (k + 1)) := by rw [HM.out]; exact ho2
          clear hg2 ho2 hown
          go_wp2
          go_roundw
          case rel => exact ⟨k + 1, hlt, by go_num, ho2', hbr.trans hb2⟩
          case measure => simp [intOf]; omega
      · obtain rfl : k = n := by omega
        obtain ⟨A', c', rfl, ho⟩ := hown.form
        go_wp2
        go_ret2
        refine ⟨A', c', rfl, ?_, ?_⟩
        · rw [HG.out]; exact ho
        · rw [HG.out]; exact hbr

set_option maxHeartbeats 4000000 in
theorem impl_MongeShuffle (A : Option Addr) (n c : Nat) (xs : List Int) (w : World) (hR : Rd w w.heap.size A n xs) (hn : n ≤ 1048576) (hnc : n ≤ c) :
    Calls Try.prog 29 #[.slice A n c] w fun e w' => ∃ A' c', e = .returned (.tuple #[.slice A' (monOut xs).length c', .bool (deckB xs)]) ∧ Own w' w.heap.size A' (monOut xs).length c' (monOut xs) ∧ Below w.heap.size w w' := by
  have hL := IsDeck_b A n c xs w hR (by omega) hnc
  cases hD : deckB xs
  · have hO : monOut xs = [] := by simp [monOut, hD]
    rw [hO]
    rw [hD] at hL
    have HL := hide hL
    clear hL hO hD hR
    go_enter Try.func29, Try.ntmps29
    go_wp2_with fail
    refine HL.out.mono ?_
    rintro e w' ⟨rfl, hb⟩
    go_wp2
    go_ret2
    exact ⟨none, 0, rfl, Own.nil _ _, hb⟩
  · have hO : monOut xs = mon xs n := by simp [monOut, hD, hR.len]
    obtain ⟨hd1, hd2⟩ := deck_len hD
    rw [hR.len] at hd1 hd2
    rw [hD] at hL
    rw [hO]
    have HL := hide hL
    clear hL hO hD
    go_enter Try.func29, Try.ntmps29
    go_wp2_with fail
    refine HL.out.mono ?_
    rintro e v1 ⟨rfl, hb⟩
    have hR1 := hR.below hb
    have hz := hb.size
    clear HL hR
    go_wp2
    generalize hg : w.heap.size = g at *
    have HG := hide hg
    clear hg
    go_loopw [4, 5, 6, 13] (fun v _ _ i wr => ∃ k : Nat, k ≤ n ∧ i = .int .i64 k ∧ Lst wr g v (mon xs k) ∧ Below g w wr) (fun _ _ _ i _ => n - (intOf i).toNat)
    case atStart => exact ⟨0, Nat.zero_le _, rfl, Lst.new _ hz, hb.alloc hz _⟩
    case round =>
      obtain ⟨k, hk, rfl, hown, hbr⟩ := hrel
      have hgr : g ≤ wr.heap.size := by have := hbr.size; rw [HG.out] at this; exact this
      by_cases hlt : k < n
      · have hRw : Rd wr g A n xs := by
          have := hR1
          exact this.keep fun p hp => by rw [hbr.cell hp, hb.cell hp]
        obtain ⟨b, o, rfl, hbB, hc⟩ := hRw.at_ hlt
        have hlk := mon_len xs k
        obtain ⟨x, hx⟩ := ex_eq (xs.getD k 0)
        rw [hx] at hc
        have HX := hide hx
        have hbw : b < wr.heap.size := Nat.lt_of_lt_of_le hbB hgr
        obtain ⟨A2, c2, rfl, ho⟩ := hown.formn (mon_len xs k)
        clear hx hRw hR1
        by_cases hodd : k % 2 = 1
        · have hm1 : (k : Int) % 2 = 1 := by omega
          have hm2 : (k : Int).tmod 2 = 1 := by rw [Int.tmod_eq_emod_of_nonneg (by omega)]; exact hm1
          have HM := hide (mon_odd hodd HX.out)
          clear hodd
          have hI := Insert_any (.slice A2 k c2) (mon xs k) x g wr.heap.size (wr.alloc (.cells #[.int .i64 x] 2)) (hown.alloc _) (by omega) (by omega) (heap_alloc_new wr _) (fun e => by have := (hown.blk _ e).2; omega) (by simp; omega)
          have HI := hide hI
          clear hI
          go_wp2_with (go_at_call 71; refine HI.out.mono ?_; rintro e w2 ⟨v2, rfl, ho2, hb3⟩)
          have hb2 : Below g wr w2 := ((Below.refl _ _).alloc hgr _).trans hb3
          have ho2' : Lst w2 g v2 (mon xs (k + 1)) := by rw [HM.out]; exact ho2
          clear ho2 hown hb3
          go_wp2
          go_roundw
          case rel => exact ⟨k + 1, hlt, by go_num, ho2', hbr.trans hb2⟩
          case measure => simp [intOf]; omega
        · have hm1 : (k : Int) % 2 = 0 := by omega
          have hm2 : (k : Int).tmod 2 = 0 := by rw [Int.tmod_eq_emod_of_nonneg (by omega)]; exact hm1
          have HM := hide (mon_even (show k % 2 = 0 by omega) HX.out)
          clear hodd
          go_wp2_with (at_builtin; refine wpList_app rfl (.tmp 25) (.tmp 27) rfl g _ (mon xs k) [x] rfl (hown.alloc _) (some ⟨wr.heap.size, 0, none⟩) 1 1 rfl (rd_one wr x 2) (fun h => by cases h) (by omega) (by simp; omega) ?_; intro v2 w2 ho2 hg2 _)
          have hb2 : Below g wr w2 := ((Below.refl _ _).alloc hgr _).trans ((hown.alloc _).grown hg2 (by simp; omega))
          have ho2' : Lst w2 g v2 (mon xs (k + 1)) := by rw [HM.out]; exact ho2
          clear hg2 ho2 hown
          go_wp2
          go_roundw
          case rel => exact ⟨k + 1, hlt, by go_num, ho2', hbr.trans hb2⟩
          case measure => simp [intOf]; omega
      · obtain rfl : k = n := by omega
        obtain ⟨A', c', rfl, ho⟩ := hown.form
        go_wp2
        go_ret2
        refine ⟨A', c', rfl, ?_, ?_⟩
        · rw [HG.out]; exact ho
        · rw [HG.out]; exact hbr

end Go.Proofs.Ytfncmgaeecjacaa.deck
