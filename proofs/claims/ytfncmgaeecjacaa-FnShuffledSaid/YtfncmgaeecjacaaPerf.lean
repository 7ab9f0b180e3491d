/-
  PerfectShuffle of both packages answers the same. Conditions: those of each theorem.
-/
import Derived.Test.YtfncmgaeecjacaaDeck
import Derived.Test.YtfncmgaeecjacaaApp
import Derived.Deep.RegionHeld3
import Derived.Deep.AppendLies
namespace Go.Proofs.Ytfncmgaeecjacaa.deck
open Go.RowKit
open base mem

def pfTo (xs : List Int) (b : Bool) (h : Nat) : Nat → List Int
  | 0 => []
  | k + 1 => pfTo xs b h k ++ (if b then [xs.getD (h + k) 0, xs.getD k 0] else [xs.getD k 0, xs.getD (h + k) 0])
theorem pfTo_len (xs : List Int) (b : Bool) (h k : Nat) : (pfTo xs b h k).length = 2 * k := by
  induction k with
  | zero => rfl
  | succ k ih => unfold pfTo; rw [List.length_append, ih]; cases b <;> simp <;> omega
def perf (xs : List Int) (b : Bool) : List Int := pfTo xs b (xs.length / 2) (xs.length / 2)

set_option maxHeartbeats 1000000 in
theorem perfect_any (A : Option Addr) (n c : Nat) (xs : List Int) (b : Bool) (w : World) (hR : Rd w w.heap.size A n xs) (hn : n ≤ 1048576) :
    Calls Try.prog 90 #[.slice A n c, .bool b] w fun e w' => ∃ A' c', e = .returned (.slice A' (perf xs b).length c') ∧ Own w' w.heap.size A' (perf xs b).length c' (perf xs b) ∧ Below w.heap.size w w' := by
  have HX := hide hR.len
  have HO := hide (show perf xs b = pfTo xs b (n / 2) (n / 2) by unfold perf; rw [HX.out])
  rw [HO.out]
  clear HO
  obtain ⟨h, hh⟩ : ∃ h, h = n / 2 := ⟨_, rfl⟩
  rw [← hh]
  have hh1 : 2 * h ≤ n := by omega
  have hq : ((n : Int) / 2) = (h : Int) := by omega
  have HQ := hide hq
  clear hh hq
  cases b
  · go_enter Try.func90, Try.ntmps90
    go_wp2
    rw [HQ.out]
    generalize hg : w.heap.size = g at *
    have HG := hide hg
    clear hg
    have hz : g ≤ w.heap.size := by have := HG.out; omega
    go_loopw [6, 7, 13] (fun v _ i wr => ∃ k : Nat, k ≤ h ∧ i = .int .i64 k ∧ Lst wr g v (pfTo xs false h k) ∧ Below g w wr) (fun _ _ i _ => h - (intOf i).toNat)
    case atStart => exact ⟨0, Nat.zero_le _, rfl, by have := Lst.new w hz; rw [HG.out] at this; exact this, (Below.refl _ _).alloc hz _⟩
    case round =>
      obtain ⟨k, hk, rfl, hown, hbr⟩ := hrel
      have hgr : g ≤ wr.heap.size := by have := hbr.size; omega
      by_cases hlt : k < h
      · obtain ⟨b, o, rfl, hbB, hc⟩ := (hR.below hbr).at_ (show k < n by omega)
        obtain ⟨b', o', hA, hbB', hc'⟩ := (hR.below hbr).at_ (show h + k < n by omega)
        obtain ⟨rfl, rfl⟩ : b = b' ∧ o = o' := by simpa using hA
        have hlk := pfTo_len xs false h k
        have HS := hide (show pfTo xs false h k ++ [xs.getD k 0, xs.getD (h + k) 0] = pfTo xs false h (k + 1) by rw [pfTo]; rfl)
        generalize xs.getD (h + k) 0 = x at *
        generalize xs.getD k 0 = y at *
        have h1 : (0 : Int) ≤ (k : Int) := by omega
        have h2 : (k : Int) < (n : Int) := by omega
        have h3 : (h : Int) + (k : Int) < (n : Int) := by omega
        clear hA hR
        go_wp2
        have hbw : b < wr.heap.size := by omega
        have hneb : u6.ownBlock ≠ some b := fun e => by have := (hown.blk b e).1; omega
        have HN := hide hneb
        clear hneb
        have s1 : IntKind.i64.wrap ((h : Int) + (k : Int)) = (h : Int) + (k : Int) := IntWalk.i64_in _ (by omega)
        have s2 : ((h : Int) + (k : Int)).toNat = h + k := by omega
        have s3 : (0 : Int) ≤ (h : Int) + (k : Int) := by omega
        go_region_held3 (fun w' => w'.cell? ⟨b, o + k, none⟩ = some (.int .i64 y) ∧ w'.cell? ⟨b, o + (h + k), none⟩ = some (.int .i64 x))
          (first
            | go_keep
            | (go_split_ands
               refine ⟨?_, ?_⟩
               · (rw [hg4.cell_far _ (by simp; omega) (Ne.symm HN.out)]; assumption)
               · (rw [hg4.cell_far _ (by simp; omega) (Ne.symm HN.out)]; assumption)))
          ((refine step_app rfl _ _ rfl g u6 (pfTo xs false h k) [y, x] rfl ((hown.alloc _).drewN 1) (some ⟨wr.heap.size, 0, none⟩) 2 2 rfl (rd_two wr y x 2) (fun h => by cases h) (by omega) (by simp; omega) ?_; intro v4 w4 ho4 hg4 _))
        clear s1 s2 s3
        have hb4 : Below g wr w4 := (below_drewN ((Below.refl _ _).alloc hgr _) 1).trans (((hown.alloc _).drewN 1).grown hg4 (by simp; omega))
        have ho4' : Lst w4 g v4 (pfTo xs false h (k + 1)) := by rw [← HS.out]; exact ho4
        clear hg4 ho4 hown
        go_wp2
        go_roundw
        case rel => exact ⟨k + 1, by omega, by go_num, ho4', hbr.trans hb4⟩
        case measure => simp only [intOf]; omega
      · obtain rfl : k = h := by omega
        obtain ⟨A4, c4, rfl, ho⟩ := hown.form
        go_wp2
        go_ret
        refine ⟨A4, c4, rfl, ?_, ?_⟩
        · rw [HG.out]; exact ho
        · rw [HG.out]; exact hbr
  · go_enter Try.func90, Try.ntmps90
    go_wp2
    rw [HQ.out]
    generalize hg : w.heap.size = g at *
    have HG := hide hg
    clear hg
    have hz : g ≤ w.heap.size := by have := HG.out; omega
    go_loopw [6, 7, 13] (fun v _ i wr => ∃ k : Nat, k ≤ h ∧ i = .int .i64 k ∧ Lst wr g v (pfTo xs true h k) ∧ Below g w wr) (fun _ _ i _ => h - (intOf i).toNat)
    case atStart => exact ⟨0, Nat.zero_le _, rfl, by have := Lst.new w hz; rw [HG.out] at this; exact this, (Below.refl _ _).alloc hz _⟩
    case round =>
      obtain ⟨k, hk, rfl, hown, hbr⟩ := hrel
      have hgr : g ≤ wr.heap.size := by have := hbr.size; omega
      by_cases hlt : k < h
      · obtain ⟨b, o, rfl, hbB, hc⟩ := (hR.below hbr).at_ (show k < n by omega)
        obtain ⟨b', o', hA, hbB', hc'⟩ := (hR.below hbr).at_ (show h + k < n by omega)
        obtain ⟨rfl, rfl⟩ : b = b' ∧ o = o' := by simpa using hA
        have hlk := pfTo_len xs true h k
        have HS := hide (show pfTo xs true h k ++ [xs.getD (h + k) 0, xs.getD k 0] = pfTo xs true h (k + 1) by rw [pfTo]; rfl)
        generalize xs.getD (h + k) 0 = x at *
        generalize xs.getD k 0 = y at *
        have h1 : (0 : Int) ≤ (k : Int) := by omega
        have h2 : (k : Int) < (n : Int) := by omega
        have h3 : (h : Int) + (k : Int) < (n : Int) := by omega
        clear hA hR
        go_wp2
        have hbw : b < wr.heap.size := by omega
        have hneb : u6.ownBlock ≠ some b := fun e => by have := (hown.blk b e).1; omega
        have HN := hide hneb
        clear hneb
        have s1 : IntKind.i64.wrap ((h : Int) + (k : Int)) = (h : Int) + (k : Int) := IntWalk.i64_in _ (by omega)
        have s2 : ((h : Int) + (k : Int)).toNat = h + k := by omega
        have s3 : (0 : Int) ≤ (h : Int) + (k : Int) := by omega
        go_region_held3 (fun w' => w'.cell? ⟨b, o + k, none⟩ = some (.int .i64 y) ∧ w'.cell? ⟨b, o + (h + k), none⟩ = some (.int .i64 x))
          (first
            | go_keep
            | (go_split_ands
               refine ⟨?_, ?_⟩
               · (rw [hg4.cell_far _ (by simp; omega) (Ne.symm HN.out)]; assumption)
               · (rw [hg4.cell_far _ (by simp; omega) (Ne.symm HN.out)]; assumption)))
          ((refine step_app rfl _ _ rfl g u6 (pfTo xs true h k) [x, y] rfl ((hown.alloc _).drewN 1) (some ⟨wr.heap.size, 0, none⟩) 2 2 rfl (rd_two wr x y 2) (fun h => by cases h) (by omega) (by simp; omega) ?_; intro v4 w4 ho4 hg4 _))
        clear s1 s2 s3
        have hb4 : Below g wr w4 := (below_drewN ((Below.refl _ _).alloc hgr _) 1).trans (((hown.alloc _).drewN 1).grown hg4 (by simp; omega))
        have ho4' : Lst w4 g v4 (pfTo xs true h (k + 1)) := by rw [← HS.out]; exact ho4
        clear hg4 ho4 hown
        go_wp2
        go_roundw
        case rel => exact ⟨k + 1, by omega, by go_num, ho4', hbr.trans hb4⟩
        case measure => simp only [intOf]; omega
      · obtain rfl : k = h := by omega
        obtain ⟨A4, c4, rfl, ho⟩ := hown.form
        go_wp2
        go_ret
        refine ⟨A4, c4, rfl, ?_, ?_⟩
        · rw [HG.out]; exact ho
        · rw [HG.out]; exact hbr


def perfOk (xs : List Int) : Bool := deckB xs && decide (xs.length % 2 = 0)
def perfOut (xs : List Int) (b : Bool) : List Int := if perfOk xs then perf xs b else []
theorem perfOut_len (xs : List Int) (b : Bool) : (perfOut xs b).length ≤ 1048576 := by
  unfold perfOut
  split
  · next h =>
    simp only [perfOk, Bool.and_eq_true] at h
    have := deck_len h.1
    unfold perf
    rw [pfTo_len]
    omega
  · simp

set_option maxHeartbeats 1000000 in
theorem impl_PerfectShuffle (A : Option Addr) (n c : Nat) (xs : List Int) (b : Bool) (w : World) (hR : Rd w w.heap.size A n xs) (hn : n ≤ 1048576) (hnc : n ≤ c) :
    Calls Try.prog 65 #[.slice A n c, .bool b] w fun e w' => ∃ A2 c2, e = .returned (.tuple #[.slice A2 (perfOut xs b).length c2, .bool (perfOk xs)]) ∧ Own w' w.heap.size A2 (perfOut xs b).length c2 (perfOut xs b) ∧ Below w.heap.size w w' := by
  have hL1 := IsDeck_b A n c xs w hR (by omega) hnc
  cases hD : deckB xs
  · have hK : perfOk xs = false := by simp [perfOk, hD]
    have hO : perfOut xs b = [] := by simp [perfOut, hK]
    rw [hD] at hL1
    rw [hO, hK]
    have HL1 := hide hL1
    clear hL1 hO hK hD hR
    go_enter Try.func65, Try.ntmps65
    go_wp2_with fail
    refine HL1.out.mono ?_
    rintro e v1 ⟨rfl, hb⟩
    go_wp2
    go_ret2
    exact ⟨none, 0, rfl, Own.nil _ _, hb⟩
  · by_cases h2 : n % 2 = 0
    · have hK : perfOk xs = true := by simp [perfOk, hD, hR.len, h2]
      have hO : perfOut xs b = perf xs b := by simp [perfOut, hK]
      rw [hD] at hL1
      rw [hO, hK]
      have HL1 := hide hL1
      have hb2 : ((n : Int) % 2 != 0) = false := by rw [bne_eq_false_iff_eq]; omega
      clear hL1 hO hK hD h2
      go_enter Try.func65, Try.ntmps65
      go_wp2_with fail
      refine HL1.out.mono ?_
      rintro e v1 ⟨rfl, hb⟩
      go_wp2_with fail
      refine (perfect_any A n c xs b v1 ((hR.below hb).more hb.size) hn).mono ?_
      rintro e v2 ⟨A2, c2, rfl, ho, hb3⟩
      go_wp2
      go_ret2
      exact ⟨A2, c2, rfl, ho.mono hb.size, hb.trans (hb3.mono hb.size)⟩
    · have hK : perfOk xs = false := by simp [perfOk, hR.len, h2]
      have hO : perfOut xs b = [] := by simp [perfOut, hK]
      rw [hD] at hL1
      rw [hO, hK]
      have HL1 := hide hL1
      have hb2 : ((n : Int) % 2 != 0) = true := by rw [bne_iff_ne]; omega
      clear hL1 hO hK hD hR h2
      go_enter Try.func65, Try.ntmps65
      go_wp2_with fail
      refine HL1.out.mono ?_
      rintro e v1 ⟨rfl, hb⟩
      go_wp2
      go_ret2
      exact ⟨none, 0, rfl, Own.nil _ _, hb⟩
end Go.Proofs.Ytfncmgaeecjacaa.deck
