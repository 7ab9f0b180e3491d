/-
  New decks and drawn decks of both packages are the same. Conditions: those of each theorem.
-/
import Derived.Test.YtfncmgaeecjacaaApp
import Derived.Deep.Cut
namespace Go.Proofs.Ytfncmgaeecjacaa.deck
open Go.RowKit
open base mem

def news (n : Nat) : List Int := (List.range n).map fun (i : Nat) => (i : Int)
theorem news_len (n : Nat) : (news n).length = n := by simp [news]
theorem news_succ (n : Nat) : news (n + 1) = news n ++ [(n : Int)] := by simp [news, List.range_succ]
def nextS (s : Nat) : Nat := (1664525 * s + 1013904223) % 4294967296
theorem nextS_lt (s : Nat) : nextS s < 4294967296 := Nat.mod_lt _ (by omega)
def pickK (s i : Nat) : Nat := s * (i + 1) / 4294967296
theorem pickK_le {s : Nat} (i : Nat) (h : s < 4294967296) : pickK s i ≤ i := by
  unfold pickK
  have h1 : s * (i + 1) < 4294967296 * (i + 1) := Nat.mul_lt_mul_of_pos_right h (by omega)
  have h2 : s * (i + 1) / 4294967296 < i + 1 := Nat.div_lt_of_lt_mul h1
  omega
def swapL (xs : List Int) (i k : Nat) : List Int := (xs.set i (xs.getD k 0)).set k (xs.getD i 0)
theorem swapL_len (xs : List Int) (i k : Nat) : (swapL xs i k).length = xs.length := by simp [swapL]
def drTo (n s0 : Nat) : Nat → List Int × Nat
  | 0 => (news n, s0)
  | j + 1 => (swapL (drTo n s0 j).1 (n - 1 - j) (pickK (nextS (drTo n s0 j).2) (n - 1 - j)), nextS (drTo n s0 j).2)
theorem drTo_len (n s0 j : Nat) : (drTo n s0 j).1.length = n := by
  induction j with
  | zero => exact news_len n
  | succ j ih => rw [drTo]; simp only [swapL_len, ih]
theorem drTo_lt (n s0 j : Nat) (h : s0 < 4294967296) : (drTo n s0 j).2 < 4294967296 := by
  cases j with
  | zero => exact h
  | succ j => exact nextS_lt _
theorem mul_wrap (t i : Nat) (ht : t < 4294967296) (hi : i ≤ 1000) : wrap64 ((t : Int) * ((i : Int) + 1)) = ((t * (i + 1) : Nat) : Int) ∧ t * (i + 1) ≤ 9000000000000000 := by
  have h1 : t * (i + 1) ≤ 4294967296 * 1001 := Nat.mul_le_mul (by omega) (by omega)
  have h2 : (t : Int) * ((i : Int) + 1) = ((t * (i + 1) : Nat) : Int) := by rw [Int.natCast_mul]; rfl
  rw [h2]
  generalize t * (i + 1) = p at *
  exact ⟨IntWalk.wrap64_in _ ⟨by omega, by omega⟩, by omega⟩
theorem drTo_succ (n s0 j : Nat) : drTo n s0 (j + 1) = (swapL (drTo n s0 j).1 (n - 1 - j) (pickK (nextS (drTo n s0 j).2) (n - 1 - j)), nextS (drTo n s0 j).2) := by rw [drTo]
theorem swap_own {w : World} {B g n c : Nat} {xs : List Int} (h : Own w B (some ⟨g, 0, none⟩) n c xs) (i k : Nat) (hB : B ≤ g) (q : Nat) :
    Own (((w.setCell ⟨g, i, none⟩ (.int .i64 (xs.getD k 0))).setCell ⟨g, k, none⟩ (.int .i64 (xs.getD i 0))).drewN q) B (some ⟨g, 0, none⟩) n c (swapL xs i k) ∧
      Below B w (((w.setCell ⟨g, i, none⟩ (.int .i64 (xs.getD k 0))).setCell ⟨g, k, none⟩ (.int .i64 (xs.getD i 0))).drewN q) := by
  refine ⟨Own.drewN ?_ q, below_drewN (((Below.refl _ _).setCell (by exact hB) _).setCell (by exact hB) _) q⟩
  have h1 := (World.ownsRow.stored (h := h) i (.int .i64 (xs.getD k 0))).1
  have h2 := (World.ownsRow.stored (h := h1) k (.int .i64 (xs.getD i 0))).1
  rw [ivs_set, ivs_set] at h2
  unfold swapL
  exact h2
theorem ex_eq {α : Type} (x : α) : ∃ k, x = k := ⟨x, rfl⟩
theorem int_congr {k : IntKind} {a b : Int} (h : a = b) : Value.int k a = Value.int k b := by rw [h]
theorem hr0 (sd : Nat) : (1664525 * (sd : Int) + 1013904223) % 4294967296 = ((nextS sd : Nat) : Int) := by unfold nextS; omega
theorem hr4 (t i : Nat) (ht : t < 4294967296) (hi : i ≤ 1000) : wrap64 ((wrap64 ((t : Int) * ((i : Int) + 1))).tdiv 4294967296) = ((pickK t i : Nat) : Int) := by
  obtain ⟨h1, h2⟩ := mul_wrap t i ht hi
  rw [h1]
  unfold pickK
  generalize t * (i + 1) = p at *
  rw [Int.tdiv_eq_ediv_of_nonneg (by omega)]
  have h3 : (p : Int) / 4294967296 = ((p / 4294967296 : Nat) : Int) := by omega
  rw [h3]
  exact IntWalk.wrap64_in _ ⟨by omega, by omega⟩
def drawn (n s0 : Nat) : List Int × Nat := drTo n s0 (n - 1)

set_option maxHeartbeats 1000000 in
theorem l02New_any (n : Nat) (w : World) (hn : n ≤ 1048576) :
    Calls Try.prog 98 #[.int .i64 n] w fun e w' => ∃ A' c', e = .returned (.slice A' n c') ∧ Own w' w.heap.size A' n c' (news n) ∧ Below w.heap.size w w' := by
  go_enter Try.func98, Try.ntmps98
  go_wp2
  generalize hg : w.heap.size = g at *
  have HG := hide hg
  have hz : g ≤ w.heap.size := by omega
  clear hg
  go_loopw [3, 4] (fun v i wr => ∃ k : Nat, k ≤ n ∧ i = .int .i64 k ∧ Lst wr g v (news k) ∧ Below g w wr) (fun _ i _ => n - (intOf i).toNat)
  case atStart => exact ⟨0, Nat.zero_le _, rfl, by have := Lst.new w hz; rw [HG.out] at this; exact this, (Below.refl _ _).alloc hz _⟩
  case round =>
    obtain ⟨k, hk, rfl, hown, hbr⟩ := hrel
    have hgr : g ≤ wr.heap.size := by have := hbr.size; omega
    by_cases hlt : k < n
    · have HS := hide (news_succ k)
      have hl := news_len k
      go_wp2_with (at_builtin; refine wpList_app rfl (.tmp 11) (.tmp 13) rfl g _ (news k) [(k : Int)] rfl (hown.alloc _) (some ⟨wr.heap.size, 0, none⟩) 1 1 rfl (rd_one wr (k : Int) 2) (fun h => by cases h) (by omega) (by simp; omega) ?_; intro v4 w4 ho4 hg4 _)
      have hb4 : Below g wr w4 := ((Below.refl _ _).alloc hgr _).trans ((hown.alloc _).grown hg4 (by simp; omega))
      have ho4' : Lst w4 g v4 (news (k + 1)) := by rw [HS.out]; exact ho4
      clear hg4 ho4 hown
      go_wp2
      go_roundw
      case rel => exact ⟨k + 1, by omega, by go_num, ho4', hbr.trans hb4⟩
      case measure => simp only [intOf]; omega
    · obtain rfl : k = n := by omega
      obtain ⟨A4, c4, rfl, ho⟩ := hown.form
      have hl := news_len k
      rw [hl] at ho ⊢
      clear hl
      go_wp2
      go_ret
      refine ⟨A4, c4, rfl, ?_, ?_⟩
      · rw [HG.out]; exact ho
      · rw [HG.out]; exact hbr

set_option maxHeartbeats 1000000 in
theorem newDeck_any (n : Nat) (w : World) (hn : n ≤ 1048576) :
    Calls Try.prog 82 #[.int .i64 n] w fun e w' => ∃ A' c', e = .returned (.slice A' n c') ∧ Own w' w.heap.size A' n c' (news n) ∧ Below w.heap.size w w' := by
  go_enter Try.func82, Try.ntmps82
  go_wp2
  generalize hg : w.heap.size = g at *
  have HG := hide hg
  have hz : g ≤ w.heap.size := by omega
  clear hg
  go_loopw [3, 4, 7] (fun v _ i wr => ∃ k : Nat, k ≤ n ∧ i = .int .i64 k ∧ Lst wr g v (news k) ∧ Below g w wr) (fun _ _ i _ => n - (intOf i).toNat)
  case atStart => exact ⟨0, Nat.zero_le _, rfl, by have := Lst.new w hz; rw [HG.out] at this; exact this, (Below.refl _ _).alloc hz _⟩
  case round =>
    obtain ⟨k, hk, rfl, hown, hbr⟩ := hrel
    have hgr : g ≤ wr.heap.size := by have := hbr.size; omega
    by_cases hlt : k < n
    · have HS := hide (news_succ k)
      have hl := news_len k
      go_wp2_with (at_builtin; refine wpList_app rfl (.tmp 10) (.tmp 12) rfl g _ (news k) [(k : Int)] rfl (hown.alloc _) (some ⟨wr.heap.size, 0, none⟩) 1 1 rfl (rd_one wr (k : Int) 2) (fun h => by cases h) (by omega) (by simp; omega) ?_; intro v4 w4 ho4 hg4 _)
      have hb4 : Below g wr w4 := ((Below.refl _ _).alloc hgr _).trans ((hown.alloc _).grown hg4 (by simp; omega))
      have ho4' : Lst w4 g v4 (news (k + 1)) := by rw [HS.out]; exact ho4
      clear hg4 ho4 hown
      go_wp2
      go_roundw
      case rel => exact ⟨k + 1, by omega, by go_num, ho4', hbr.trans hb4⟩
      case measure => simp only [intOf]; omega
    · obtain rfl : k = n := by omega
      obtain ⟨A4, c4, rfl, ho⟩ := hown.form
      have hl := news_len k
      rw [hl] at ho ⊢
      clear hl
      go_wp2
      go_ret
      refine ⟨A4, c4, rfl, ?_, ?_⟩
      · rw [HG.out]; exact ho
      · rw [HG.out]; exact hbr

set_option maxHeartbeats 1000000 in
theorem nextSeed_any (s : Nat) (w : World) (hs : s < 4294967296) : Calls Try.prog 100 #[.int .i64 s] w fun e w' => e = .returned (.int .i64 (nextS s)) ∧ w = w' := by
  go_enter Try.func100, Try.ntmps100
  go_wp2
  go_ret
  exact ⟨by unfold nextS; congr 1, rfl⟩

theorem isSeed_any (n : Int) (w : World) : Calls Try.prog 86 #[.int .i64 n] w fun e w' => e = .returned (.bool (inB n 0 4294967295)) ∧ w = w' := by
  go_enter Try.func86, Try.ntmps86
  go_wp2_with (go_at_call 69; refine (within_any _ _ _ _).mono ?_; rintro e w' ⟨rfl, rfl⟩)
  go_ret
  exact ⟨rfl, rfl⟩

set_option maxHeartbeats 1000000 in
theorem drawDeck_any (n s0 : Nat) (w : World) (hn : 1 ≤ n) (hn' : n ≤ 1000) (hs : s0 < 4294967296) :
    Calls Try.prog 87 #[.int .i64 n, .int .i64 s0] w fun e w' => ∃ A' c', e = .returned (.tuple #[.slice A' n c', .int .i64 ((drawn n s0).2 : Nat)]) ∧ Own w' w.heap.size A' n c' (drawn n s0).1 ∧ Below w.heap.size w w' := by
  go_enter Try.func87, Try.ntmps87
  go_wp2_with (go_at_call 82; refine (newDeck_any n _ (by omega)).mono ?_; rintro e v1 ⟨A1, c1, rfl, ho1, hb1⟩)
  have hz1 := hb1.size
  generalize hg : w.heap.size = g at *
  have HG := hide hg
  clear hg
  go_loopw [1, 7] (fun sd i wr => ∃ j : Nat, j ≤ n - 1 ∧ i = .int .i64 ((n : Int) - 1 - j) ∧ sd = .int .i64 ((drTo n s0 j).2 : Nat) ∧ Own wr g A1 n c1 (drTo n s0 j).1 ∧ Below g w wr) (fun _ i _ => (intOf i).toNat)
  case atStart => exact ⟨0, Nat.zero_le _, by simp, rfl, ho1, hb1⟩
  case round =>
    obtain ⟨j, hj, rfl, rfl, hown, hb⟩ := hrel
    by_cases hlt : j < n - 1
    · have hi : (n : Int) - 1 - j = ((n - 1 - j : Nat) : Int) := by omega
      have HS := hide (drTo_succ n s0 j)
      have hsl := drTo_lt n s0 j hs
      have hl := drTo_len n s0 j
      rw [hi]
      generalize hii : n - 1 - j = i at *
      generalize (drTo n s0 j).2 = sd at *
      generalize (drTo n s0 j).1 = xs at *
      have hin : i < n := by omega
      have hi1 : 1 ≤ i := by omega
      have HI := hide hii
      have htl := nextS_lt sd
      have hkl := pickK_le i htl
      have HN := hide (fun w => nextSeed_any sd w hsl)
      obtain ⟨t, ht⟩ := ex_eq (nextS sd)
      rw [ht] at htl hkl HS HN
      have HR2 := hide (hr4 t i htl (by omega))
      obtain ⟨k, hk⟩ := ex_eq (pickK t i)
      rw [hk] at hkl HS HR2
      have hkn : k < n := by omega
      obtain ⟨gg, rfl, hBg, hgs⟩ := hown.form (by omega)
      have hc1 := World.ownsRow.cellAt (h := hown) i (by omega)
      rw [ivs_at _ _ (by rw [hl]; exact hin)] at hc1
      have hc2 := World.ownsRow.cellAt (h := hown) k (by omega)
      rw [ivs_at _ _ (by rw [hl]; exact hkn)] at hc2
      have hf1 := World.ownsRow.frozenAt (h := hown) i
      have hf2 := World.ownsRow.frozenAt (h := hown) k
      have HT2 := hide (swap_own hown i k hBg)
      have hki : k ≤ i := by omega
      clear hown hl hii ht hk hi hkl htl
      by_cases hik : i = k
      · subst hik
        generalize xs.getD i 0 = x at *
        go_upto_region 7 with (go_at_call 100; refine (HN.out _).mono ?_; rintro e w' ⟨rfl, rfl⟩)
        rw [HR2.out]
        go_wp2
        go_region
        go_wp2
        go_roundw
        case rel =>
          have hS1 : (drTo n s0 (j + 1)).1 = swapL xs i i := by rw [HS.out]
          have hS2 : (drTo n s0 (j + 1)).2 = t := by rw [HS.out]
          refine ⟨j + 1, ?_, ?_, ?_, ?_, ?_⟩
          · have := HI.out; omega
          · have := HI.out; exact int_congr (by omega)
          · rw [hS2]
          · rw [hS1]; exact (HT2.out 1).1
          · exact hb.trans (HT2.out 1).2
        case measure => have := HI.out; simp only [intOf]; omega
      · have hki2 : k < i := by omega
        have hki3 : ¬ k = i := by omega
        generalize xs.getD k 0 = y at *
        generalize xs.getD i 0 = x at *
        clear hki
        go_upto_region 7 with (go_at_call 100; refine (HN.out _).mono ?_; rintro e w' ⟨rfl, rfl⟩)
        rw [HR2.out]
        go_wp2
        go_region
        go_wp2
        go_roundw
        case rel =>
          have hS1 : (drTo n s0 (j + 1)).1 = swapL xs i k := by rw [HS.out]
          have hS2 : (drTo n s0 (j + 1)).2 = t := by rw [HS.out]
          refine ⟨j + 1, ?_, ?_, ?_, ?_, ?_⟩
          · have := HI.out; omega
          · have := HI.out; exact int_congr (by omega)
          · rw [hS2]
          · rw [hS1]; exact (HT2.out 1).1
          · exact hb.trans (HT2.out 1).2
        case measure => have := HI.out; simp only [intOf]; omega
    · have hj' : j = n - 1 := by omega
      subst hj'
      have hi : (n : Int) - 1 - ((n - 1 : Nat) : Int) = 0 := by omega
      rw [hi]
      go_wp2
      go_ret2
      refine ⟨A1, c1, rfl, ?_, ?_⟩
      · rw [HG.out]; exact hown
      · rw [HG.out]; exact hb

def drawOk (n sd : Int) : Bool := inB n 1 52 && inB sd 0 4294967295
def drawOut (n sd : Int) : List Int := if drawOk n sd then (drawn n.toNat sd.toNat).1 else []
def drawSeed (n sd : Int) : Nat := if drawOk n sd then (drawn n.toNat sd.toNat).2 else 0
theorem drawOut_len (n sd : Int) : (drawOut n sd).length ≤ 1048576 := by
  unfold drawOut
  split
  · next h =>
    simp only [drawOk, Bool.and_eq_true] at h
    have := inB_yes h.1
    unfold drawn
    rw [drTo_len]
    omega
  · simp

set_option maxHeartbeats 1000000 in
theorem impl_DrawDeck (n sd : Int) (w : World) :
    Calls Try.prog 60 #[.int .i64 n, .int .i64 sd] w fun e w' => ∃ A' c', e = .returned (.tuple #[.slice A' (drawOut n sd).length c', .int .i64 (drawSeed n sd : Nat), .bool (drawOk n sd)]) ∧ Own w' w.heap.size A' (drawOut n sd).length c' (drawOut n sd) ∧ Below w.heap.size w w' := by
  cases h1 : inB n 1 52
  · have hK : drawOk n sd = false := by simp [drawOk, h1]
    have hO : drawOut n sd = [] := by simp [drawOut, hK]
    have hS : drawSeed n sd = 0 := by simp [drawSeed, hK]
    rw [hO, hK, hS]
    clear hO hK hS
    go_enter Try.func60, Try.ntmps60
    go_wp2_with (first | (go_at_call 69; refine (within_any _ _ _ _).mono ?_; rintro e w' ⟨rfl, rfl⟩) | (go_at_call 86; refine (isSeed_any _ _).mono ?_; rintro e w' ⟨rfl, rfl⟩))
    go_ret3
    exact ⟨none, 0, rfl, Own.nil _ _, Below.refl _ _⟩
  · cases h2 : inB sd 0 4294967295
    · have hK : drawOk n sd = false := by simp [drawOk, h2]
      have hO : drawOut n sd = [] := by simp [drawOut, hK]
      have hS : drawSeed n sd = 0 := by simp [drawSeed, hK]
      rw [hO, hK, hS]
      clear hO hK hS
      go_enter Try.func60, Try.ntmps60
      go_wp2_with (first | (go_at_call 69; refine (within_any _ _ _ _).mono ?_; rintro e w' ⟨rfl, rfl⟩) | (go_at_call 86; refine (isSeed_any _ _).mono ?_; rintro e w' ⟨rfl, rfl⟩))
      go_ret3
      exact ⟨none, 0, rfl, Own.nil _ _, Below.refl _ _⟩
    · obtain ⟨b1, b2⟩ := inB_yes h1
      obtain ⟨b3, b4⟩ := inB_yes h2
      obtain ⟨m, rfl⟩ := Int.eq_ofNat_of_zero_le (show 0 ≤ n by omega)
      obtain ⟨s0, rfl⟩ := Int.eq_ofNat_of_zero_le b3
      have hK : drawOk (m : Int) (s0 : Int) = true := by simp [drawOk, h1, h2]
      have hO : drawOut (m : Int) (s0 : Int) = (drawn m s0).1 := by simp [drawOut, hK]
      have hS : drawSeed (m : Int) (s0 : Int) = (drawn m s0).2 := by simp [drawSeed, hK]
      have hl : (drawn m s0).1.length = m := by unfold drawn; rw [drTo_len]
      rw [hO, hK, hS, hl]
      have hD := fun w => drawDeck_any m s0 w (by omega) (by omega) (by omega)
      obtain ⟨xs, hxs⟩ := ex_eq (drawn m s0).1
      obtain ⟨t, ht⟩ := ex_eq (drawn m s0).2
      rw [hxs, ht]
      rw [hxs, ht] at hD
      have HD := hide hD
      clear hD hK hO hS hl hxs ht b3 b4
      go_enter Try.func60, Try.ntmps60
      go_wp2_with (first | (first | (go_at_call 69; refine (within_any _ _ _ _).mono ?_; rintro e w' ⟨rfl, rfl⟩) | (go_at_call 86; refine (isSeed_any _ _).mono ?_; rintro e w' ⟨rfl, rfl⟩)) | (go_at_call 87; refine (HD.out _).mono ?_; rintro e v1 ⟨A1, c1, rfl, ho1, hb1⟩))
      go_ret3
      exact ⟨A1, c1, rfl, ho1, hb1⟩
end Go.Proofs.Ytfncmgaeecjacaa.deck
