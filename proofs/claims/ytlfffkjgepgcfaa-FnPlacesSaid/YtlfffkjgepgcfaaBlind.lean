/-
  BlindSteps of both packages answers the same. Conditions: those of each theorem.
-/
import Derived.Test.YtlfffkjgepgcfaaApp
namespace Go.Proofs.Ytlfffkjgepgcfaa.chance
open Go.RowKit
open base mem

def nxW (by' of' : Int) (s : Int) : Int := wrap64 ((wrap64 (wrap64 (wrap64 (s * by') + of') - 1)).tdiv of')
def stW (a by' of' : Int) : Nat → Int
  | 0 => a
  | k + 1 => nxW by' of' (stW a by' of' k)
def stL (a by' of' : Int) (k : Nat) : List Int := (List.range k).map (stW a by' of')
theorem stL_len (a by' of' : Int) (k : Nat) : (stL a by' of' k).length = k := by simp [stL]
theorem stL_succ (a by' of' : Int) (k : Nat) : stL a by' of' (k + 1) = stL a by' of' k ++ [stW a by' of' k] := by simp [stL, List.range_succ]
theorem stL_last (a by' of' : Int) (k : Nat) : (stL a by' of' (k + 1)).getD k 0 = stW a by' of' k := by simp [stL, List.getD]
def stG (a by' of' : Int) (m : Nat) : Bool := (List.range m).all fun k => decide (stW a by' of' k ≤ 1000000)
theorem stG_no {a by' of' : Int} {m k : Nat} (hk : k < m) (h : ¬ stW a by' of' k ≤ 1000000) : stG a by' of' m = false := by
  unfold stG
  rw [List.all_eq_false]
  exact ⟨k, by simpa using hk, by simpa using h⟩
theorem stG_yes {a by' of' : Int} {m : Nat} (h : ∀ k, k < m → stW a by' of' k ≤ 1000000) : stG a by' of' m = true := by
  unfold stG
  rw [List.all_eq_true]
  intro k hk
  exact decide_eq_true (h k (by simpa using hk))
def blOk (a by' of' c : Int) : Bool := inB a 1 1000000 && (inB by' 1 100 && (inB of' 1 100 && (!decide (by' ≤ of') && (inB c 1 32 && stG a by' of' c.toNat))))
def blOut (a by' of' c : Int) : List Int := if blOk a by' of' c then stL a by' of' c.toNat else []
theorem blOut_len (a by' of' c : Int) : (blOut a by' of' c).length ≤ 1048576 := by
  unfold blOut
  split
  · next h =>
    simp only [blOk, Bool.and_eq_true] at h
    have := inB_yes h.2.2.2.2.1
    rw [stL_len]
    omega
  · simp

set_option maxHeartbeats 2000000 in
theorem spec_BlindSteps (a by' of' c : Int) (w : World) :
    Calls Try.prog 23 #[.int .i64 a, .int .i64 by', .int .i64 of', .int .i64 c] w fun e w' => ∃ A2 c2, e = .returned (.tuple #[.slice A2 (blOut a by' of' c).length c2, .bool (blOk a by' of' c)]) ∧ Own w' w.heap.size A2 (blOut a by' of' c).length c2 (blOut a by' of' c) ∧ Below w.heap.size w w' := by
  cases h1 : inB a 1 1000000
  · have hK : blOk a by' of' c = false := by simp [blOk, h1]
    have hO : blOut a by' of' c = [] := by simp [blOut, hK]
    rw [hO, hK]
    clear hO hK
    go_enter Try.func23, Try.ntmps23
    go_wp2_with (first | (go_at_call 53; refine (l00In_any _ _ _ _).mono ?_; rintro e w' ⟨rfl, rfl⟩))
    go_ret2
    exact ⟨none, 0, rfl, Own.nil _ _, Below.refl _ _⟩
  cases h2 : inB by' 1 100
  · have hK : blOk a by' of' c = false := by simp [blOk, h2]
    have hO : blOut a by' of' c = [] := by simp [blOut, hK]
    rw [hO, hK]
    clear hO hK
    go_enter Try.func23, Try.ntmps23
    go_wp2_with (first | (go_at_call 53; refine (l00In_any _ _ _ _).mono ?_; rintro e w' ⟨rfl, rfl⟩))
    go_ret2
    exact ⟨none, 0, rfl, Own.nil _ _, Below.refl _ _⟩
  cases h3 : inB of' 1 100
  · have hK : blOk a by' of' c = false := by simp [blOk, h3]
    have hO : blOut a by' of' c = [] := by simp [blOut, hK]
    rw [hO, hK]
    clear hO hK
    go_enter Try.func23, Try.ntmps23
    go_wp2_with (first | (go_at_call 53; refine (l00In_any _ _ _ _).mono ?_; rintro e w' ⟨rfl, rfl⟩))
    go_ret2
    exact ⟨none, 0, rfl, Own.nil _ _, Below.refl _ _⟩
  by_cases h4 : ¬ by' ≤ of'
  rotate_left
  · have hK : blOk a by' of' c = false := by simp [blOk, h4]
    have hO : blOut a by' of' c = [] := by simp [blOut, hK]
    rw [hO, hK]
    clear hO hK
    go_enter Try.func23, Try.ntmps23
    go_wp2_with (first | (go_at_call 53; refine (l00In_any _ _ _ _).mono ?_; rintro e w' ⟨rfl, rfl⟩))
    go_ret2
    exact ⟨none, 0, rfl, Own.nil _ _, Below.refl _ _⟩
  cases h5 : inB c 1 32
  · have hK : blOk a by' of' c = false := by simp [blOk, h5]
    have hO : blOut a by' of' c = [] := by simp [blOut, hK]
    rw [hO, hK]
    clear hO hK
    go_enter Try.func23, Try.ntmps23
    go_wp2_with (first | (go_at_call 53; refine (l00In_any _ _ _ _).mono ?_; rintro e w' ⟨rfl, rfl⟩))
    go_ret2
    exact ⟨none, 0, rfl, Own.nil _ _, Below.refl _ _⟩
  obtain ⟨a1, a2⟩ := inB_yes h1
  obtain ⟨b1, b2⟩ := inB_yes h2
  obtain ⟨o1, o2⟩ := inB_yes h3
  obtain ⟨c1, c2⟩ := inB_yes h5
  obtain ⟨m, rfl⟩ := Int.eq_ofNat_of_zero_le (show 0 ≤ c by omega)
  have HK := hide (show stG a by' of' m = false → blOk a by' of' m = false from fun h => by simp [blOk, h])
  have HO := hide (show stG a by' of' m = false → blOut a by' of' m = [] from fun h => by simp [blOut, blOk, h])
  have HKY := hide (show stG a by' of' m = true → blOk a by' of' m = true from fun h => by simp [blOk, h, h1, h2, h3, h4, h5])
  have HOY := hide (show stG a by' of' m = true → blOut a by' of' m = stL a by' of' m from fun h => by simp [blOut, blOk, h, h1, h2, h3, h4, h5])
  obtain ⟨OK, hOK⟩ := ex_eq (blOk a by' of' m)
  obtain ⟨OUT, hOUT⟩ := ex_eq (blOut a by' of' m)
  rw [hOK] at HK HKY ⊢
  rw [hOUT] at HO HOY ⊢
  clear hOK hOUT
  go_enter Try.func23, Try.ntmps23
  go_wp2_with (first | (go_at_call 53; refine (l00In_any _ _ _ _).mono ?_; rintro e w' ⟨rfl, rfl⟩))
  generalize hg : w.heap.size = g at *
  have HG := hide hg
  have hz : g ≤ w.heap.size := by omega
  clear hg h1 h2 h3 h5
  go_loopw [0, 3, 10] (fun x ct v wr => ∃ k : Nat, k ≤ m ∧ ct = .int .i64 ((m - k : Nat) : Int) ∧ x = .int .i64 (stW a by' of' k) ∧ Lst wr g v (stL a by' of' k) ∧ Below g w wr ∧ Hid (∀ j, j < k → stW a by' of' j ≤ 1000000)) (fun _ ct _ _ => (intOf ct).toNat)
  case atStart => exact ⟨0, Nat.zero_le _, rfl, rfl, Lst.new' w hz HG.out, (Below.refl _ _).alloc hz _, fun j hj => absurd hj (Nat.not_lt_zero j)⟩
  case round =>
    obtain ⟨k, hk, rfl, rfl, hown, hbr, hgood⟩ := hrel
    have hgr : g ≤ wr.heap.size := by have := hbr.size; have := HG.out; omega
    by_cases hlt : k < m
    · have hlk := stL_len a by' of' k
      have HS1 := hide (stL_succ a by' of' k)
      have HS2 := hide (show nxW by' of' (stW a by' of' k) = stW a by' of' (k + 1) from rfl)
      by_cases hx : stW a by' of' k ≤ 1000000
      · have hgood2 := hide (show ∀ j, j < k + 1 → stW a by' of' j ≤ 1000000 from fun j hj => by rcases Nat.lt_succ_iff_lt_or_eq.1 hj with h | h; exact hgood.out j h; rw [h]; exact hx)
        obtain ⟨x, hxe⟩ := ex_eq (stW a by' of' k)
        rw [hxe] at hx HS1 HS2 ⊢
        obtain ⟨ys, hys⟩ := ex_eq (stL a by' of' k)
        rw [hys] at hlk hown HS1
        clear hxe hys
        have HM := hide (show (((m - k : Nat) : Int) - 1) = ((m - (k + 1) : Nat) : Int) by omega)
        have hmk : 0 < m - k := by omega
        have hmk2 : m - k ≤ 32 := by omega
        have hof : ¬ of' = 0 := by omega
        obtain ⟨t, ht⟩ := ex_eq (m - k)
        rw [ht] at hmk hmk2 HM ⊢
        have HT := hide ht
        clear ht
        go_wp2_with (at_builtin; refine wpList_app rfl (.tmp 41) (.tmp 43) rfl g _ ys [x] rfl (hown.alloc _) (some ⟨wr.heap.size, 0, none⟩) 1 1 rfl (rd_one wr x 2) (fun h => by cases h) (by omega) (by simp; omega) ?_; intro v4 w4 ho4 hg4 _)
        have hb4 : Below g wr w4 := ((Below.refl _ _).alloc hgr _).trans ((hown.alloc _).grown hg4 (by simp; omega))
        have ho4' : Lst w4 g v4 (stL a by' of' (k + 1)) := by rw [HS1.out]; exact ho4
        clear hg4 ho4 hown
        go_wp2
        go_roundw
        case rel => exact ⟨k + 1, hlt, by rw [HM.out], by rw [← HS2.out]; rfl, ho4', hbr.trans hb4, hgood2.out⟩
        case measure => have := HM.out; simp only [intOf]; omega
      · have HF := hide (stG_no hlt hx)
        obtain ⟨x, hxe⟩ := ex_eq (stW a by' of' k)
        rw [hxe] at hx ⊢
        clear hxe
        have hmk : 0 < m - k := by omega
        obtain ⟨t, ht⟩ := ex_eq (m - k)
        rw [ht] at hmk ⊢
        clear ht
        go_wp2
        go_ret2
        rw [HK.out HF.out, HO.out HF.out]
        exact ⟨none, 0, rfl, Own.nil _ _, by rw [HG.out]; exact hbr⟩
    · obtain rfl : k = m := by omega
      have HY := hide (stG_yes hgood.out)
      obtain ⟨A4, c4, rfl, ho⟩ := hown.form
      rw [Nat.sub_self]
      go_wp2
      go_ret2
      rw [HKY.out HY.out, HOY.out HY.out]
      exact ⟨A4, c4, rfl, by rw [HG.out]; exact ho, by rw [HG.out]; exact hbr⟩

set_option maxHeartbeats 2000000 in
theorem impl_BlindSteps (a by' of' c : Int) (w : World) :
    Calls Try.prog 24 #[.int .i64 a, .int .i64 by', .int .i64 of', .int .i64 c] w fun e w' => ∃ A2 c2, e = .returned (.tuple #[.slice A2 (blOut a by' of' c).length c2, .bool (blOk a by' of' c)]) ∧ Own w' w.heap.size A2 (blOut a by' of' c).length c2 (blOut a by' of' c) ∧ Below w.heap.size w w' := by
  cases h1 : inB a 1 1000000
  · have hK : blOk a by' of' c = false := by simp [blOk, h1]
    have hO : blOut a by' of' c = [] := by simp [blOut, hK]
    rw [hO, hK]
    clear hO hK
    go_enter Try.func24, Try.ntmps24
    go_wp2_with (first | (go_at_call 54; refine (within_any _ _ _ _).mono ?_; rintro e w' ⟨rfl, rfl⟩))
    go_ret2
    exact ⟨none, 0, rfl, Own.nil _ _, Below.refl _ _⟩
  cases h2 : inB by' 1 100
  · have hK : blOk a by' of' c = false := by simp [blOk, h2]
    have hO : blOut a by' of' c = [] := by simp [blOut, hK]
    rw [hO, hK]
    clear hO hK
    go_enter Try.func24, Try.ntmps24
    go_wp2_with (first | (go_at_call 54; refine (within_any _ _ _ _).mono ?_; rintro e w' ⟨rfl, rfl⟩))
    go_ret2
    exact ⟨none, 0, rfl, Own.nil _ _, Below.refl _ _⟩
  cases h3 : inB of' 1 100
  · have hK : blOk a by' of' c = false := by simp [blOk, h3]
    have hO : blOut a by' of' c = [] := by simp [blOut, hK]
    rw [hO, hK]
    clear hO hK
    go_enter Try.func24, Try.ntmps24
    go_wp2_with (first | (go_at_call 54; refine (within_any _ _ _ _).mono ?_; rintro e w' ⟨rfl, rfl⟩))
    go_ret2
    exact ⟨none, 0, rfl, Own.nil _ _, Below.refl _ _⟩
  by_cases h4 : ¬ by' ≤ of'
  rotate_left
  · have hK : blOk a by' of' c = false := by simp [blOk, h4]
    have hO : blOut a by' of' c = [] := by simp [blOut, hK]
    rw [hO, hK]
    clear hO hK
    go_enter Try.func24, Try.ntmps24
    go_wp2_with (first | (go_at_call 54; refine (within_any _ _ _ _).mono ?_; rintro e w' ⟨rfl, rfl⟩))
    go_ret2
    exact ⟨none, 0, rfl, Own.nil _ _, Below.refl _ _⟩
  cases h5 : inB c 1 32
  · have hK : blOk a by' of' c = false := by simp [blOk, h5]
    have hO : blOut a by' of' c = [] := by simp [blOut, hK]
    rw [hO, hK]
    clear hO hK
    go_enter Try.func24, Try.ntmps24
    go_wp2_with (first | (go_at_call 54; refine (within_any _ _ _ _).mono ?_; rintro e w' ⟨rfl, rfl⟩))
    go_ret2
    exact ⟨none, 0, rfl, Own.nil _ _, Below.refl _ _⟩
  obtain ⟨a1, a2⟩ := inB_yes h1
  obtain ⟨b1, b2⟩ := inB_yes h2
  obtain ⟨o1, o2⟩ := inB_yes h3
  obtain ⟨c1, c2⟩ := inB_yes h5
  obtain ⟨m, rfl⟩ := Int.eq_ofNat_of_zero_le (show 0 ≤ c by omega)
  have HK := hide (show stG a by' of' m = false → blOk a by' of' m = false from fun h => by simp [blOk, h])
  have HO := hide (show stG a by' of' m = false → blOut a by' of' m = [] from fun h => by simp [blOut, blOk, h])
  have HKY := hide (show stG a by' of' m = true → blOk a by' of' m = true from fun h => by simp [blOk, h, h1, h2, h3, h4, h5])
  have HOY := hide (show stG a by' of' m = true → blOut a by' of' m = stL a by' of' m from fun h => by simp [blOut, blOk, h, h1, h2, h3, h4, h5])
  obtain ⟨OK, hOK⟩ := ex_eq (blOk a by' of' m)
  obtain ⟨OUT, hOUT⟩ := ex_eq (blOut a by' of' m)
  rw [hOK] at HK HKY ⊢
  rw [hOUT] at HO HOY ⊢
  clear hOK hOUT
  go_enter Try.func24, Try.ntmps24
  go_wp2_with (first | (go_at_call 54; refine (within_any _ _ _ _).mono ?_; rintro e w' ⟨rfl, rfl⟩))
  generalize hg : w.heap.size = g at *
  have HG := hide hg
  have hz : g ≤ w.heap.size := by omega
  clear hg h1 h2 h3 h5
  go_loopw [10, 11] (fun v _ wr => ∃ k : Nat, k + 1 ≤ m ∧ Lst wr g v (stL a by' of' (k + 1)) ∧ Below g w wr ∧ Hid (∀ j, j < k + 1 → stW a by' of' j ≤ 1000000)) (fun v _ _ => m - (lenOf v))
  case atStart => exact ⟨0, by omega, by have := Lst.one w hz a; rw [HG.out] at this; exact this, (Below.refl _ _).alloc hz _, fun j hj => by (have h0 : j = 0 := by omega); subst h0; exact a2⟩
  case round =>
    obtain ⟨k, hk, hown, hbr, hgood⟩ := hrel
    have hgr : g ≤ wr.heap.size := by have := hbr.size; have := HG.out; omega
    obtain ⟨A4, c4, rfl, ho⟩ := hown.formn (stL_len a by' of' (k + 1))
    by_cases hlt : k + 1 < m
    · obtain ⟨b, o, rfl, hbB, hc⟩ := ho.rd.at_ (Nat.lt_succ_self k)
      rw [stL_last] at hc
      have hlk := stL_len a by' of' (k + 1)
      have HS1 := hide (stL_succ a by' of' (k + 1))
      have HS2 := hide (show nxW by' of' (stW a by' of' k) = stW a by' of' (k + 1) from rfl)
      have hof : ¬ of' = 0 := by omega
      obtain ⟨x, hxe⟩ := ex_eq (stW a by' of' k)
      rw [hxe] at hc HS2
      have hm32 : m ≤ 32 := by omega
      have HU := hide (show wrap64 ((wrap64 (wrap64 (wrap64 (x * by') + of') - 1)).tdiv of') = nxW by' of' x from rfl)
      by_cases hx : stW a by' of' (k + 1) ≤ 1000000
      · have hgood2 := hide (show ∀ j, j < k + 1 + 1 → stW a by' of' j ≤ 1000000 from fun j hj => by rcases Nat.lt_succ_iff_lt_or_eq.1 hj with h | h; exact hgood.out j h; rw [h]; exact hx)
        rw [← HS2.out] at hx HS1
        obtain ⟨y, hye⟩ := ex_eq (nxW by' of' x)
        rw [hye] at hx HS1 HU
        obtain ⟨ys, hys⟩ := ex_eq (stL a by' of' (k + 1))
        rw [hys] at hlk hown HS1
        clear hxe hys hye ho
        go_upto_region 6 with fail
        rw [HU.out]
        go_wp2_with (at_builtin; refine wpList_app rfl (.tmp 56) (.tmp 58) rfl g _ ys [y] rfl (hown.alloc _) (some ⟨wr.heap.size, 0, none⟩) 1 1 rfl (rd_one wr y 2) (fun h => by cases h) (by omega) (by simp; omega) ?_; intro v4 w4 ho4 hg4 _)
        have hb4 : Below g wr w4 := ((Below.refl _ _).alloc hgr _).trans ((hown.alloc _).grown hg4 (by simp; omega))
        have ho4' : Lst w4 g v4 (stL a by' of' (k + 1 + 1)) := by rw [HS1.out]; exact ho4
        clear hg4 ho4 hown
        go_wp2
        go_roundw
        case rel => exact ⟨k + 1, by omega, ho4', hbr.trans hb4, hgood2.out⟩
        case measure =>
          obtain ⟨A5, c5, rfl, _⟩ := ho4'.formn (stL_len a by' of' (k + 1 + 1))
          simp only [lenOf]
          omega
      · have HF := hide (stG_no hlt hx)
        rw [← HS2.out] at hx
        obtain ⟨y, hye⟩ := ex_eq (nxW by' of' x)
        rw [hye] at hx HU
        clear hxe hye ho
        go_upto_region 6 with fail
        rw [HU.out]
        go_wp2
        go_ret2
        rw [HK.out HF.out, HO.out HF.out]
        exact ⟨none, 0, rfl, Own.nil _ _, by rw [HG.out]; exact hbr⟩
    · obtain rfl : k + 1 = m := by omega
      have HY := hide (stG_yes hgood.out)
      have hl := stL_len a by' of' (k + 1)
      go_wp2
      go_ret2
      rw [HKY.out HY.out, HOY.out HY.out, hl]
      exact ⟨A4, c4, rfl, by rw [HG.out]; exact ho, by rw [HG.out]; exact hbr⟩

end Go.Proofs.Ytlfffkjgepgcfaa.chance
