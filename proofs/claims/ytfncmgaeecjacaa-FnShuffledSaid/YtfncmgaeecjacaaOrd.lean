/-
  ShuffleOrder of both packages answers the same. Conditions: those of each theorem.
-/
import Derived.Test.YtfncmgaeecjacaaPerf
import Derived.Test.YtfncmgaeecjacaaDraw
namespace Go.Proofs.Ytfncmgaeecjacaa.deck
open Go.RowKit
open base mem

set_option maxHeartbeats 400000 in
theorem Equal_any (A A' : Option Addr) (n m c c' : Nat) (xs ys : List Int) (w : World) (B B' : Nat) (hR : Rd w B A n xs) (hS : Rd w B' A' m ys) (hn : n ≤ 9223372036854775807) (hm : m ≤ 9223372036854775807) :
    Calls Try.prog 91 #[.slice A n c, .slice A' m c'] w fun e w' => e = .returned (.bool (eqL xs ys)) ∧ ∃ q, w' = w.drewN q := by
  by_cases hne : n = m
  · subst hne
    have HX := hide hR.len
    have HY := hide hS.len
    generalize hE : eqL xs ys = E
    have HE := hide hE
    clear hE
    go_enter Try.func91, Try.ntmps91
    go_wp2
    go_loopw [5, 13] (fun _ i wr => ∃ k q : Nat, k ≤ n ∧ i = .int .i64 k ∧ Hid (xs.take k = ys.take k) ∧ Hid (wr = w.drewN q)) (fun _ i _ => n - (intOf i).toNat)
    case atStart => exact ⟨0, 0, Nat.zero_le _, rfl, rfl, rfl⟩
    case round =>
      obtain ⟨k, q, hk, rfl, ht, hw⟩ := hrel
      by_cases hlt : k < n
      · have hR' : Rd wr B A n xs := by rw [hw.out]; exact hR
        have hS' : Rd wr B' A' n ys := by rw [hw.out]; exact hS
        obtain ⟨b, o, rfl, hbB, hc⟩ := hR'.at_ hlt
        obtain ⟨b', o', rfl, hbB', hc'⟩ := hS'.at_ hlt
        have hlt' : (k : Int) < (n : Int) := by omega
        have h0 : (0 : Int) ≤ (k : Int) := by omega
        clear hR' hS'
        generalize hx : xs.getD k 0 = x at *
        generalize hy : ys.getD k 0 = y at *
        have HX' := hide hx
        have HY' := hide hy
        clear hx hy hR hS hbB hbB'
        by_cases hxy : x = y
        · subst hxy
          go_wp2
          go_quiet (fail)
          go_wp2
          go_roundw
          case rel => exact ⟨k + 1, q + nq, by omega, by go_num, hide (take_step (by rw [HX.out]; exact hlt) (by rw [HY.out]; exact hlt) ht.out (HX'.out.trans HY'.out.symm)), hide (by rw [hw.out, World.drewN_drewN])⟩
          case measure => simp [intOf]; omega
        · have hb : (x != y) = true := by simpa using hxy
          have HF := hide (eqL_ne (k := k) (xs := xs) (ys := ys) (by rw [HX'.out, HY'.out]; exact hxy))
          clear hxy
          go_wp2
          go_quiet (fail)
          go_wp2
          go_ret
          exact ⟨by rw [← HE.out, HF.out]; rfl, q + nq, by rw [hw.out, World.drewN_drewN]⟩
      · obtain rfl : k = n := by omega
        go_wp2
        go_ret
        exact ⟨by rw [← HE.out, eqL_all HX.out HY.out ht.out]; rfl, q, hw.out⟩
  · have hl : eqL xs ys = false := eqL_len (by rw [hR.len, hS.len]; exact hne)
    rw [hl]
    have hb : ((n : Int) != (m : Int)) = true := by rw [bne_iff_ne]; omega
    clear hR hS hl hne
    go_enter Try.func91, Try.ntmps91
    go_wp2
    go_ret
    exact ⟨rfl, 0, rfl⟩


def pfIter (n : Nat) (b : Bool) : Nat → List Int
  | 0 => news n
  | k + 1 => perf (pfIter n b k) b
theorem perf_len (xs : List Int) (b : Bool) (h : xs.length % 2 = 0) : (perf xs b).length = xs.length := by unfold perf; rw [pfTo_len]; omega
theorem pfIter_len (n : Nat) (b : Bool) (h : n % 2 = 0) (k : Nat) : (pfIter n b k).length = n := by
  induction k with
  | zero => exact news_len n
  | succ k ih => rw [pfIter, perf_len _ _ (by rw [ih]; exact h), ih]
def backAt (n : Nat) (b : Bool) (k : Nat) : Bool := eqL (pfIter n b k) (news n)
def reach (x0 : List Int) (b : Bool) : Nat → List Int → Bool
  | 0, _ => false
  | g + 1, xs => eqL xs x0 || reach x0 b g (perf xs b)
theorem reach_sound (n : Nat) (b : Bool) (g k : Nat) (h : reach (news n) b g (pfIter n b k) = true) : ∃ j, k ≤ j ∧ j < k + g ∧ backAt n b j = true := by
  induction g generalizing k with
  | zero => simp [reach] at h
  | succ g ih =>
    rw [reach, Bool.or_eq_true] at h
    rcases h with h | h
    · exact ⟨k, Nat.le_refl _, by omega, h⟩
    · obtain ⟨j, h1, h2, h3⟩ := ih (k + 1) h
      exact ⟨j, by omega, by omega, h3⟩
theorem reach_all : ((List.range 27).all fun h => reach (news (2 * h)) false 52 (perf (news (2 * h)) false) && reach (news (2 * h)) true 52 (perf (news (2 * h)) true)) = true := by decide +kernel
theorem exists_back (n : Nat) (b : Bool) (h1 : n ≤ 52) (h2 : n % 2 = 0) : ∃ k, 1 ≤ k ∧ k ≤ 52 ∧ backAt n b k = true := by
  have h := reach_all
  rw [List.all_eq_true] at h
  have h3 := h (n / 2) (by simp; omega)
  rw [show 2 * (n / 2) = n by omega, Bool.and_eq_true] at h3
  have h4 : reach (news n) b 52 (pfIter n b 1) = true := by cases b; exact h3.1; exact h3.2
  obtain ⟨j, e1, e2, e3⟩ := reach_sound n b 52 1 h4
  exact ⟨j, e1, by omega, e3⟩
def ordF (n : Nat) (b : Bool) : Nat → Nat → Nat
  | 0, k => k
  | g + 1, k => if backAt n b k then k else ordF n b g (k + 1)
theorem ordF_eq (n : Nat) (b : Bool) (g a k : Nat) (h1 : a ≤ k) (h2 : k < a + g) (hno : ∀ j, a ≤ j → j < k → backAt n b j = false) (hk : backAt n b k = true) : ordF n b g a = k := by
  induction g generalizing a with
  | zero => omega
  | succ g ih =>
    rw [ordF]
    by_cases e : a = k
    · subst e; rw [if_pos hk]
    · rw [hno a (Nat.le_refl _) (by omega)]
      exact ih (a + 1) (by omega) (by omega) (fun j hj1 hj2 => hno j (by omega) hj2)
def ordOk (n : Int) : Bool := inB n 1 52 && decide (n % 2 = 0)
def ordOut (n : Int) (b : Bool) : Nat := if ordOk n then ordF n.toNat b 53 1 else 0

set_option maxHeartbeats 2000000 in
theorem impl_ShuffleOrder (n : Int) (b : Bool) (w : World) :
    Calls Try.prog 64 #[.int .i64 n, .bool b] w fun e w' => e = .returned (.tuple #[.int .i64 (ordOut n b : Nat), .bool (ordOk n)]) ∧ Below w.heap.size w w' := by
  cases h1 : inB n 1 52
  · have hK : ordOk n = false := by simp [ordOk, h1]
    have hO : ordOut n b = 0 := by simp [ordOut, hK]
    rw [hO, hK]
    clear hO hK
    go_enter Try.func64, Try.ntmps64
    go_wp2_with (go_at_call 69; refine (within_any _ _ _ _).mono ?_; rintro e w' ⟨rfl, rfl⟩)
    go_ret2
    exact ⟨rfl, Below.refl _ _⟩
  · obtain ⟨b1, b2⟩ := inB_yes h1
    obtain ⟨m, rfl⟩ := Int.eq_ofNat_of_zero_le (show 0 ≤ n by omega)
    by_cases h2 : m % 2 = 0
    · have hK : ordOk (m : Int) = true := by simp [ordOk, h1]; omega
      have hO : ordOut (m : Int) b = ordF m b 53 1 := by simp [ordOut, hK]
      rw [hO, hK]
      have hm2 : ((m : Int) % 2 != 0) = false := by rw [bne_eq_false_iff_eq]; omega
      have HE := hide (exists_back m b (by omega) h2)
      have HL := hide (fun k => pfIter_len m b h2 k)
      have HN := hide (news_len m)
      obtain ⟨R, hR⟩ := ex_eq (ordF m b 53 1)
      rw [hR]
      have HR := hide hR
      have hP0 := fun A c w h => perfect_any A m c (news m) b w h (by omega)
      rw [show perf (news m) b = pfIter m b 1 from rfl, HL.out 1] at hP0
      have hP := fun k A c w h => perfect_any A m c (pfIter m b k) b w h (by omega)
      have HP : Hid (∀ k A c w, Rd w w.heap.size A m (pfIter m b k) → Calls Try.prog 90 #[.slice A m c, .bool b] w fun e w' => ∃ A' c', e = .returned (.slice A' m c') ∧ Own w' w.heap.size A' m c' (pfIter m b (k + 1)) ∧ Below w.heap.size w w') := by
        intro k A c w h
        have := hP k A c w h
        rw [show perf (pfIter m b k) b = pfIter m b (k + 1) from rfl, HL.out (k + 1)] at this
        exact this
      have HP0 := hide hP0
      clear hK hO hR hP hP0
      go_enter Try.func64, Try.ntmps64
      go_wp2_with (first | (go_at_call 69; refine (within_any _ _ _ _).mono ?_; rintro e w' ⟨rfl, rfl⟩) | (go_at_call 82; refine (newDeck_any m _ (by omega)).mono ?_; rintro e v1 ⟨A1, c1, rfl, ho1, hb1⟩) | (go_at_call 90; refine (HP0.out A1 c1 _ ho1.rd).mono ?_; rintro e v2 ⟨A2, c2, rfl, ho2, hb2⟩))
      have hz1 := hb1.size
      have hz2 := hb2.size
      have hS1 := Seg.of ho1
      have hS2 := (hS1.below hb2 (Nat.le_refl _))
      have hbt := hb1.trans (hb2.mono hz1)
      have hL2 := (Seg.of ho2)
      clear ho1 ho2 hS1
      generalize hg : w.heap.size = g at *
      have HG := hide hg
      clear hg
      generalize hg1 : v1.heap.size = g1 at *
      clear hg1
      go_loopw [7, 8] (fun v t wr => ∃ (k : Nat) (A : Option Addr) (c : Nat), 1 ≤ k ∧ v = .slice A m c ∧ t = .int .i64 k ∧ Rd wr wr.heap.size A m (pfIter m b k) ∧ Seg wr g g1 A1 m c1 (news m) ∧ g1 ≤ wr.heap.size ∧ Below g w wr ∧ Hid (∀ j, 1 ≤ j → j < k → backAt m b j = false)) (fun _ t _ => 53 - (intOf t).toNat)
      case atStart => exact ⟨1, A2, c2, by omega, rfl, rfl, hL2.rd (Nat.le_refl _), hS2, hz2, hbt, fun j h1 h2 => by omega⟩
      case round =>
        obtain ⟨k, A, c, hk1, rfl, rfl, hRk, hS, hzr, hbr, hno⟩ := hrel
        have hk52 : k ≤ 52 := by
          obtain ⟨K, k1, k2, k3⟩ := HE.out
          rcases Nat.lt_or_ge K k with h | h
          · have := hno.out K k1 h; rw [k3] at this; cases this
          · omega
        have hgr : g ≤ wr.heap.size := by have := hbr.size; have := HG.out; omega
        have hEQ := Equal_any A A1 m m c c1 (pfIter m b k) (news m) wr _ _ hRk (hS.rd hzr) (by omega) (by omega)
        cases hbk : backAt m b k
        · rw [show eqL (pfIter m b k) (news m) = false from hbk] at hEQ
          have HQ := hide hEQ
          have HB := hide hbk
          have HRk := hide hRk
          clear hEQ hbk hRk
          go_wp2_with (first | (go_at_call 91; refine HQ.out.mono ?_; rintro e v5 ⟨rfl, q, rfl⟩) | (go_at_call 90; refine (HP.out k A c _ (HRk.out.drewN q)).mono ?_; rintro e v6 ⟨A6, c6, rfl, ho6, hb6⟩))
          have hz6 := hb6.size
          have hz6' : wr.heap.size ≤ v6.heap.size := hz6
          have hS6 := Seg.below (w := wr.drewN q) ⟨hS.1, hS.2⟩ hb6 hzr
          go_roundw
          case rel => exact ⟨k + 1, A6, c6, by omega, rfl, by go_num, (Seg.of ho6).rd (Nat.le_refl _), hS6, by omega, (below_drewN hbr q).trans (hb6.mono hgr), fun j h1 h2 => by rcases Nat.lt_succ_iff_lt_or_eq.1 h2 with h | h; exact hno.out j h1 h; rw [h]; exact HB.out⟩
          case measure => simp only [intOf]; omega
        · rw [show eqL (pfIter m b k) (news m) = true from hbk] at hEQ
          have HQ := hide hEQ
          have HF := hide (ordF_eq m b 53 1 k hk1 (by omega) (fun j h1 h2 => hno.out j h1 h2) hbk)
          clear hEQ hbk
          go_wp2_with (go_at_call 91; refine HQ.out.mono ?_; rintro e v5 ⟨rfl, q, rfl⟩)
          go_ret2
          refine ⟨?_, ?_⟩
          · rw [← HR.out, HF.out]; rfl
          · rw [HG.out]; exact below_drewN hbr q
    · have hK : ordOk (m : Int) = false := by simp [ordOk]; omega
      have hO : ordOut (m : Int) b = 0 := by simp [ordOut, hK]
      rw [hO, hK]
      have hm2 : ((m : Int) % 2 != 0) = true := by rw [bne_iff_ne]; omega
      clear hO hK h2
      go_enter Try.func64, Try.ntmps64
      go_wp2_with (go_at_call 69; refine (within_any _ _ _ _).mono ?_; rintro e w' ⟨rfl, rfl⟩)
      go_ret2
      exact ⟨rfl, Below.refl _ _⟩
end Go.Proofs.Ytfncmgaeecjacaa.deck
