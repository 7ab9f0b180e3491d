/-
  OrderOf of both packages answers the same. Conditions: those of each theorem.
-/
import Derived.Test.YtfncmgaeecjacaaCycI
import Derived.Test.YtfncmgaeecjacaaGcd
namespace Go.Proofs.Ytfncmgaeecjacaa.deck
open Go.RowKit
open base mem

/-! ### no program in sight -/
def tot (L : List Int) : Nat := (L.map Int.toNat).sum
def preS (L : List Int) : Nat → Nat
  | 0 => 0
  | k + 1 => preS L k + (L.getD k 0).toNat
def ordTo (L : List Int) : Nat → Nat
  | 0 => 1
  | k + 1 => ordTo L k / Nat.gcd (ordTo L k) (L.getD k 0).toNat * (L.getD k 0).toNat
theorem preS_eq (L : List Int) (k : Nat) (hk : k ≤ L.length) : preS L k = ((L.take k).map Int.toNat).sum := by
  induction k with
  | zero => simp [preS]
  | succ k ih =>
    rw [preS, ih (by omega), List.take_succ_eq_append_getElem (by omega), getD_eq (by omega), List.map_append, List.sum_append]
    simp
theorem preS_le (L : List Int) (k : Nat) (hk : k ≤ L.length) : preS L k ≤ tot L := by
  rw [preS_eq L k hk]
  unfold tot
  conv => rhs; rw [← List.take_append_drop k L]
  rw [List.map_append, List.sum_append]
  omega
theorem ordTo_le (L : List Int) (k : Nat) : ordTo L k ≤ 2 ^ preS L k := by
  induction k with
  | zero => simp [ordTo, preS]
  | succ k ih =>
    rw [ordTo, preS, Nat.pow_add]
    have h1 : ordTo L k / Nat.gcd (ordTo L k) (L.getD k 0).toNat ≤ ordTo L k := Nat.div_le_self _ _
    have h2 : (L.getD k 0).toNat ≤ 2 ^ (L.getD k 0).toNat := Nat.le_of_lt Nat.lt_two_pow_self
    exact Nat.mul_le_mul (Nat.le_trans h1 ih) h2
theorem stC_tot (xs : List Int) (n i : Nat) (hi : i ≤ n) (hx : ∀ j, j < n → (xs.getD j 0).toNat < n) : tot (stC xs n i).2 + (stC xs n i).1.count false = n := by
  induction i with
  | zero => simp [stC, tot]
  | succ i ih =>
    have h1 := ih (by omega)
    have h2 := cycR_cnt xs (n + 1) (stC xs n i).1 i 0 (by rw [stC_len1]; omega) (by rw [stC_len1]; exact hx)
    rw [stC]
    simp only
    split
    · omega
    · unfold tot at *
      rw [List.map_append, List.sum_append]
      simp
      omega
theorem stC_pos (xs : List Int) (n i : Nat) : ∀ x ∈ (stC xs n i).2, 1 ≤ x := by
  induction i with
  | zero => simp [stC]
  | succ i ih =>
    rw [stC]
    simp only
    split
    · exact ih
    · intro x hx
      rcases List.mem_append.1 hx with h | h
      · exact ih x h
      · rw [List.mem_singleton] at h
        omega
theorem cyc_facts {xs : List Int} {n : Nat} (hl : xs.length = n) (ho : ordB xs = true) : tot (cycL xs) ≤ n ∧ ∀ k, k < (cycL xs).length → 1 ≤ (cycL xs).getD k 0 := by
  subst hl
  have hx : ∀ j, j < xs.length → (xs.getD j 0).toNat < xs.length := fun j hj => by
    obtain ⟨q, h1, h2⟩ := deck_card ho hj
    rw [h1]; simpa using h2
  have h1 := stC_tot xs xs.length xs.length (Nat.le_refl _) hx
  have hp := srt_perm (stC xs xs.length xs.length).2
  refine ⟨?_, fun k hk => ?_⟩
  · have h2 : tot (cycL xs) = tot (stC xs xs.length xs.length).2 := (hp.map Int.toNat).sum_nat
    omega
  · rw [getD_eq hk]
    exact stC_pos xs xs.length xs.length _ (hp.mem_iff.1 (List.getElem_mem hk))
def ordrOut (xs : List Int) : Nat := if deckB xs then ordTo (cycL xs) (cycL xs).length else 0
theorem ord_step {o c : Nat} (ho : o ≤ 4503599627370496) (hc : c ≤ 52) : wrap64 (wrap64 ((o : Int) / ((Nat.gcd o c : Nat) : Int)) * (c : Int)) = ((o / Nat.gcd o c * c : Nat) : Int) := by
  have h1 : o / Nat.gcd o c ≤ o := Nat.div_le_self _ _
  rw [gcds.wrap_div o _ (by omega), ← Int.natCast_mul]
  have h2 : o / Nat.gcd o c * c ≤ 4503599627370496 * 52 := Nat.mul_le_mul (Nat.le_trans h1 ho) hc
  exact IntWalk.wrap64_in _ ⟨by omega, by omega⟩

set_option maxHeartbeats 400000 in
theorem l02Gcd_any (x0 y0 : Nat) (w : World) (hx : x0 ≤ 9223372036854775807) (hy : y0 ≤ 9223372036854775807) :
    Calls Try.prog 77 #[.int .i64 x0, .int .i64 y0] w fun e w' => e = .returned (.int .i64 (Nat.gcd x0 y0)) ∧ w = w' := by
  go_enter Try.func77, Try.ntmps77
  go_wp2
  go_loop [0, 1, 5] (fun a b _ => ∃ (x y : Nat), a = .int .i64 x ∧ b = .int .i64 y ∧ x ≤ 9223372036854775807 ∧ y ≤ 9223372036854775807 ∧ Hid (Nat.gcd x y = Nat.gcd x0 y0)) (fun _ b _ => (intOf b).toNat)
  case atStart => exact ⟨x0, y0, rfl, rfl, hx, hy, rfl⟩
  case round =>
    obtain ⟨x, y, rfl, rfl, hx, hy, hg⟩ := hrel
    by_cases hyz : y = 0
    · subst hyz
      go_wp2
      go_ret
      exact ⟨by rw [← hg.out]; simp, rfl⟩
    · have hd : ((y : Int) != 0) = true := by rw [bne_iff_ne]; omega
      go_wp2
      go_round
      case rel => exact ⟨y, x % y, rfl, by go_num, hy, by have := Nat.mod_lt x (show 0 < y by omega); omega, (gcds.gcd_mod x y).trans hg.out⟩
      case measure => have := Nat.mod_lt x (show 0 < y by omega); simp only [intOf]; omega

set_option maxHeartbeats 2000000 in
theorem spec_OrderOf (A : Option Addr) (n c : Nat) (xs : List Int) (w : World) (hR : Rd w w.heap.size A n xs) (hn : n ≤ 1048576) (hnc : n ≤ c) :
    Calls Try.prog 45 #[.slice A n c] w fun e w' => e = .returned (.tuple #[.int .i64 (ordrOut xs : Nat), .bool (deckB xs)]) ∧ Below w.heap.size w w' := by
  have hL1 := l02Deck_b A n c xs w hR (by omega) hnc
  cases hD : deckB xs
  · have hO : ordrOut xs = 0 := by simp [ordrOut, hD]
    rw [hD] at hL1
    rw [hO]
    have HL1 := hide hL1
    clear hL1 hO hD hR
    go_enter Try.func45, Try.ntmps45
    go_wp2_with fail
    refine HL1.out.mono ?_
    rintro e v1 ⟨rfl, hb⟩
    go_wp2
    go_ret2
    exact ⟨rfl, hb⟩
  have hd := deck_len hD
  rw [hR.len] at hd
  obtain ⟨hd1, hd2⟩ := hd
  have hO : ordrOut xs = ordTo (cycL xs) (cycL xs).length := by simp [ordrOut, hD]
  have hlen : (cycL xs).length ≤ n := by rw [← hR.len]; exact cycL_len
  obtain ⟨ht, hpos⟩ := cyc_facts hR.len (deck_ord hD)
  have HCY := hide (fun v h => l02Cycles_any A n c xs v h hd1 hd2 (deck_ord hD))
  rw [hD] at hL1
  rw [hO]
  obtain ⟨L, hLe⟩ := ex_eq (cycL xs)
  rw [hLe] at HCY ht hpos hlen ⊢
  obtain ⟨m, hm⟩ := ex_eq L.length
  have HM := hide hm
  rw [hm] at HCY hlen hpos ⊢
  have HL1 := hide hL1
  have HPOS := hide hpos
  have HB := hide (show ∀ k, k ≤ m → ordTo L k ≤ 4503599627370496 from fun k hk => Nat.le_trans (ordTo_le L k) (Nat.le_trans (Nat.pow_le_pow_right (by omega) (Nat.le_trans (preS_le L k (by omega)) (Nat.le_trans ht hd2))) (by decide)))
  have HC := hide (show ∀ k, k < m → (L.getD k 0).toNat ≤ 52 from fun k hk => by have h1 := preS_le L (k + 1) (by omega); rw [preS] at h1; omega)
  clear hL1 hD hO hLe hm hpos ht
  go_enter Try.func45, Try.ntmps45
  go_wp2_with fail
  refine HL1.out.mono ?_
  rintro e v1 ⟨rfl, hb⟩
  go_wp2_with fail
  refine (HCY.out v1 ((hR.below hb).more hb.size)).mono ?_
  rintro e v2 ⟨A2, c2, rfl, ho, hb2⟩
  have hbb : Below w.heap.size w v2 := hb.trans (hb2.mono hb.size)
  go_wp2
  go_loopw [5, 6] (fun out i wr => ∃ k q : Nat, k ≤ m ∧ i = .int .i64 k ∧ out = .int .i64 (ordTo L k) ∧ Hid (wr = v2.drewN q)) (fun _ i _ => m - (intOf i).toNat)
  case atStart => exact ⟨0, 0, Nat.zero_le _, rfl, rfl, rfl⟩
  case round =>
    obtain ⟨k, q, hk, rfl, rfl, hw⟩ := hrel
    by_cases hlt : k < m
    · have hrd : Rd wr v2.heap.size A2 m L := by rw [hw.out]; exact ho.rd
      obtain ⟨b, o2, rfl, hbB, hc⟩ := hrd.at_ hlt
      have hp := HPOS.out k hlt
      have hc52 := HC.out k hlt
      have ho52 := HB.out k hk
      have hS : ordTo L (k + 1) = ordTo L k / Nat.gcd (ordTo L k) (L.getD k 0).toNat * (L.getD k 0).toNat := rfl
      obtain ⟨cc, hcc⟩ := Int.eq_ofNat_of_zero_le (show 0 ≤ L.getD k 0 by omega)
      rw [hcc] at hc hp hc52 hS
      rw [Int.toNat_natCast] at hc52 hS
      obtain ⟨o, hoe⟩ := ex_eq (ordTo L k)
      rw [hoe] at ho52 hS ⊢
      have HST := hide (show wrap64 (wrap64 ((o : Int) / ((Nat.gcd o cc : Nat) : Int)) * (cc : Int)) = ((ordTo L (k + 1) : Nat) : Int) by rw [hS]; exact ord_step ho52 hc52)
      have hgp : 0 < Nat.gcd o cc := Nat.gcd_pos_of_pos_right _ (by omega)
      have hgl : Nat.gcd o cc ≤ cc := Nat.gcd_le_right _ (by omega)
      have hcc1 : 1 ≤ cc := by omega
      have HG := hide (show Nat.gcd o cc = Nat.gcd o cc from rfl)
      clear hrd hcc hoe hS hp
      go_wp2
      have hG := hide (fun q => l02Gcd_any o cc (wr.drewN q) (by omega) (by omega))
      have f1 : (0 : Int) ≤ (k : Int) := by omega
      have f2 : (k : Int) < (m : Int) := by omega
      go_quiet ((go_at_call 77; exact quiet_eq (hG.out _)))
      go_wp2
      go_roundw
      case rel => exact ⟨k + 1, q + nq, by omega, by go_num, int_congr HST.out, hide (by rw [hw.out, World.drewN_drewN])⟩
      case measure => simp [intOf]; omega
    · obtain rfl : m = k := by omega
      go_wp2
      go_ret2
      exact ⟨rfl, by rw [hw.out]; exact bdrewN hbb _⟩

set_option maxHeartbeats 2000000 in
theorem impl_OrderOf (A : Option Addr) (n c : Nat) (xs : List Int) (w : World) (hR : Rd w w.heap.size A n xs) (hn : n ≤ 1048576) (hnc : n ≤ c) :
    Calls Try.prog 46 #[.slice A n c] w fun e w' => e = .returned (.tuple #[.int .i64 (ordrOut xs : Nat), .bool (deckB xs)]) ∧ Below w.heap.size w w' := by
  have hL1 := impl_CyclesOf A n c xs w hR (by omega) hnc
  cases hD : deckB xs
  · have hO : ordrOut xs = 0 := by simp [ordrOut, hD]
    rw [hD] at hL1
    rw [hO]
    have HL1 := hide hL1
    clear hL1 hO hD hR
    go_enter Try.func46, Try.ntmps46
    go_wp2_with fail
    refine HL1.out.mono ?_
    rintro e v1 ⟨A2, c2, rfl, ho, hb⟩
    go_wp2
    go_ret2
    exact ⟨rfl, hb⟩
  have hd := deck_len hD
  rw [hR.len] at hd
  obtain ⟨hd1, hd2⟩ := hd
  have hO : ordrOut xs = ordTo (cycL xs) (cycL xs).length := by simp [ordrOut, hD]
  have hlen : (cycL xs).length ≤ n := by rw [← hR.len]; exact cycL_len
  obtain ⟨ht, hpos⟩ := cyc_facts hR.len (deck_ord hD)
  have hcyc : cycOut xs = cycL xs := by simp [cycOut, hD]
  rw [hcyc] at hL1
  rw [hD] at hL1
  rw [hO]
  obtain ⟨L, hLe⟩ := ex_eq (cycL xs)
  rw [hLe] at hL1 ht hpos hlen ⊢
  obtain ⟨m, hm⟩ := ex_eq L.length
  have HM := hide hm
  rw [hm] at hL1 hlen hpos ⊢
  have HL1 := hide hL1
  have HPOS := hide hpos
  have HB := hide (show ∀ k, k ≤ m → ordTo L k ≤ 4503599627370496 from fun k hk => Nat.le_trans (ordTo_le L k) (Nat.le_trans (Nat.pow_le_pow_right (by omega) (Nat.le_trans (preS_le L k (by omega)) (Nat.le_trans ht hd2))) (by decide)))
  have HC := hide (show ∀ k, k < m → (L.getD k 0).toNat ≤ 52 from fun k hk => by have h1 := preS_le L (k + 1) (by omega); rw [preS] at h1; omega)
  clear hL1 hD hO hLe hm hpos ht
  go_enter Try.func46, Try.ntmps46
  go_wp2_with fail
  refine HL1.out.mono ?_
  rintro e v2 ⟨A2, c2, rfl, ho, hbb⟩
  go_wp2
  go_loopw [6, 8, 18] (fun out _ i wr => ∃ k q : Nat, k ≤ m ∧ i = .int .i64 k ∧ out = .int .i64 (ordTo L k) ∧ Hid (wr = v2.drewN q)) (fun _ _ i _ => m - (intOf i).toNat)
  case atStart => exact ⟨0, 0, Nat.zero_le _, rfl, rfl, rfl⟩
  case round =>
    obtain ⟨k, q, hk, rfl, rfl, hw⟩ := hrel
    by_cases hlt : k < m
    · have hrd : Rd wr v2.heap.size A2 m L := by rw [hw.out]; exact ho.rd
      obtain ⟨b, o2, rfl, hbB, hc⟩ := hrd.at_ hlt
      have hp := HPOS.out k hlt
      have hc52 := HC.out k hlt
      have ho52 := HB.out k hk
      have hS : ordTo L (k + 1) = ordTo L k / Nat.gcd (ordTo L k) (L.getD k 0).toNat * (L.getD k 0).toNat := rfl
      obtain ⟨cc, hcc⟩ := Int.eq_ofNat_of_zero_le (show 0 ≤ L.getD k 0 by omega)
      rw [hcc] at hc hp hc52 hS
      rw [Int.toNat_natCast] at hc52 hS
      obtain ⟨o, hoe⟩ := ex_eq (ordTo L k)
      rw [hoe] at ho52 hS ⊢
      have HST := hide (show wrap64 (wrap64 ((o : Int) / ((Nat.gcd o cc : Nat) : Int)) * (cc : Int)) = ((ordTo L (k + 1) : Nat) : Int) by rw [hS]; exact ord_step ho52 hc52)
      have hgp : 0 < Nat.gcd o cc := Nat.gcd_pos_of_pos_right _ (by omega)
      have hgl : Nat.gcd o cc ≤ cc := Nat.gcd_le_right _ (by omega)
      have hcc1 : 1 ≤ cc := by omega
      have HG := hide (show Nat.gcd o cc = Nat.gcd o cc from rfl)
      clear hrd hcc hoe hS hp
      go_wp2_with (go_at_call 78; refine (gcds.common_any o cc _ (by omega) (by omega)).mono ?_; rintro e w7 ⟨rfl, nq, rfl⟩)
      go_roundw
      case rel => exact ⟨k + 1, q + nq, by omega, by go_num, int_congr HST.out, hide (by rw [hw.out, World.drewN_drewN])⟩
      case measure => simp [intOf]; omega
    · obtain rfl : m = k := by omega
      go_wp2
      go_ret2
      exact ⟨rfl, by rw [hw.out]; exact bdrewN hbb _⟩

end Go.Proofs.Ytfncmgaeecjacaa.deck
