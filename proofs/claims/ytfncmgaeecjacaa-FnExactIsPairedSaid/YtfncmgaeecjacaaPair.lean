/-
  IsPaired of both packages answers the same. Conditions: those of each theorem.
-/
import Derived.Test.YtfncmgaeecjacaaApp
import Derived.Test.YtfncmgaeecjacaaDeck
import Derived.Maps.OwnSet
import Derived.Maps.Views
import Derived.Maps.Keyed
import Derived.WalkSpells
namespace Go.Proofs.Ytfncmgaeecjacaa.deck
open Go.RowKit
open base mem Go.Maps

/-! ### no program in sight -/
def rsd (xs : List Int) (m i : Nat) : Nat := (xs.getD i 0).toNat % m
def dupAt (xs : List Int) (m i : Nat) : Bool := (List.range (i % m)).any fun t => rsd xs m (i - i % m + t) == rsd xs m i
def anyDup (xs : List Int) (m n : Nat) : Bool := (List.range n).any (dupAt xs m)
theorem dup_yes {xs : List Int} {m i t : Nat} (ht : t < i % m) (h : rsd xs m (i - i % m + t) = rsd xs m i) : dupAt xs m i = true := by
  unfold dupAt
  rw [List.any_eq_true]
  exact ⟨t, by simpa using ht, by simpa using h⟩
theorem dup_no {xs : List Int} {m i : Nat} (h : ∀ t, t < i % m → rsd xs m (i - i % m + t) ≠ rsd xs m i) : dupAt xs m i = false := by
  unfold dupAt
  rw [List.any_eq_false]
  intro t ht
  simpa using h t (by simpa using ht)
theorem any_yes {xs : List Int} {m n i : Nat} (hi : i < n) (h : dupAt xs m i = true) : anyDup xs m n = true := by
  unfold anyDup
  rw [List.any_eq_true]
  exact ⟨i, by simpa using hi, h⟩
theorem any_no {xs : List Int} {m n : Nat} (h : ∀ i, i < n → dupAt xs m i = false) : anyDup xs m n = false := by
  unfold anyDup
  rw [List.any_eq_false]
  intro i hi
  simp [h i (by simpa using hi)]
def kys (xs : List Int) (m p t : Nat) : List Lit := (List.range t).map fun q => Lit.int .i64 (rsd xs m (p + q) : Nat)
theorem kys_succ (xs : List Int) (m p t : Nat) : kys xs m p (t + 1) = kys xs m p t ++ [Lit.int .i64 (rsd xs m (p + t) : Nat)] := by simp [kys, List.range_succ]
theorem kys_key (xs : List Int) (m p t : Nat) : ∀ x ∈ kys xs m p t, WideAt.IsKeyLit x := by
  intro x hx
  simp only [kys, List.mem_map] at hx
  obtain ⟨q, _, rfl⟩ := hx
  trivial
def Sn {H : Type} (xs : List Int) (m p t : Nat) : DataW H := setOf (.lit (.bool true)) (kys xs m p t)
/-- how many residues differ among the first t of a part -/
def dN (xs : List Int) (m p t : Nat) : Nat := ((kys xs m p t).foldl addKey []).length
theorem add_any (l : List Lit) (acc : List Lit) (k : Lit) : (l.foldl addKey acc).any (fun y => y.sameKey k) = (acc.any (fun y => y.sameKey k) || l.any (fun y => y.sameKey k)) := by
  induction l generalizing acc with
  | nil => simp
  | cons x l ih =>
    rw [List.foldl_cons, ih, List.any_cons]
    unfold addKey
    split
    · next h =>
      cases hx : x.sameKey k
      · simp
      · have : acc.any (fun y => y.sameKey k) = true := by
          rw [List.any_eq_true] at h ⊢
          obtain ⟨y, hy, hs⟩ := h
          have h1 := WideAt.sameKey_eq hs
          exact ⟨y, hy, by rw [h1]; exact hx⟩
        simp [this]
    · rw [List.any_append]
      simp [Bool.or_assoc]
theorem same_int (a b : Int) : (Lit.int .i64 a).sameKey (Lit.int .i64 b) = (a == b) := by
  by_cases h : a = b
  · simp [Lit.sameKey, h]
  · simp [Lit.sameKey, h]
theorem Sn_zero {H : Type} (xs : List Int) (m p : Nat) : Sn (H := H) xs m p 0 = .map [] := by simp [Sn, kys, setOf]
theorem Sn_succ {H : Type} (xs : List Int) (m p t : Nat) : Sn (H := H) xs m p (t + 1) = (Sn xs m p t).put (Lit.int .i64 (rsd xs m (p + t) : Nat)) (.lit (.bool true)) := by
  unfold Sn
  rw [kys_succ, setOf_snoc]
theorem Sn_size {H : Type} (xs : List Int) (m p t : Nat) : Maps.size (Sn (H := H) xs m p t) = dN xs m p t := size_setOf _ _ (kys_key xs m p t)
theorem dN_succ (xs : List Int) (m p t : Nat) : dN xs m p (t + 1) = dN xs m p t + if (List.range t).any (fun q => rsd xs m (p + q) == rsd xs m (p + t)) then 0 else 1 := by
  unfold dN
  rw [kys_succ, List.foldl_append, List.foldl_cons, List.foldl_nil]
  have h := add_any (kys xs m p t) [] (Lit.int .i64 (rsd xs m (p + t) : Nat))
  have h2 : (kys xs m p t).any (fun y => y.sameKey (Lit.int .i64 (rsd xs m (p + t) : Nat))) = (List.range t).any (fun q => rsd xs m (p + q) == rsd xs m (p + t)) := by
    unfold kys
    rw [List.any_map]
    congr 1
    funext q
    rw [Function.comp_apply]
    rw [same_int]
    rw [Bool.eq_iff_iff]
    simp only [beq_iff_eq]
    omega
  rw [List.any_nil, Bool.false_or, h2] at h
  rw [show addKey (List.foldl addKey [] (kys xs m p t)) (Lit.int .i64 (rsd xs m (p + t) : Nat)) = if (List.foldl addKey [] (kys xs m p t)).any (fun y => y.sameKey (Lit.int .i64 (rsd xs m (p + t) : Nat))) then (List.foldl addKey [] (kys xs m p t)) else (List.foldl addKey [] (kys xs m p t)) ++ [Lit.int .i64 (rsd xs m (p + t) : Nat)] from rfl, h]
  split <;> simp
theorem dN_le (xs : List Int) (m p t : Nat) : dN xs m p t ≤ t := by
  induction t with
  | zero => simp [dN, kys]
  | succ t ih => rw [dN_succ]; split <;> omega
theorem part_mod {p m t : Nat} (hp : p % m = 0) (ht : t < m) : (p + t) % m = t ∧ p + t - (p + t) % m = p := by
  have h1 : (p + t) % m = t := by rw [Nat.add_mod, hp, Nat.zero_add, Nat.mod_mod, Nat.mod_eq_of_lt ht]
  exact ⟨h1, by rw [h1]; omega⟩
theorem dN_full {xs : List Int} {m p : Nat} (hp : p % m = 0) {t : Nat} (ht : t ≤ m) : dN xs m p t = t ↔ ∀ q, q < t → dupAt xs m (p + q) = false := by
  induction t with
  | zero => simp [dN, kys]
  | succ t ih =>
    have hle := dN_le xs m p t
    have hm := part_mod hp (show t < m by omega)
    have hd : (List.range t).any (fun q => rsd xs m (p + q) == rsd xs m (p + t)) = dupAt xs m (p + t) := by
      unfold dupAt; rw [hm.2, hm.1]
    rw [dN_succ, hd]
    constructor
    · intro h q hq
      have h1 : dupAt xs m (p + t) = false := by
        cases hx : dupAt xs m (p + t)
        · rfl
        · rw [hx] at h; simp at h; omega
      rcases Nat.lt_succ_iff_lt_or_eq.1 hq with h2 | h2
      · exact (ih (by omega)).1 (by rw [h1] at h; simp at h; omega) q h2
      · rw [h2]; exact h1
    · intro h
      rw [h t (by omega)]
      have := (ih (by omega)).2 (fun q hq => h q (by omega))
      simp; omega
def pairOk (xs : List Int) (k : Int) : Bool := deckB xs && (inB k 1 xs.length && decide (xs.length % k.toNat = 0))
def pairB (xs : List Int) (k : Int) : Bool := pairOk xs k && !anyDup xs k.toNat xs.length
theorem next_part {n p m : Nat} (hn : n % m = 0) (hp : p % m = 0) (h : p < n) : p + m ≤ n := by
  rcases Nat.eq_zero_or_pos m with h0 | h0
  · subst h0; omega
  · obtain ⟨a, ha⟩ := Nat.dvd_of_mod_eq_zero hn
    obtain ⟨b, hb⟩ := Nat.dvd_of_mod_eq_zero hp
    subst ha hb
    have h1 : b < a := Nat.lt_of_mul_lt_mul_left h
    have h2 : m * (b + 1) ≤ m * a := Nat.mul_le_mul_left m h1
    rw [Nat.mul_add, Nat.mul_one] at h2
    exact h2

theorem keyLaw : Keyed Try.prog 2 := int_keyed Try.underlying2

set_option maxHeartbeats 4000000 in
theorem spec_IsPaired (A : Option Addr) (n c : Nat) (xs : List Int) (kk : Int) (w : World) (hR : Rd w w.heap.size A n xs) (hn : n ≤ 1048576) (hnc : n ≤ c) :
    Calls Try.prog 39 #[.slice A n c, .int .i64 kk] w fun e w' => e = .returned (.tuple #[.bool (pairB xs kk), .bool (pairOk xs kk)]) ∧ Below w.heap.size w w' := by
  have hL1 := l02Deck_b A n c xs w hR (by omega) hnc
  cases hD : deckB xs
  · have hK : pairOk xs kk = false := by simp [pairOk, hD]
    have hO : pairB xs kk = false := by simp [pairB, hK]
    rw [hD] at hL1
    rw [hO, hK]
    have HL1 := hide hL1
    clear hL1 hO hK hD hR
    go_enter Try.func39, Try.ntmps39
    go_wp2_with fail
    refine HL1.out.mono ?_
    rintro e v1 ⟨rfl, hb⟩
    go_wp2
    go_ret2
    exact ⟨rfl, hb⟩
  cases hin : inB kk 1 (n : Int)
  · have hK : pairOk xs kk = false := by simp [pairOk, hR.len, hin]
    have hO : pairB xs kk = false := by simp [pairB, hK]
    rw [hD] at hL1
    rw [hO, hK]
    have HL1 := hide hL1
    clear hL1 hO hK hD hR
    go_enter Try.func39, Try.ntmps39
    go_wp2_with fail
    refine HL1.out.mono ?_
    rintro e v1 ⟨rfl, hb⟩
    go_wp2_with (go_at_call 68; refine (l00In_any _ _ _ _).mono ?_; rintro e w' ⟨rfl, rfl⟩)
    go_ret2
    exact ⟨rfl, hb⟩
  obtain ⟨hm1, hm2⟩ := inB_yes hin
  obtain ⟨m, rfl⟩ := Int.eq_ofNat_of_zero_le (show 0 ≤ kk by omega)
  have hmp : 1 ≤ m := by omega
  have hmn : m ≤ n := by omega
  have hd := deck_len hD
  rw [hR.len] at hd
  have hm0 : ¬ (m : Int) = 0 := by omega
  have hmz : (0 : Int) ≤ (m : Int) := by omega
  by_cases hmod : n % m = 0
  rotate_left
  · have hK : pairOk xs m = false := by simp [pairOk, hR.len, hmod]
    have hO : pairB xs m = false := by simp [pairB, hK]
    rw [hD] at hL1
    rw [hO, hK]
    have HL1 := hide hL1
    have hne : ((n : Int) % (m : Int) != 0) = true := by rw [← Int.natCast_emod, bne_iff_ne]; omega
    clear hL1 hO hK hD hR hmod
    go_enter Try.func39, Try.ntmps39
    go_wp2_with fail
    refine HL1.out.mono ?_
    rintro e v1 ⟨rfl, hb⟩
    go_wp2_with (go_at_call 68; refine (l00In_any _ _ _ _).mono ?_; rintro e w' ⟨rfl, rfl⟩)
    go_ret2
    exact ⟨rfl, hb⟩
  have hK : pairOk xs m = true := by simp [pairOk, hD, hR.len, hin, hmod]
  have hO : pairB xs m = !anyDup xs m n := by simp [pairB, hK, hR.len]
  rw [hD] at hL1
  rw [hO, hK]
  have HL1 := hide hL1
  have HX := hide hR.len
  have HO := hide (deck_ord hD)
  have HMOD := hide hmod
  have hne : ((n : Int) % (m : Int) != 0) = false := by rw [← Int.natCast_emod, hmod]; rfl
  obtain ⟨E, hE⟩ := ex_eq (anyDup xs m n)
  have HE := hide hE
  rw [hE]
  clear hL1 hO hK hD hmod hE
  go_enter Try.func39, Try.ntmps39
  go_wp2_with fail
  refine HL1.out.mono ?_
  rintro e v1 ⟨rfl, hb⟩
  have hz := hb.size
  have hR1 := hR.below hb
  clear hR HL1
  go_wp2_with (go_at_call 68; refine (l00In_any _ _ _ _).mono ?_; rintro e w' ⟨rfl, rfl⟩)
  go_loopw [7, 8] (fun ii _ wr => ∃ i q : Nat, i ≤ n ∧ ii = .int .i64 i ∧ Hid (wr = v1.drewN q) ∧ Hid (∀ j, j < i → dupAt xs m j = false)) (fun ii _ _ => n - (intOf ii).toNat)
  case atStart => exact ⟨0, 0, Nat.zero_le _, rfl, rfl, fun j hj => absurd hj (Nat.not_lt_zero j)⟩
  case round =>
    obtain ⟨i, q, hi, rfl, hw, hgood⟩ := hrel
    obtain ⟨wo, rfl⟩ : ∃ wo : World, wo = wr := ⟨_, rfl⟩
    by_cases hlt : i < n
    · obtain ⟨r, hr⟩ := ex_eq (i % m)
      have hrm : r < m := by rw [← hr]; exact Nat.mod_lt _ (by omega)
      have hri : r ≤ i := by rw [← hr]; exact Nat.mod_le _ _
      have hr2 : (i : Int) % (m : Int) = (r : Int) := by rw [← Int.natCast_emod, hr]
      have HRR := hide hr
      clear hr
      go_wp2
      go_loopw [8] (fun k2 wr2 => ∃ t q2 : Nat, t ≤ r ∧ k2 = .int .i64 ((i : Int) - (r : Int) + (t : Int)) ∧ Hid (wr2 = v1.drewN q2) ∧ Hid (∀ s, s < t → rsd xs m (i - r + s) ≠ rsd xs m i)) (fun k2 _ => ((i : Int) - intOf k2).toNat)
      case atStart => exact ⟨0, q, Nat.zero_le _, int_congr (by omega), hw, fun s hs => absurd hs (Nat.not_lt_zero s)⟩
      case round =>
        obtain ⟨t, q2, ht, rfl, hw2, hno⟩ := hrel
        obtain ⟨a, ha⟩ := ex_eq (i - r + t)
        have hai : (i : Int) - (r : Int) + (t : Int) = (a : Int) := by omega
        rw [hai]
        have HAI := hide hai
        clear hai
        by_cases hlt2 : t < r
        · have hw2' := hw2
          have hRr : Rd wr v1.heap.size A n xs := by rw [hw2.out]; exact hR1.more hz
          have han : a < n := by omega
          obtain ⟨j1, hj1, hjx1⟩ := deck_card HO.out (show a < xs.length by rw [HX.out]; exact han)
          obtain ⟨j2, hj2, hjx2⟩ := deck_card HO.out (show i < xs.length by rw [HX.out]; exact hlt)
          obtain ⟨b, o, rfl, hbB, hc1⟩ := hRr.at_ han
          obtain ⟨b', o', hA2, _, hc2⟩ := hRr.at_ hlt
          obtain ⟨rfl, rfl⟩ : b = b' ∧ o = o' := by simpa using hA2
          rw [hj1] at hc1
          rw [hj2] at hc2
          have e1 : rsd xs m a = j1 % m := by unfold rsd; rw [hj1]; rfl
          have e2 : rsd xs m i = j2 % m := by unfold rsd; rw [hj2]; rfl
          obtain ⟨d1, hd1⟩ := ex_eq (j1 % m)
          obtain ⟨d2, hd2⟩ := ex_eq (j2 % m)
          have g1 : (j1 : Int) % (m : Int) = (d1 : Int) := by rw [← Int.natCast_emod, hd1]
          have g2 : (j2 : Int) % (m : Int) = (d2 : Int) := by rw [← Int.natCast_emod, hd2]
          have f1 : (0 : Int) ≤ (a : Int) := by omega
          have f2 : (a : Int) < (n : Int) := by omega
          have f3 : (0 : Int) ≤ (i : Int) := by omega
          have f4 : (i : Int) < (n : Int) := by omega
          have f5 : (0 : Int) ≤ (j1 : Int) := by omega
          have f6 : (0 : Int) ≤ (j2 : Int) := by omega
          have g3 : (j1 : Int).tmod (m : Int) = (d1 : Int) := by rw [Int.tmod_eq_emod_of_nonneg f5, g1]
          have g4 : (j2 : Int).tmod (m : Int) = (d2 : Int) := by rw [Int.tmod_eq_emod_of_nonneg f6, g2]
          have f7 : (a : Int) < (i : Int) := by omega
          have E1 := hide (e1.trans hd1)
          have E2 := hide (e2.trans hd2)
          have HAI2 := hide ha
          clear hRr hR1 hj1 hj2 e1 e2 hd1 hd2 hA2 hw2' ha
          by_cases hdd : d1 = d2
          · subst hdd
            have HY := hide (any_yes hlt (dup_yes (xs := xs) (m := m) (i := i) (t := t) (by rw [HRR.out]; exact hlt2) (by rw [HRR.out, HAI2.out, E1.out, E2.out])))
            have hbq : ((d1 : Int) == (d1 : Int)) = true := by simp
            go_wp2
            go_quiet (fail)
            go_wp2
            go_ret2
            rw [← HE.out, HY.out]
            exact ⟨rfl, by rw [hw2.out, World.drewN_drewN]; exact bdrewN hb _⟩
          · have hbq : ((d1 : Int) == (d2 : Int)) = false := by simp; omega
            have HN := hide (show ∀ s, s < t + 1 → rsd xs m (i - r + s) ≠ rsd xs m i from fun s hs => by
              rcases Nat.lt_succ_iff_lt_or_eq.1 hs with h | h
              · exact hno.out s h
              · rw [h, HAI2.out, E1.out, E2.out]; exact hdd)
            clear g1 g2
            go_wp2
            go_quiet (fail)
            go_wp2
            go_roundw
            case rel => exact ⟨t + 1, q2 + nq, by omega, int_congr (by have := HAI.out; omega), hide (by rw [hw2.out, World.drewN_drewN]), HN.out⟩
            case measure => have := HAI.out; simp only [intOf]; omega
        · obtain rfl : t = r := by omega
          have hai2 : a = i := by have := HAI.out; omega
          subst hai2
          have HN := hide (dup_no (xs := xs) (m := m) (i := a) (fun s hs => by rw [HRR.out] at hs ⊢; exact hno.out s hs))
          have HG2 := hide (show ∀ j, j < a + 1 → dupAt xs m j = false from fun j hj => by rcases Nat.lt_succ_iff_lt_or_eq.1 hj with h | h; exact hgood.out j h; rw [h]; exact HN.out)
          clear ha
          go_wp2
          go_roundw
          case rel => exact ⟨a + 1, q2, by omega, by go_num, hw2, HG2.out⟩
          case measure => simp [intOf]; omega
    · obtain rfl : n = i := by omega
      have HY := hide (any_no hgood.out)
      go_wp2
      go_ret2
      rw [← HE.out, HY.out]
      exact ⟨rfl, by rw [hw.out]; exact bdrewN hb _⟩

set_option maxHeartbeats 4000000 in
theorem impl_IsPaired (A : Option Addr) (n c : Nat) (xs : List Int) (kk : Int) (w : World) (hR : Rd w w.heap.size A n xs) (hn : n ≤ 1048576) (hnc : n ≤ c) :
    Calls Try.prog 40 #[.slice A n c, .int .i64 kk] w fun e w' => e = .returned (.tuple #[.bool (pairB xs kk), .bool (pairOk xs kk)]) ∧ Below w.heap.size w w' := by
  have hmm := @run_makeMap Try.prog
  have hL1 := IsDeck_b A n c xs w hR (by omega) hnc
  cases hD : deckB xs
  · have hK : pairOk xs kk = false := by simp [pairOk, hD]
    have hO : pairB xs kk = false := by simp [pairB, hK]
    rw [hD] at hL1
    rw [hO, hK]
    have HL1 := hide hL1
    clear hL1 hO hK hD hR
    go_enter Try.func40, Try.ntmps40
    go_wp2_with fail
    refine HL1.out.mono ?_
    rintro e v1 ⟨rfl, hb⟩
    go_wp2
    go_ret2
    exact ⟨rfl, hb⟩
  cases hin : inB kk 1 (n : Int)
  · have hK : pairOk xs kk = false := by simp [pairOk, hR.len, hin]
    have hO : pairB xs kk = false := by simp [pairB, hK]
    rw [hD] at hL1
    rw [hO, hK]
    have HL1 := hide hL1
    clear hL1 hO hK hD hR
    go_enter Try.func40, Try.ntmps40
    go_wp2_with fail
    refine HL1.out.mono ?_
    rintro e v1 ⟨rfl, hb⟩
    go_wp2_with (go_at_call 69; refine (within_any _ _ _ _).mono ?_; rintro e w' ⟨rfl, rfl⟩)
    go_ret2
    exact ⟨rfl, hb⟩
  obtain ⟨hm1, hm2⟩ := inB_yes hin
  obtain ⟨m, rfl⟩ := Int.eq_ofNat_of_zero_le (show 0 ≤ kk by omega)
  have hmp : 1 ≤ m := by omega
  have hmn : m ≤ n := by omega
  have hd := deck_len hD
  rw [hR.len] at hd
  have hm0 : ¬ (m : Int) = 0 := by omega
  have hmz : (0 : Int) ≤ (m : Int) := by omega
  by_cases hmod : n % m = 0
  rotate_left
  · have hK : pairOk xs m = false := by simp [pairOk, hR.len, hmod]
    have hO : pairB xs m = false := by simp [pairB, hK]
    rw [hD] at hL1
    rw [hO, hK]
    have HL1 := hide hL1
    have hne : ((n : Int) % (m : Int) != 0) = true := by rw [← Int.natCast_emod, bne_iff_ne]; omega
    clear hL1 hO hK hD hR hmod
    go_enter Try.func40, Try.ntmps40
    go_wp2_with fail
    refine HL1.out.mono ?_
    rintro e v1 ⟨rfl, hb⟩
    go_wp2_with (go_at_call 69; refine (within_any _ _ _ _).mono ?_; rintro e w' ⟨rfl, rfl⟩)
    go_ret2
    exact ⟨rfl, hb⟩
  have hK : pairOk xs m = true := by simp [pairOk, hD, hR.len, hin, hmod]
  have hO : pairB xs m = !anyDup xs m n := by simp [pairB, hK, hR.len]
  rw [hD] at hL1
  rw [hO, hK]
  have HL1 := hide hL1
  have HX := hide hR.len
  have HO := hide (deck_ord hD)
  have HMOD := hide hmod
  have hne : ((n : Int) % (m : Int) != 0) = false := by rw [← Int.natCast_emod, hmod]; rfl
  obtain ⟨E, hE⟩ := ex_eq (anyDup xs m n)
  have HE := hide hE
  rw [hE]
  clear hL1 hO hK hD hmod hE
  go_enter Try.func40, Try.ntmps40
  go_wp2_with fail
  refine HL1.out.mono ?_
  rintro e v1 ⟨rfl, hb⟩
  have hz := hb.size
  have hR1 := hR.below hb
  clear hR HL1
  go_wp2_with (go_at_call 69; refine (within_any _ _ _ _).mono ?_; rintro e w' ⟨rfl, rfl⟩)
  generalize hg : w.heap.size = g at *
  have HG := hide hg
  clear hg
  go_loopw [7, 8, 10] (fun at' _ _ wr => ∃ p : Nat, p ≤ n ∧ at' = .int .i64 p ∧ p % m = 0 ∧ Below g v1 wr ∧ Hid (∀ j, j < p → dupAt xs m j = false)) (fun at' _ _ _ => n - (intOf at').toNat)
  case atStart => exact ⟨0, Nat.zero_le _, rfl, Nat.zero_mod _, Below.refl _ _, fun j hj => absurd hj (Nat.not_lt_zero j)⟩
  case round =>
    obtain ⟨p, hp, rfl, hpm, hbo, hgood⟩ := hrel
    have hgr : g ≤ wr.heap.size := Nat.le_trans hz hbo.size
    obtain ⟨wo, rfl⟩ : ∃ wo : World, wo = wr := ⟨_, rfl⟩
    by_cases hlt : p < n
    · have hpn := next_part HMOD.out hpm hlt
      have HPM := hide hpm
      obtain ⟨b, o, rfl, hbB, _⟩ := hR1.at_ hlt
      have f1 : (0 : Int) ≤ (p : Int) := by omega
      have f2 : (p : Int) ≤ (p : Int) + (m : Int) := by omega
      have f3 : (p : Int) + (m : Int) ≤ (c : Int) := by omega
      have f4 : ((p : Int) + (m : Int)).toNat = p + m := by omega
      have f4b : p + m - p = m := by omega
      have f5 : (p : Int) < (n : Int) := by omega
      have f6 : (p : Int) < (c : Int) := by omega
      clear hpm
      go_wp2
      go_loopw [10, 42] (fun _ k wr => ∃ t : Nat, t ≤ m ∧ k = .int .i64 t ∧ wr.ownsMap Try.prog 2 (plainElem (H := Unit) Try.prog 4) wo.heap.size t (Sn xs m p t) ∧ Below g v1 wr) (fun _ k _ => m - (intOf k).toNat)
      case atStart => exact ⟨0, Nat.zero_le _, rfl, by rw [Sn_zero]; exact World.ownsMap_made _ _ _ _, hbo.alloc hgr _⟩
      case round =>
        obtain ⟨t, ht, rfl, hown, hbi⟩ := hrel
        by_cases hlt2 : t < m
        · have hpt : p + t < n := by omega
          obtain ⟨j1, hj1, hjx1⟩ := deck_card HO.out (show p + t < xs.length by rw [HX.out]; exact hpt)
          obtain ⟨b', o', hA2, _, hc1⟩ := (hR1.below hbi).at_ hpt
          obtain ⟨rfl, rfl⟩ : b = b' ∧ o = o' := by simpa using hA2
          rw [hj1, ← Nat.add_assoc] at hc1
          have e1 : rsd xs m (p + t) = j1 % m := by unfold rsd; rw [hj1]; rfl
          obtain ⟨d1, hd1⟩ := ex_eq (j1 % m)
          have hd1m : d1 < m := by rw [← hd1]; exact Nat.mod_lt _ hmp
          have g1 : (j1 : Int) % (m : Int) = (d1 : Int) := by rw [← Int.natCast_emod, hd1]
          have f8 : (0 : Int) ≤ (j1 : Int) := by omega
          have g3 : (j1 : Int).tmod (m : Int) = (d1 : Int) := by rw [Int.tmod_eq_emod_of_nonneg f8, g1]
          have hkey : keyOf Try.prog 2 (.int .i64 (d1 : Int)) = some (Lit.int .i64 (d1 : Int)) := keyOf_int_mk Try.underlying2 (WalkArith.wf_i64 (by omega))
          have hsu := Sn_succ (H := Unit) xs m p t
          rw [e1, hd1] at hsu
          have HSU := hide hsu
          clear hR1 hj1 e1 hd1 hA2 g1 hsu
          go_wp2_with (first | (at_mapUpdate; refine wpList_mapUpdate_own _ rfl _ _ _ 64 rfl 2 4 keyLaw Try.underlying64 (plainElem (H := Unit) Try.prog 4) wo.heap.size t _ rfl hown (by unfold maxLen; omega) _ _ _ rfl rfl hkey _ [] (plainElem_bool Try.underlying4 true) ?_; intro w1 hown1 hgrow1) | go_in)
          go_roundw
          case rel => exact ⟨t + 1, by omega, by go_num, by rw [HSU.out]; exact hown1, hbi.grown hgrow1 (Nat.le_trans hgr (by have := hown.lt; omega)) (fun j hj => by cases hj; exact hgr)⟩
          case measure => simp [intOf]; omega
        · obtain rfl : t = m := by omega
          obtain ⟨sz, hsz⟩ := ex_eq (Maps.size (Sn (H := Unit) xs t p t))
          have hdn : sz = dN xs t p t := by rw [← hsz, Sn_size]
          have hfull := dN_full (xs := xs) HPM.out (Nat.le_refl t)
          rw [← hdn] at hfull
          have HFULL := hide hfull
          have HDN := hide hdn
          clear hdn hfull hR1
          by_cases hst : sz = t
          · have hbq : ((sz : Int) != (t : Int)) = false := by simp; omega
            have HG2 := hide (show ∀ j, j < p + t → dupAt xs t j = false from fun j hj => by
              rcases Nat.lt_or_ge j p with h | h
              · exact hgood.out j h
              · have := HFULL.out.1 hst (j - p) (by omega)
                rwa [Nat.add_sub_cancel' h] at this)
            have HPM2 := hide (show (p + t) % t = 0 by rw [Nat.add_mod_right]; exact HPM.out)
            go_wp2_with (first | (at_len; refine wpList_len_own _ rfl _ 64 rfl 2 4 Try.underlying64 _ wo.heap.size t _ rfl hown ?_; rw [hsz]) | go_in)
            go_roundw
            case rel => exact ⟨p + t, hpn, by go_num, HPM2.out, hbi, HG2.out⟩
            case measure => simp [intOf]; omega
          · have hbq : ((sz : Int) != (t : Int)) = true := by simp; omega
            have hex : ∃ q, q < t ∧ dupAt xs t (p + q) = true := by
              refine Classical.byContradiction fun hno => hst (HFULL.out.2 fun q hq => ?_)
              cases hx : dupAt xs t (p + q)
              · rfl
              · exact absurd ⟨q, hq, hx⟩ hno
            obtain ⟨q, hq, hdq⟩ := hex
            have HY := hide (any_yes (show p + q < n by omega) hdq)
            clear hdq
            go_wp2_with (first | (at_len; refine wpList_len_own _ rfl _ 64 rfl 2 4 Try.underlying64 _ wo.heap.size t _ rfl hown ?_; rw [hsz]) | go_in)
            go_ret2
            rw [← HE.out, HY.out]
            exact ⟨rfl, by rw [HG.out]; exact hb.trans hbi⟩
    · obtain rfl : n = p := by omega
      have HY := hide (any_no hgood.out)
      clear hpm
      go_wp2
      go_ret2
      rw [← HE.out, HY.out]
      exact ⟨rfl, by rw [HG.out]; exact hb.trans hbo⟩

end Go.Proofs.Ytfncmgaeecjacaa.deck
