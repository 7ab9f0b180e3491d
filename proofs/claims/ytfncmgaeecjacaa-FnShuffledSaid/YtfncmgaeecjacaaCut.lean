/-
  CutDeck of both packages answers the same. Conditions: those of each theorem.
-/
import Derived.Test.YtfncmgaeecjacaaDeck
import Derived.Test.YtfncmgaeecjacaaConcat
import Derived.Deep.RegionHeld3
namespace Go.Proofs.Ytfncmgaeecjacaa.deck
open Go.RowKit
open base mem

theorem Rd.drop {w : World} {B b o : Nat} {n : Nat} {xs : List Int} (h : Rd w B (some ⟨b, o, none⟩) n xs) {k : Nat} (hk : k ≤ n) : Rd w B (some ⟨b, o + k, none⟩) (n - k) (xs.drop k) := by
  refine ⟨by rw [List.length_drop, h.len], fun h0 => ?_⟩
  obtain ⟨b', o', e, hb, hc⟩ := h.2 (by omega)
  obtain ⟨rfl, rfl⟩ : b = b' ∧ o = o' := by simpa using e
  refine ⟨b, o + k, rfl, hb, fun j hj => ?_⟩
  rw [Nat.add_assoc, hc (k + j) (by omega)]
  simp [List.getD]
theorem Rd.zero {w : World} {B : Nat} {A : Option Addr} {xs : List Int} (h : xs = []) : Rd w B A 0 xs := by subst h; exact Rd.nil

def cutOk (xs : List Int) (k : Int) : Bool := deckB xs && inB k 0 xs.length
def cutOut (xs : List Int) (k : Int) : List Int := if cutOk xs k then xs.drop k.toNat ++ xs.take k.toNat else []
theorem cutOut_len (xs : List Int) (k : Int) : (cutOut xs k).length ≤ 1048576 := by
  unfold cutOut
  split
  · next h =>
    simp only [cutOk, Bool.and_eq_true] at h
    have := deck_len h.1
    simp
    omega
  · simp

theorem rds_two (t u : Sl) (w : World) (T : TypeId) (h1 : t.ok (w.alloc (.cells #[t.val, u.val] T)).drew (w.alloc (.cells #[t.val, u.val] T)).drew.heap.size) (h2 : u.ok (w.alloc (.cells #[t.val, u.val] T)).drew (w.alloc (.cells #[t.val, u.val] T)).drew.heap.size) :
    RdS (w.alloc (.cells #[t.val, u.val] T)).drew (w.alloc (.cells #[t.val, u.val] T)).drew.heap.size (some ⟨w.heap.size, 0, none⟩) 2 [t, u] := by
  refine ⟨rfl, fun x hx => ?_, fun _ => ⟨w.heap.size, 0, rfl, by simp, fun i x hx => ?_⟩⟩
  · simp only [List.mem_cons, List.not_mem_nil, or_false] at hx
    rcases hx with rfl | rfl
    · exact h1
    · exact h2
  · have hh := cell_of_row (w.alloc (.cells #[t.val, u.val] T)) w.heap.size i #[t.val, u.val] T (0, 0) (heap_alloc_new w _)
    rw [Nat.zero_add]
    refine Eq.trans hh ?_
    match i, hx with
    | 0, hx => simp at hx; subst hx; rfl
    | 1, hx => simp at hx; subst hx; rfl

set_option maxHeartbeats 2000000 in
theorem impl_CutDeck (A : Option Addr) (n c : Nat) (xs : List Int) (kk : Int) (w : World) (hR : Rd w w.heap.size A n xs) (hn : n ≤ 1048576) (hnc : n ≤ c) :
    Calls Try.prog 61 #[.slice A n c, .int .i64 kk] w fun e w' => ∃ A2 c2, e = .returned (.tuple #[.slice A2 (cutOut xs kk).length c2, .bool (cutOk xs kk)]) ∧ Own w' w.heap.size A2 (cutOut xs kk).length c2 (cutOut xs kk) ∧ Below w.heap.size w w' := by
  have hL1 := IsDeck_b A n c xs w hR (by omega) hnc
  cases hD : deckB xs
  · have hK : cutOk xs kk = false := by simp [cutOk, hD]
    have hO : cutOut xs kk = [] := by simp [cutOut, hK]
    rw [hD] at hL1
    rw [hO, hK]
    have HL1 := hide hL1
    clear hL1 hO hK hD hR
    go_enter Try.func61, Try.ntmps61
    go_wp2_with fail
    refine HL1.out.mono ?_
    rintro e v1 ⟨rfl, hb⟩
    go_wp2
    go_ret2
    exact ⟨none, 0, rfl, Own.nil _ _, hb⟩
  · cases hin : inB kk 0 (n : Int)
    · have hK : cutOk xs kk = false := by simp [cutOk, hR.len, hin]
      have hO : cutOut xs kk = [] := by simp [cutOut, hK]
      rw [hD] at hL1
      rw [hO, hK]
      have HL1 := hide hL1
      clear hL1 hO hK hD hR
      go_enter Try.func61, Try.ntmps61
      go_wp2_with fail
      refine HL1.out.mono ?_
      rintro e v1 ⟨rfl, hb⟩
      go_wp2_with (go_at_call 69; refine (within_any _ _ _ _).mono ?_; rintro e w' ⟨rfl, rfl⟩)
      go_ret2
      exact ⟨none, 0, rfl, Own.nil _ _, hb⟩
    · have hK : cutOk xs kk = true := by simp [cutOk, hD, hR.len, hin]
      obtain ⟨hk0, hk1⟩ := inB_yes hin
      obtain ⟨k, rfl⟩ := Int.eq_ofNat_of_zero_le hk0
      have hkn : k ≤ n := by omega
      have hO : cutOut xs (k : Int) = xs.drop k ++ xs.take k := by simp [cutOut, hK]
      have hd := deck_len hD
      rw [hR.len] at hd
      rw [hD] at hL1
      rw [hO, hK]
      have HL1 := hide hL1
      obtain ⟨b, o, rfl, _⟩ := hR.2 (by omega)
      have HT := hide (deck.Rd.take hR hkn)
      have hlen1 : (xs.drop k).length ≤ 60 := by rw [List.length_drop, hR.len]; omega
      have hlen2 : (xs.take k).length ≤ 60 := by rw [List.length_take, hR.len]; omega
      have HLX := hide hR.len
      clear hL1 hO hK hD hk0 hk1
      by_cases hck : c = k
      · have hkn' : n = k := by omega
        subst hck
        subst hkn'
        have hR0 : Rd w w.heap.size (some ⟨b, o, none⟩) 0 (xs.drop n) := Rd.zero (List.drop_eq_nil_of_le (by rw [HLX.out]; omega))
        clear hR
        go_enter Try.func61, Try.ntmps61
        go_wp2_with fail
        refine HL1.out.mono ?_
        rintro e v1 ⟨rfl, hb⟩
        have hz := hb.size
        have hRk := hR0.below hb
        clear hR0
        have HA := hide (hRk.alloc hz (.cells #[.slice (some ⟨b, o, none⟩) 0 0, .slice (some ⟨b, o, none⟩) n n] 22))
        have HT1 := hide ((HT.out.below hb).alloc hz (.cells #[.slice (some ⟨b, o, none⟩) 0 0, .slice (some ⟨b, o, none⟩) n n] 22))
        have hx1 : n ≤ n := by omega
        clear hRk
        go_wp2_with (go_at_call 69; refine (within_any _ _ _ _).mono ?_; rintro e w' ⟨rfl, rfl⟩)
        have HRS : Hid (RdS (v1.alloc (.cells #[.slice (some ⟨b, o, none⟩) 0 0, .slice (some ⟨b, o, none⟩) n n] 22)).drew (v1.alloc (.cells #[.slice (some ⟨b, o, none⟩) 0 0, .slice (some ⟨b, o, none⟩) n n] 22)).drew.heap.size (some ⟨v1.heap.size, 0, none⟩) 2 [⟨(some ⟨b, o, none⟩), 0, 0, xs.drop n⟩, ⟨some ⟨b, o, none⟩, n, n, xs.take n⟩]) :=
          rds_two ⟨(some ⟨b, o, none⟩), 0, 0, xs.drop n⟩ ⟨some ⟨b, o, none⟩, n, n, xs.take n⟩ _ _ ⟨HA.out.more (by simp <;> omega), by simp only; omega, fun h => by cases h⟩ ⟨HT1.out.more (by simp <;> omega), by simp only; omega, fun h => by cases h⟩
        clear HA HT1
        go_region_held3 (fun w' => True) (first | go_keep | trivial)
          ((go_at_call 70; refine (Concat_any _ 2 2 _ _ HRS.out (by omega) (by intro t ht; simp only [List.mem_cons, List.not_mem_nil, or_false] at ht; rcases ht with rfl | rfl <;> simp only <;> omega)).mono ?_; rintro e v3 ⟨A4, c4, rfl, ho, hb3⟩))
        have hcat : catTo [⟨(some ⟨b, o, none⟩), 0, 0, xs.drop n⟩, ⟨some ⟨b, o, none⟩, n, n, xs.take n⟩] 2 = xs.drop n ++ xs.take n := by simp [catTo]
        rw [hcat] at ho ⊢
        go_wp2
        go_ret2
        exact ⟨A4, c4, rfl, ho.mono (by simp <;> omega), hb.trans (((Below.refl _ _).alloc hz _).drew.trans (hb3.mono (by simp <;> omega)))⟩
      · have hR0 := Rd.drop hR hkn
        clear hR
        go_enter Try.func61, Try.ntmps61
        go_wp2_with fail
        refine HL1.out.mono ?_
        rintro e v1 ⟨rfl, hb⟩
        have hz := hb.size
        have hRk := hR0.below hb
        clear hR0
        have HA := hide (hRk.alloc hz (.cells #[.slice (some ⟨b, o + k, none⟩) (n - k) (c - k), .slice (some ⟨b, o, none⟩) k c] 22))
        have HT1 := hide ((HT.out.below hb).alloc hz (.cells #[.slice (some ⟨b, o + k, none⟩) (n - k) (c - k), .slice (some ⟨b, o, none⟩) k c] 22))
        have hx1 : k ≤ c := by omega
        clear hRk
        go_wp2_with (go_at_call 69; refine (within_any _ _ _ _).mono ?_; rintro e w' ⟨rfl, rfl⟩)
        have HRS : Hid (RdS (v1.alloc (.cells #[.slice (some ⟨b, o + k, none⟩) (n - k) (c - k), .slice (some ⟨b, o, none⟩) k c] 22)).drew (v1.alloc (.cells #[.slice (some ⟨b, o + k, none⟩) (n - k) (c - k), .slice (some ⟨b, o, none⟩) k c] 22)).drew.heap.size (some ⟨v1.heap.size, 0, none⟩) 2 [⟨(some ⟨b, o + k, none⟩), (n - k), (c - k), xs.drop k⟩, ⟨some ⟨b, o, none⟩, k, c, xs.take k⟩]) :=
          rds_two ⟨(some ⟨b, o + k, none⟩), (n - k), (c - k), xs.drop k⟩ ⟨some ⟨b, o, none⟩, k, c, xs.take k⟩ _ _ ⟨HA.out.more (by simp <;> omega), by simp only; omega, fun h => by cases h⟩ ⟨HT1.out.more (by simp <;> omega), by simp only; omega, fun h => by cases h⟩
        clear HA HT1
        go_region_held3 (fun w' => True) (first | go_keep | trivial)
          ((go_at_call 70; refine (Concat_any _ 2 2 _ _ HRS.out (by omega) (by intro t ht; simp only [List.mem_cons, List.not_mem_nil, or_false] at ht; rcases ht with rfl | rfl <;> simp only <;> omega)).mono ?_; rintro e v3 ⟨A4, c4, rfl, ho, hb3⟩))
        have hcat : catTo [⟨(some ⟨b, o + k, none⟩), (n - k), (c - k), xs.drop k⟩, ⟨some ⟨b, o, none⟩, k, c, xs.take k⟩] 2 = xs.drop k ++ xs.take k := by simp [catTo]
        rw [hcat] at ho ⊢
        go_wp2
        go_ret2
        exact ⟨A4, c4, rfl, ho.mono (by simp <;> omega), hb.trans (((Below.refl _ _).alloc hz _).drew.trans (hb3.mono (by simp <;> omega)))⟩
end Go.Proofs.Ytfncmgaeecjacaa.deck
