/-
  A hand put in order, in the reference. Conditions: those of each theorem.
-/
import Derived.Test.YtlldocdmjeeaaaaFaceP
import Derived.Test.YtlldocdmjeeaaaaHand
namespace Go.Proofs.Ytlldocdmjeeaaaa.hand
open Go.RowKit
open base mem deck

theorem sset2_own {w : World} {B g n c : Nat} {xs : List Int} (h : Own w B (some ⟨g, 0, none⟩) n c xs) (i k : Nat) (y x : Int) (hB : B ≤ g) :
    Own ((w.setCell ⟨g, i, none⟩ (.int .i64 y)).setCell ⟨g, k, none⟩ (.int .i64 x)) B (some ⟨g, 0, none⟩) n c ((xs.set i y).set k x) ∧
      Below B w ((w.setCell ⟨g, i, none⟩ (.int .i64 y)).setCell ⟨g, k, none⟩ (.int .i64 x)) := by
  refine ⟨?_, ((Below.refl _ _).setCell (by exact hB) _).setCell (by exact hB) _⟩
  have h1 := (World.ownsRow.stored (h := h) i (.int .i64 y)).1
  have h2 := (World.ownsRow.stored (h := h1) k (.int .i64 x)).1
  rw [ivs_set, ivs_set] at h2
  exact h2
theorem inS_start {xs : List Int} {i : Nat} (hi : i < xs.length) : srt (xs.take i) ++ xs.drop i = inS (srt (xs.take i)) (xs.getD i 0) i (xs.drop (i + 1)) := by
  have hl : (srt (xs.take i)).length = i := by rw [srt_len, List.length_take]; omega
  have e : xs.getD i 0 = xs[i] := by simp [List.getD, hi]
  unfold inS
  have e1 : (srt (xs.take i)).take i = srt (xs.take i) := List.take_of_length_le (by omega)
  have e2 : (srt (xs.take i)).drop i = [] := List.drop_eq_nil_of_le (by omega)
  rw [e1, e2, e, List.drop_eq_getElem_cons hi]
  rfl
theorem inS_fin {xs : List Int} {i k : Nat} (hi : i < xs.length) (hk : k ≤ i) (hlo : k = 0 ∨ ¬ xs.getD i 0 < (srt (xs.take i)).getD (k - 1) 0) (hhi : ∀ j, k ≤ j → j < i → xs.getD i 0 < (srt (xs.take i)).getD j 0) :
    inS (srt (xs.take i)) (xs.getD i 0) k (xs.drop (i + 1)) = srt (xs.take (i + 1)) ++ xs.drop (i + 1) := by
  have hl : (srt (xs.take i)).length = i := by rw [srt_len, List.length_take]; omega
  have e : xs.getD i 0 = xs[i] := by simp [List.getD, hi]
  have ht : xs.take (i + 1) = xs.take i ++ [xs.getD i 0] := by rw [e, List.take_succ_eq_append_getElem hi]
  have h := inS_done (S := srt (xs.take i)) (x := xs.getD i 0) (k := k) (p := xs.take i) rfl (by omega) hlo (by
    intro y hy
    obtain ⟨j, hj, rfl⟩ := List.mem_iff_getElem.1 hy
    rw [List.length_drop] at hj
    have := hhi (k + j) (by omega) (by omega)
    rw [List.getElem_drop]
    have e2 : (srt (xs.take i)).getD (k + j) 0 = (srt (xs.take i))[k + j] := by simp [List.getD, show k + j < (srt (xs.take i)).length by omega]
    rwa [e2] at this)
  rw [ht, ← h]
  unfold inS
  simp

set_option maxRecDepth 20000 in
set_option maxHeartbeats 4000000 in
theorem l03Sorted_any (A : Option Addr) (n c : Nat) (xs : List Int) (w : World) (hR : Rd w w.heap.size A n xs) (hn0 : 0 < n) (hn : n ≤ 1000) :
    Calls Try.prog 97 #[.slice A n c] w fun e w' => ∃ A' c', e = .returned (.slice A' n c') ∧ Own w' w.heap.size A' n c' (srt xs) ∧ Below w.heap.size w w' := by
  have hl := hR.len
  have hno : A = none → c = 0 := by
    rintro rfl
    obtain ⟨_, _, h, _⟩ := hR.2 hn0
    cases h
  have HY := hide (show (([] : List Int) ++ xs).length = n by rw [List.nil_append]; exact hl)
  have HR := hide hR
  clear hR
  go_enter Try.func97, Try.ntmps97
  go_wp2_with (at_builtin; refine wpList_app rfl (.tmp 7) (.tmp 8) rfl w.heap.size (.slice (some ⟨w.heap.size, 0, none⟩) 0 0) [] xs rfl (Lst.new w (Nat.le_refl _)) A n c rfl ((HR.out.alloc (Nat.le_refl _) _).more (by simp)) hno (by simp; omega) (by simp) ?_; intro v4 w4 ho4 hg4 _; have hb4 : Below w.heap.size w w4 := ((Below.refl _ _).alloc (Nat.le_refl _) _).trans (Lst.grown (Lst.new w (Nat.le_refl _)) hg4 (by simp)); obtain ⟨A4, c4, rfl, ho⟩ := ho4.formn HY.out; obtain ⟨gA, rfl, hgA, _⟩ := ho.form hn0)
  have HO : Hid (Own w4 w.heap.size (some ⟨gA, 0, none⟩) n c4 (srt (xs.take 0) ++ xs.drop 0)) := by
    have e : srt (xs.take 0) = [] := List.eq_nil_of_length_eq_zero (by rw [srt_len]; simp)
    rw [e]
    exact ho
  have HB := hide hb4
  clear ho hb4 hg4 ho4 HR hno HY
  (try go_wp2)
  go_loopw [12] (fun ix wr => ∃ i : Nat, i ≤ n ∧ ix = .int .i64 i ∧ Own wr w.heap.size (some ⟨gA, 0, none⟩) n c4 (srt (xs.take i) ++ xs.drop i) ∧ Below w.heap.size w wr) (fun ix _ => n - (intOf ix).toNat)
  case atStart => exact ⟨0, Nat.zero_le _, rfl, HO.out, HB.out⟩
  case round =>
    obtain ⟨i, hi, rfl, hO, hb⟩ := hrel
    clear HO HB
    by_cases hlt : i < n
    · have hix : i < xs.length := by omega
      rw [inS_start hix] at hO
      have HFI := hide (fun k => inS_fin (k := k) hix)
      have HLS := hide (show (srt (xs.take i)).length = i by rw [srt_len, List.length_take]; omega)
      have HLR := hide (show (xs.drop (i + 1)).length + (i + 1) = n by rw [List.length_drop]; omega)
      obtain ⟨S, hS⟩ := ex_eq (srt (xs.take i))
      obtain ⟨x, hx⟩ := ex_eq (xs.getD i 0)
      obtain ⟨r, hr⟩ := ex_eq (xs.drop (i + 1))
      rw [hS, hx, hr] at hO HFI
      rw [hS] at HLS
      rw [hr] at HLR
      have HR' := hide hr
      have HO := hide hO
      have HB := hide hb
      obtain ⟨wo, rfl⟩ : ∃ wo : World, wo = wr := ⟨_, rfl⟩
      clear hO hS hx hr hix hb
      go_wp2
      go_loopw [5] (fun kk wr => ∃ k : Nat, k ≤ i ∧ kk = .int .i64 k ∧ Own wr w.heap.size (some ⟨gA, 0, none⟩) n c4 (inS S x k r) ∧ Below w.heap.size w wr ∧ Hid (∀ j, k ≤ j → j < i → x < S.getD j 0)) (fun kk _ => (intOf kk).toNat)
      case atStart => exact ⟨i, Nat.le_refl _, rfl, HO.out, HB.out, fun j h1 h2 => absurd h1 (by omega)⟩
      case round =>
        obtain ⟨k, hk, rfl, hO, hb, hgt⟩ := hrel
        clear HO HB
        have hz := hb.size
        by_cases hk0 : k = 0
        · have HF := hide (HFI.out k hk (.inl hk0) hgt.out)
          subst hk0
          have hz0 : decide ((0 : Int) < ((0 : Nat) : Int)) = false := by simp
          have HO := hide hO
          have HB := hide hb
          clear hO hb
          go_wp2
          go_quiet (fail)
          go_wp2
          go_roundw
          case rel => exact ⟨i + 1, by omega, by go_num, by rw [HR'.out, ← HF.out]; exact HO.out.drewN _, bdrewN HB.out _⟩
          case measure => simp [intOf]; omega
        · obtain ⟨k', rfl⟩ : ∃ k', k = k' + 1 := ⟨k - 1, by omega⟩
          have hml : (inS S x (k' + 1) r).length = n := by rw [inS_len, HLS.out]; have := HLR.out; omega
          have hc1 := World.ownsRow.cellAt (h := hO) (k' + 1) (by omega)
          rw [ivs_at _ _ (by omega), inS_at (by rw [HLS.out]; exact hk)] at hc1
          have hc2 := World.ownsRow.cellAt (h := hO) k' (by omega)
          rw [ivs_at _ _ (by omega), inS_bef (by rw [HLS.out]; exact hk)] at hc2
          have hf1 := World.ownsRow.frozenAt (h := hO) (k' + 1)
          have hf2 := World.ownsRow.frozenAt (h := hO) k'
          have hsw := inS_swap (S := S) (x := x) (k := k') (r := r) (by rw [HLS.out]; exact hk)
          obtain ⟨y, hy⟩ := ex_eq (S.getD k' 0)
          rw [hy] at hc2 hsw
          have HSW := hide hsw
          have HO := hide hO
          have HB := hide hb
          have b1 : (0 : Int) ≤ (k' : Int) := by omega
          have b2 : (k' : Int) + 1 < (n : Int) := by omega
          have b3 : (k' : Int) < (n : Int) := by omega
          have hne : ¬ k' + 1 = k' := by omega
          have hne2 : ¬ k' = k' + 1 := by omega
          have hz0 : decide ((0 : Int) < (k' : Int) + 1) = true := decide_eq_true (by omega)
          by_cases hxy : x < y
          · have HGT := hide (show ∀ j, k' ≤ j → j < i → x < S.getD j 0 from fun j h1 h2 => by
              rcases Nat.lt_or_ge k' j with h | h
              · exact hgt.out j h h2
              · obtain rfl : j = k' := by omega
                rw [hy]; exact hxy)
            clear hml hsw hy hO hb hgt
            have s1 : IntKind.i64.wrap ((k' : Int) + 1 - 1) = (k' : Int) := by rw [show ((k' : Int) + 1 - 1) = k' by omega]; exact IntWalk.i64_in _ (by omega)
            go_wp2
            go_quiet (fail)
            go_wp2
            clear s1
            have hS := sset2_own (HO.out.drewN nq) (k' + 1) k' y x hgA
            rw [HSW.out] at hS
            go_roundw
            case rel => exact ⟨k', by omega, rfl, hS.1, (bdrewN HB.out nq).trans hS.2, HGT.out⟩
            case measure => simp [intOf]
          · have HF := hide (HFI.out (k' + 1) hk (.inr (by rw [Nat.add_sub_cancel, hy]; omega)) hgt.out)
            clear hml hsw hy hO hb hgt
            have s1 : IntKind.i64.wrap ((k' : Int) + 1 - 1) = (k' : Int) := by rw [show ((k' : Int) + 1 - 1) = k' by omega]; exact IntWalk.i64_in _ (by omega)
            go_wp2
            go_quiet (fail)
            go_wp2
            clear s1
            go_roundw
            case rel => exact ⟨i + 1, by omega, by go_num, by rw [HR'.out, ← HF.out]; exact HO.out.drewN _, bdrewN HB.out _⟩
            case measure => simp [intOf]; omega
    · obtain rfl : i = n := by omega
      have e : xs.take i = xs := List.take_of_length_le (by omega)
      have e2 : xs.drop i = [] := List.drop_eq_nil_of_le (by omega)
      rw [e, e2, List.append_nil] at hO
      clear e e2
      go_wp2
      go_ret
      exact ⟨_, _, rfl, hO, hb⟩

end Go.Proofs.Ytlldocdmjeeaaaa.hand
