/-
  DeckOfRank of the program answers what the plain function says. Conditions: those of each theorem.
-/
import Derived.Test.YtfncmgaeecjacaaUnrank
import Derived.Deep.RegionHeld3
namespace Go.Proofs.Ytfncmgaeecjacaa.deck
open Go.RowKit
open base mem

set_option maxHeartbeats 4000000 in
theorem impl_DeckOfRank (n r : Int) (w : World) :
    Calls Try.prog 54 #[.int .i64 n, .int .i64 r] w fun e w' => ∃ A2 c2, e = .returned (.tuple #[.slice A2 (unOut n r).length c2, .bool (unOk n r)]) ∧ Own w' w.heap.size A2 (unOut n r).length c2 (unOut n r) ∧ Below w.heap.size w w' := by
  cases h1 : inB n 1 20
  · have hK : unOk n r = false := by simp [unOk, h1]
    have hO : unOut n r = [] := by simp [unOut, hK]
    rw [hO, hK]
    have H1 := hide h1
    clear h1 hK hO
    go_enter Try.func54, Try.ntmps54
    go_wp2_with (first | (go_at_call 69; refine (within_any _ _ _ _).mono ?_; rintro e w' ⟨rfl, rfl⟩; rw [H1.out]))
    go_ret2
    exact ⟨none, 0, rfl, Own.nil _ _, Below.refl _ _⟩
  obtain ⟨hn1, hn2⟩ := inB_yes h1
  obtain ⟨m, rfl⟩ := Int.eq_ofNat_of_zero_le (show 0 ≤ n by omega)
  have HN := hide (fun V => factorial_any m V (by omega))
  obtain ⟨FM, hFM⟩ := ex_eq (facW m)
  cases h2 : inB r 0 (wrap64 (facW m - 1))
  · have hK : unOk m r = false := by simp [unOk, h2]
    have hO : unOut m r = [] := by simp [unOut, hK]
    rw [hO, hK]
    have H1 := hide h1
    rw [hFM] at HN h2
    have H2 := hide h2
    clear h1 h2 hK hO hFM
    go_enter Try.func54, Try.ntmps54
    go_wp2_with (first | (go_at_call 69; refine (within_any _ _ _ _).mono ?_; rintro e w' ⟨rfl, rfl⟩; first | rw [H1.out] | rw [H2.out]) | (go_at_call 81; refine (HN.out _).mono ?_; rintro e w' ⟨rfl, rfl⟩))
    go_ret2
    exact ⟨none, 0, rfl, Own.nil _ _, Below.refl _ _⟩
  have hK : unOk m r = true := by simp [unOk, h1, h2]
  obtain ⟨m', hm', h3, h4, h5, h6⟩ := unOk_facts hK
  obtain rfl : m = m' := by omega
  have hO : unOut m r = (urTo m r m).2.1 := by simp [unOut, hK]
  rw [hO, hK]
  have HX := hide (urTo_facts m r h4 h5 h6)
  obtain ⟨OUT, hOUT⟩ := ex_eq (urTo m r m).2.1
  rw [hOUT]
  have HOUT := hide hOUT
  clear hOUT
  have H1 := hide h1
  rw [hFM] at HN h2
  have H2 := hide h2
  clear h1 h2 hK hO hFM hm' h5 h6 hn1 hn2
  go_enter Try.func54, Try.ntmps54
  go_wp2_with (first | (go_at_call 69; refine (within_any _ _ _ _).mono ?_; rintro e w' ⟨rfl, rfl⟩; first | rw [H1.out] | rw [H2.out]) | (go_at_call 81; refine (HN.out _).mono ?_; rintro e w' ⟨rfl, rfl⟩) | (go_at_call 82; refine (newDeck_any m _ (by omega)).mono ?_; rintro e v1 ⟨A1, c1, rfl, ho1, hb1⟩))
  have hz1 := hb1.size
  generalize hg : w.heap.size = g at *
  have HG := hide hg
  clear hg HN H1 H2
  go_loopw [1, 6, 7, 8, 9] (fun rk lf out i _ wr => ∃ (j : Nat) (A2 : Option Addr) (c2 : Nat), j ≤ m ∧ i = .int .i64 ((m : Int) - 1 - j) ∧ rk = .int .i64 (urTo m r j).2.2 ∧ lf = .slice A2 (m - j : Nat) c2 ∧ Own wr g A2 (m - j) c2 (urTo m r j).1 ∧ Lst wr g out (urTo m r j).2.1 ∧ Sep (.slice A2 (m - j : Nat) c2) out ∧ Below g w wr) (fun _ _ _ i _ _ => (intOf i + 1).toNat)
  case atStart => exact ⟨0, A1, c1, Nat.zero_le _, by simp, rfl, rfl, ho1.alloc _, Lst.new v1 (by omega), Sep.new ho1, hb1.alloc (by omega) _⟩
  case round =>
    obtain ⟨j, A2, c2, hj, rfl, rfl, rfl, hown, hlst, hsep, hb⟩ := hrel
    have hzr := hb.size
    by_cases hlt : j < m
    · have HS := hide (urTo_succ m r j)
      obtain ⟨a1, a2, a3, a4⟩ := HX.out j hj
      have hf := fac_facts (m - 1 - j) (by omega)
      have hi : (m : Int) - 1 - j = ((m - 1 - j : Nat) : Int) := by omega
      have hmj : m - j = m - 1 - j + 1 := by omega
      rw [hmj] at a1 a4 hown hsep ⊢
      rw [hi]
      rw [hf.2.1] at a4
      have hf1 := hf.1
      have hf3 := hf.2.2
      rw [hf.2.1] at hf3
      have HF := hide (fun V => factorial_any (m - 1 - j) V (by omega))
      generalize hii : m - 1 - j = i at *
      have hi20 : i ≤ 20 := by omega
      have HI := hide hii
      obtain ⟨F, hF⟩ := ex_eq (facW i)
      rw [hF] at hf1 hf3 a4 HF HS
      obtain ⟨rk, hrk⟩ := ex_eq (urTo m r j).2.2
      rw [hrk] at a3 a4 HS ⊢
      obtain ⟨xs, hxs⟩ := ex_eq (urTo m r j).1
      rw [hxs] at a1 hown HS
      obtain ⟨os, hos⟩ := ex_eq (urTo m r j).2.1
      rw [hos] at a2 hlst HS
      have hr63 : rk < 9223372036854775807 := by omega
      obtain ⟨q1, q2, q3, q4⟩ := quo_fact hf1 a3 a4
      have HR1 := hide (div_fact hf1 a3)
      obtain ⟨k, hk⟩ := ex_eq (rk / F).toNat
      rw [hk] at q1 HR1 HS
      obtain ⟨gg, rfl, hBg, hgs⟩ := hown.form (by omega)
      have hc1 := World.ownsRow.cellAt (h := hown) k (by omega)
      rw [ivs_at _ _ (by rw [a1]; omega)] at hc1
      have hki : (k : Int) < ((i + 1 : Nat) : Int) := by omega
      have hF0 : ¬ F = 0 := by omega
      clear hf hf3 hF hrk hxs hos hk q2 q3 q4 a4 hi hmj hii
      go_upto_region 8 with (go_at_call 81; refine (HF.out _).mono ?_; rintro e w' ⟨rfl, rfl⟩)
      rw [HR1.out]
      go_upto_region 9 with (go_at_call 81; refine (HF.out _).mono ?_; rintro e w' ⟨rfl, rfl⟩)
      obtain ⟨x, hx⟩ := ex_eq (xs.getD k 0)
      rw [hx] at hc1 HS
      clear hx HF HR1 a3 hr63 hf1 hF0
      obtain ⟨rk2, hrk2⟩ := ex_eq (rk % F)
      rw [hrk2] at HS ⊢
      clear hrk2
      go_wp2_with (at_builtin; refine wpList_app rfl (.tmp 38) (.tmp 43) rfl g _ os [x] rfl (hlst.alloc _) (some ⟨wr.heap.size, 0, none⟩) 1 1 rfl (rd_one wr x 2) (fun h => by cases h) (by simp; omega) (by simp; omega) ?_; intro v4 w4 ho4 hg4 hb4)
      have hzz : (wr.alloc (.cells #[.int .i64 x] 2)).heap.size = wr.heap.size + 1 := by simp
      have hb4' : Below g wr w4 := ((Below.refl _ _).alloc (by omega) _).trans ((hlst.alloc _).grown hg4 (by omega))
      have hown4 : Own w4 g (some ⟨gg, 0, none⟩) (i + 1) c2 xs := World.ownsRow.kept (Own.alloc hown _) hg4 hsep
      have hsep4 : Sep (.slice (some ⟨gg, 0, none⟩) (i + 1 : Nat) c2) v4 := by
        refine .inr ?_
        rcases hb4 with e | e
        · rw [e]
          rcases hsep with h | h
          · cases h
          · exact h
        · rw [e, hzz]
          show some gg ≠ _
          intro e2
          injection e2 with e2
          omega
      have hz4 := hb4'.size
      have hbb := hb.trans hb4'
      clear hown hlst hsep hc1 hg4 hb4 hb4' hzz
      have hk1 : wrap64 ((k : Int) + 1) = ((k + 1 : Nat) : Int) := by rw [IntWalk.wrap64_in _ ⟨by omega, by omega⟩]; omega
      have hcc : c2 ≤ 9223372036854775807 := (own_cap hown4).2
      have HD := hide (Delete_one (some ⟨gg, 0, none⟩) (i + 1) c2 k xs g w4 hown4 (Nat.lt_succ_of_le q1) hcc)
      rw [Nat.add_sub_cancel] at HD
      have HK1 := hide hk1
      clear hk1 hown4
      go_wp2_with fail
      trace_state
      rw [show ((k : Int) + 1) = ((k + 1 : Nat) : Int) by omega]
      refine HD.out.mono ?_
      rintro e w5 ⟨rfl, ho5, hg5⟩
      have ho5l : Lst w5 g v4 (os ++ [x]) := World.ownsRow.kept ho4 hg5 (by
        rcases hsep4 with h | h
        · cases h
        · exact .inr (Ne.symm h))
      have hb5 : Below g w4 w5 := grown_below hg5 (by omega) (fun k hk => by
        have e2 : (some gg : Option Nat) = some k := hk
        injection e2 with e2
        omega)
      clear hg5 ho4
      go_wp2
      go_roundw
      case rel =>
        have hS1 : (urTo m r (j + 1)).1 = List.take k xs ++ List.drop (k + 1) xs := by rw [HS.out]
        have hS2 : (urTo m r (j + 1)).2.1 = os ++ [x] := by rw [HS.out]
        have hS3 : (urTo m r (j + 1)).2.2 = rk2 := by rw [HS.out]
        have hI := HI.out
        have e : m - (j + 1) = i := by omega
        refine ⟨j + 1, some ⟨gg, 0, none⟩, c2, by omega, ?_, ?_, ?_, ?_, ?_, ?_, ?_⟩
        · exact int_congr (by omega)
        · rw [hS3]
        · rw [e]
        · rw [hS1, e]; exact ho5
        · rw [hS2]; exact ho5l
        · rw [e]; exact hsep4
        · exact hbb.trans hb5
      case measure => have := HI.out; simp only [intOf]; omega
    · obtain rfl : j = m := by omega
      obtain ⟨A4, c4, rfl, ho⟩ := hlst.form
      have hi : (j : Int) - 1 - j = -1 := by omega
      rw [hi]
      rw [HOUT.out] at ho ⊢
      generalize (urTo j r j).2.2 = rk at *
      clear hown hsep HX ho1 hb1
      go_wp2
      go_ret2
      refine ⟨A4, c4, rfl, ?_, ?_⟩
      · rw [HG.out]; exact ho
      · rw [HG.out]; exact hb

end Go.Proofs.Ytfncmgaeecjacaa.deck
