/-
  DeckOfRank of the program answers what the plain function says. Conditions: those of each theorem.
-/
import Derived.Test.YtlldocdmjeeaaaaDelH
import Derived.Deep.RegionHeld3
import Derived.Deep.Cut
namespace Go.Proofs.Ytlldocdmjeeaaaa.deck
open Go.RowKit
open base mem hand
/-- the product as the machine has it: each step wrapped -/
def fw : Nat → Int
  | 0 => 1
  | j + 1 => wrap64 (fw j * ((j : Int) + 2))
def facW (n : Nat) : Int := fw (n - 1)
set_option maxHeartbeats 1000000 in
theorem factorial_any (n : Nat) (w : World) (hn : n ≤ 1000000) : Calls Try.prog 112 #[.int .i64 n] w fun e w' => e = .returned (.int .i64 (facW n)) ∧ w = w' := by
  obtain ⟨R, hR⟩ := ex_eq (facW n)
  rw [hR]
  have HR := hide hR
  clear hR
  go_enter Try.func112, Try.ntmps112
  go_wp2
  go_loop [3, 4] (fun o i => ∃ j : Nat, (j + 1 ≤ n ∨ j = 0) ∧ i = .int .i64 ((j + 2 : Nat) : Int) ∧ o = .int .i64 (fw j)) (fun _ i => n + 2 - (intOf i).toNat)
  case atStart => exact ⟨0, .inr rfl, rfl, rfl⟩
  case round =>
    obtain ⟨j, hj, rfl, rfl⟩ := hrel
    by_cases hlt : j + 2 ≤ n
    · have HS := hide (show fw (j + 1) = wrap64 (fw j * ((j : Int) + 2)) from rfl)
      obtain ⟨F, hF⟩ := ex_eq (fw j)
      rw [hF] at HS ⊢
      clear hF
      go_wp2
      go_round
      case rel => exact ⟨j + 1, by omega, by go_num, by rw [HS.out]⟩
      case measure => simp only [intOf]; omega
    · have hF : fw j = R := by rw [← HR.out]; unfold facW; congr 1; omega
      rw [hF]
      clear hF
      go_wp2
      go_ret
      exact ⟨rfl, rfl⟩
def news (n : Nat) : List Int := (List.range n).map fun (i : Nat) => (i : Int)
theorem news_len (n : Nat) : (news n).length = n := by simp [news]
theorem news_succ (n : Nat) : news (n + 1) = news n ++ [(n : Int)] := by simp [news, List.range_succ]
set_option maxHeartbeats 1000000 in
theorem newDeck_any (n : Nat) (w : World) (hn : n ≤ 1048576) :
    Calls Try.prog 113 #[.int .i64 n] w fun e w' => ∃ A' c', e = .returned (.slice A' n c') ∧ Own w' w.heap.size A' n c' (news n) ∧ Below w.heap.size w w' := by
  go_enter Try.func113, Try.ntmps113
  go_wp2
  generalize hg : w.heap.size = g at *
  have HG := hide hg
  have hz : g ≤ w.heap.size := by omega
  clear hg
  go_loopw [3, 4, 7] (fun v _ i wr => ∃ k : Nat, k ≤ n ∧ i = .int .i64 k ∧ Lst wr g v (news k) ∧ Below g w wr) (fun _ _ i _ => n - (intOf i).toNat)
  case atStart => exact ⟨0, Nat.zero_le _, rfl, by have := Lst.new w hz; rw [HG.out] at this; exact this, (Below.refl _ _).alloc hz _⟩
  case round =>
    obtain ⟨k, hk, rfl, hown, hbr⟩ := hrel
    have hgr : g ≤ wr.heap.size := by have := hbr.size; omega
    by_cases hlt : k < n
    · have HS := hide (news_succ k)
      have hl := news_len k
      go_wp2_with (at_builtin; refine wpList_app rfl (.tmp 10) (.tmp 12) rfl g _ (news k) [(k : Int)] rfl (hown.alloc _) (some ⟨wr.heap.size, 0, none⟩) 1 1 rfl (rd_one wr (k : Int) 2) (fun h => by cases h) (by omega) (by simp; omega) ?_; intro v4 w4 ho4 hg4 _)
      have hb4 : Below g wr w4 := ((Below.refl _ _).alloc hgr _).trans ((hown.alloc _).grown hg4 (by simp; omega))
      have ho4' : Lst w4 g v4 (news (k + 1)) := by rw [HS.out]; exact ho4
      clear hg4 ho4 hown
      go_wp2
      go_roundw
      case rel => exact ⟨k + 1, by omega, by go_num, ho4', hbr.trans hb4⟩
      case measure => simp only [intOf]; omega
    · obtain rfl : k = n := by omega
      obtain ⟨A4, c4, rfl, ho⟩ := hown.form
      have hl := news_len k
      rw [hl] at ho ⊢
      clear hl
      go_wp2
      go_ret
      refine ⟨A4, c4, rfl, ?_, ?_⟩
      · rw [HG.out]; exact ho
      · rw [HG.out]; exact hbr

def urTo (n : Nat) (r0 : Int) : Nat → List Int × List Int × Int
  | 0 => (news n, [], r0)
  | j + 1 => ((urTo n r0 j).1.take ((urTo n r0 j).2.2 / facW (n - 1 - j)).toNat ++ (urTo n r0 j).1.drop (((urTo n r0 j).2.2 / facW (n - 1 - j)).toNat + 1),
      (urTo n r0 j).2.1 ++ [(urTo n r0 j).1.getD ((urTo n r0 j).2.2 / facW (n - 1 - j)).toNat 0], (urTo n r0 j).2.2 % facW (n - 1 - j))
theorem urTo_succ (n : Nat) (r0 : Int) (j : Nat) : urTo n r0 (j + 1) = ((urTo n r0 j).1.take ((urTo n r0 j).2.2 / facW (n - 1 - j)).toNat ++ (urTo n r0 j).1.drop (((urTo n r0 j).2.2 / facW (n - 1 - j)).toNat + 1),
      (urTo n r0 j).2.1 ++ [(urTo n r0 j).1.getD ((urTo n r0 j).2.2 / facW (n - 1 - j)).toNat 0], (urTo n r0 j).2.2 % facW (n - 1 - j)) := by rw [urTo]
theorem fac_facts : ∀ i : Nat, i < 20 → 0 < facW i ∧ facW (i + 1) = ((i : Int) + 1) * facW i ∧ facW (i + 1) < 9223372036854775807 := by decide +kernel
theorem quo_fact {r F : Int} {i : Nat} (hF : 0 < F) (h0 : 0 ≤ r) (h1 : r < ((i : Int) + 1) * F) : (r / F).toNat ≤ i ∧ 0 ≤ r / F ∧ 0 ≤ r % F ∧ r % F < F := by
  have h2 : r / F < (i : Int) + 1 := Int.ediv_lt_of_lt_mul hF h1
  have h3 : 0 ≤ r / F := Int.ediv_nonneg h0 (Int.le_of_lt hF)
  exact ⟨by omega, h3, Int.emod_nonneg _ (by omega), Int.emod_lt_of_pos _ hF⟩
theorem urTo_facts (n : Nat) (r0 : Int) (hn : n ≤ 20) (h0 : 0 ≤ r0) (h1 : r0 < facW n) (j : Nat) (hj : j ≤ n) :
    (urTo n r0 j).1.length = n - j ∧ (urTo n r0 j).2.1.length = j ∧ 0 ≤ (urTo n r0 j).2.2 ∧ (urTo n r0 j).2.2 < facW (n - j) := by
  induction j with
  | zero => exact ⟨by simp [urTo, news_len], rfl, h0, by simpa [urTo] using h1⟩
  | succ j ih =>
    obtain ⟨a, b, c, d⟩ := ih (by omega)
    have hf := fac_facts (n - 1 - j) (by omega)
    rw [show n - j = n - 1 - j + 1 by omega, hf.2.1] at d
    obtain ⟨q1, q2, q3, q4⟩ := quo_fact hf.1 c d
    rw [urTo_succ]
    refine ⟨?_, ?_, q3, ?_⟩
    · simp only [List.length_append, List.length_take, List.length_drop, a]; omega
    · simp [b]
    · rw [show n - (j + 1) = n - 1 - j by omega]; exact q4
def Sep (v u : Value) : Prop := v.ownBlock = none ∨ v.ownBlock ≠ u.ownBlock
theorem Own.alloc {w : World} {B : Nat} {A : Option Addr} {n c : Nat} {xs : List Int} (h : Own w B A n c xs) (o : Obj) : Own (w.alloc o) B A n c xs := World.ownsRow.alloc h o
theorem Sep.new {w : World} {B : Nat} {A : Option Addr} {n c : Nat} {xs : List Int} (h : Own w B A n c xs) : Sep (.slice A n c) (.slice (some ⟨w.heap.size, 0, none⟩) 0 0) := by
  cases hv : (Value.slice A n c).ownBlock with
  | none => exact .inl hv
  | some k =>
    refine .inr ?_
    rw [hv]
    have := h.ownBlock k hv
    intro e
    injection e with e
    simp only at e
    omega
theorem Own.cap_le {w : World} {B : Nat} {A : Option Addr} {n c : Nat} {xs : List Int} (h : Own w B A n c xs) : c ≤ maxLen := by
  rcases h.2 with ⟨h0, _⟩ | ⟨g', cap, cur, hv, _, _, _, hcm, _⟩
  · injection h0 with _ _ e; rw [e]; exact Nat.zero_le _
  · injection hv with _ _ e3; rw [e3]; exact hcm
def unOk (n r : Int) : Bool := inB n 1 20 && inB r 0 (wrap64 (facW n.toNat - 1))
def unOut (n r : Int) : List Int := if unOk n r then (urTo n.toNat r n.toNat).2.1 else []
theorem unOk_facts {n r : Int} (h : unOk n r = true) : ∃ m : Nat, n = m ∧ 1 ≤ m ∧ m ≤ 20 ∧ 0 ≤ r ∧ r < facW m := by
  simp only [unOk, Bool.and_eq_true] at h
  obtain ⟨h1, h2⟩ := h
  obtain ⟨a, b⟩ := inB_yes h1
  obtain ⟨m, rfl⟩ := Int.eq_ofNat_of_zero_le (show 0 ≤ n by omega)
  obtain ⟨c, d⟩ := inB_yes h2
  refine ⟨m, rfl, by omega, by omega, c, ?_⟩
  have hf := fac_facts (m - 1) (by omega)
  have hg := fac_facts m
  rw [show m - 1 + 1 = m by omega] at hf
  have hp : 0 < facW m := by
    rw [hf.2.1]
    exact Int.mul_pos (by omega) hf.1
  rw [show (m : Int).toNat = m from rfl, IntWalk.wrap64_in _ ⟨by omega, by omega⟩] at d
  omega
theorem unOut_len (n r : Int) : (unOut n r).length ≤ 1048576 := by
  unfold unOut
  split
  · next h =>
    obtain ⟨m, rfl, _, h2, h3, h4⟩ := unOk_facts h
    rw [show (m : Int).toNat = m from rfl, (urTo_facts m r h2 h3 h4 m (Nat.le_refl _)).2.1]
    omega
  · simp
theorem tdiv_fact {r F : Int} (hF : 0 < F) (h0 : 0 ≤ r) (h1 : r < 9223372036854775807) : wrap64 (r.tdiv F) = ((r / F).toNat : Int) := by
  rw [Int.tdiv_eq_ediv_of_nonneg h0]
  have h3 : 0 ≤ r / F := Int.ediv_nonneg h0 (Int.le_of_lt hF)
  have h4 : r / F ≤ r := Int.ediv_le_self _ h0
  rw [IntWalk.wrap64_in _ ⟨by omega, by omega⟩]
  omega
theorem div_fact {r F : Int} (hF : 0 < F) (h0 : 0 ≤ r) : r / F = ((r / F).toNat : Int) := by
  have h3 : 0 ≤ r / F := Int.ediv_nonneg h0 (Int.le_of_lt hF)
  omega
theorem tmod_fact {r F : Int} (h0 : 0 ≤ r) : r.tmod F = r % F := Int.tmod_eq_emod_of_nonneg h0

theorem own_cap {w : World} {B : Nat} {A : Option Addr} {n c : Nat} {xs : List Int} (h : Own w B A n c xs) : n ≤ c ∧ c ≤ 9223372036854775807 := by
  rcases h.2 with ⟨h0, h1⟩ | ⟨g', cap, cur, hv, _, _, hnc, hcm, _⟩
  · injection h0 with _ _ e; omega
  · injection hv with _ _ e3; unfold maxLen at hcm; omega
theorem rd_drop {w : World} {B b o : Nat} {n : Nat} {xs : List Int} (h : Rd w B (some ⟨b, o, none⟩) n xs) {k : Nat} (hk : k ≤ n) : Rd w B (some ⟨b, o + k, none⟩) (n - k) (xs.drop k) := by
  refine ⟨by rw [List.length_drop, h.len], fun h0 => ?_⟩
  obtain ⟨b', o', e, hb, hc⟩ := h.2 (by omega)
  obtain ⟨rfl, rfl⟩ : b = b' ∧ o = o' := by simpa using e
  refine ⟨b, o + k, rfl, hb, fun j hj => ?_⟩
  rw [Nat.add_assoc, hc (k + j) (by omega)]
  simp [List.getD]
theorem rd_zero {w : World} {B : Nat} {A : Option Addr} {xs : List Int} (h : xs = []) : Rd w B A 0 xs := by subst h; exact Rd.nil

set_option maxHeartbeats 4000000 in
theorem impl_DeckOfRank (n r : Int) (w : World) :
    Calls Try.prog 101 #[.int .i64 n, .int .i64 r] w fun e w' => ∃ A2 c2, e = .returned (.tuple #[.slice A2 (unOut n r).length c2, .bool (unOk n r)]) ∧ Own w' w.heap.size A2 (unOut n r).length c2 (unOut n r) ∧ Below w.heap.size w w' := by
  cases h1 : inB n 1 20
  · have hK : unOk n r = false := by simp [unOk, h1]
    have hO : unOut n r = [] := by simp [unOut, hK]
    rw [hO, hK]
    have H1 := hide h1
    clear h1 hK hO
    go_enter Try.func101, Try.ntmps101
    go_wp2_with (first | (go_at_call 70; refine (within_any _ _ _ _).mono ?_; rintro e w' ⟨rfl, rfl⟩; rw [H1.out]))
    go_ret2
    exact ⟨none, 0, rfl, Own.nil _ _, Below.refl _ _⟩
  obtain ⟨hn1, hn2⟩ := inB_yes h1
  obtain ⟨m, rfl⟩ := Int.eq_ofNat_of_zero_le (show 0 ≤ n by omega)
  have HN := hide (fun V => factorial_any m V (by omega))
  obtain ⟨FM, hFM⟩ := ex_eq (facW m)
  cases h2 : inB r 0 (wrap64 (facW m - 1))
  · have hK : unOk m r = false := by simp [unOk, h2]
    have hO : unOut m r = [] := by simp [unOut, hK]
    rw [hO, hK]
    have H1 := hide h1
    rw [hFM] at HN h2
    have H2 := hide h2
    clear h1 h2 hK hO hFM
    go_enter Try.func101, Try.ntmps101
    go_wp2_with (first | (go_at_call 70; refine (within_any _ _ _ _).mono ?_; rintro e w' ⟨rfl, rfl⟩; first | rw [H1.out] | rw [H2.out]) | (go_at_call 112; refine (HN.out _).mono ?_; rintro e w' ⟨rfl, rfl⟩))
    go_ret2
    exact ⟨none, 0, rfl, Own.nil _ _, Below.refl _ _⟩
  have hK : unOk m r = true := by simp [unOk, h1, h2]
  obtain ⟨m', hm', h3, h4, h5, h6⟩ := unOk_facts hK
  obtain rfl : m = m' := by omega
  have hO : unOut m r = (urTo m r m).2.1 := by simp [unOut, hK]
  rw [hO, hK]
  have HX := hide (urTo_facts m r h4 h5 h6)
  obtain ⟨OUT, hOUT⟩ := ex_eq (urTo m r m).2.1
  rw [hOUT]
  have HOUT := hide hOUT
  clear hOUT
  have H1 := hide h1
  rw [hFM] at HN h2
  have H2 := hide h2
  clear h1 h2 hK hO hFM hm' h5 h6 hn1 hn2
  go_enter Try.func101, Try.ntmps101
  go_wp2_with (first | (go_at_call 70; refine (within_any _ _ _ _).mono ?_; rintro e w' ⟨rfl, rfl⟩; first | rw [H1.out] | rw [H2.out]) | (go_at_call 112; refine (HN.out _).mono ?_; rintro e w' ⟨rfl, rfl⟩) | (go_at_call 113; refine (newDeck_any m _ (by omega)).mono ?_; rintro e v1 ⟨A1, c1, rfl, ho1, hb1⟩))
  have hz1 := hb1.size
  generalize hg : w.heap.size = g at *
  have HG := hide hg
  clear hg HN H1 H2
  go_loopw [1, 6, 7, 8, 9] (fun rk lf out i _ wr => ∃ (j : Nat) (A2 : Option Addr) (c2 : Nat), j ≤ m ∧ i = .int .i64 ((m : Int) - 1 - j) ∧ rk = .int .i64 (urTo m r j).2.2 ∧ lf = .slice A2 (m - j : Nat) c2 ∧ Own wr g A2 (m - j) c2 (urTo m r j).1 ∧ Lst wr g out (urTo m r j).2.1 ∧ Sep (.slice A2 (m - j : Nat) c2) out ∧ Below g w wr) (fun _ _ _ i _ _ => (intOf i + 1).toNat)
  case atStart => exact ⟨0, A1, c1, Nat.zero_le _, by simp, rfl, rfl, ho1.alloc _, Lst.new v1 (by omega), Sep.new ho1, hb1.alloc (by omega) _⟩
  case round =>
    obtain ⟨j, A2, c2, hj, rfl, rfl, rfl, hown, hlst, hsep, hb⟩ := hrel
    have hzr := hb.size
    by_cases hlt : j < m
    · have HS := hide (urTo_succ m r j)
      obtain ⟨a1, a2, a3, a4⟩ := HX.out j hj
      have hf := fac_facts (m - 1 - j) (by omega)
      have hi : (m : Int) - 1 - j = ((m - 1 - j : Nat) : Int) := by omega
      have hmj : m - j = m - 1 - j + 1 := by omega
      rw [hmj] at a1 a4 hown hsep ⊢
      rw [hi]
      rw [hf.2.1] at a4
      have hf1 := hf.1
      have hf3 := hf.2.2
      rw [hf.2.1] at hf3
      have HF := hide (fun V => factorial_any (m - 1 - j) V (by omega))
      generalize hii : m - 1 - j = i at *
      have hi20 : i ≤ 20 := by omega
      have HI := hide hii
      obtain ⟨F, hF⟩ := ex_eq (facW i)
      rw [hF] at hf1 hf3 a4 HF HS
      obtain ⟨rk, hrk⟩ := ex_eq (urTo m r j).2.2
      rw [hrk] at a3 a4 HS ⊢
      obtain ⟨xs, hxs⟩ := ex_eq (urTo m r j).1
      rw [hxs] at a1 hown HS
      obtain ⟨os, hos⟩ := ex_eq (urTo m r j).2.1
      rw [hos] at a2 hlst HS
      have hr63 : rk < 9223372036854775807 := by omega
      obtain ⟨q1, q2, q3, q4⟩ := quo_fact hf1 a3 a4
      have HR1 := hide (div_fact hf1 a3)
      obtain ⟨k, hk⟩ := ex_eq (rk / F).toNat
      rw [hk] at q1 HR1 HS
      obtain ⟨gg, rfl, hBg, hgs⟩ := hown.form (by omega)
      have hc1 := World.ownsRow.cellAt (h := hown) k (by omega)
      rw [ivs_at _ _ (by rw [a1]; omega)] at hc1
      have hki : (k : Int) < ((i + 1 : Nat) : Int) := by omega
      have hF0 : ¬ F = 0 := by omega
      clear hf hf3 hF hrk hxs hos hk q2 q3 q4 a4 hi hmj hii
      go_upto_region 8 with (go_at_call 112; refine (HF.out _).mono ?_; rintro e w' ⟨rfl, rfl⟩)
      rw [HR1.out]
      go_upto_region 9 with (go_at_call 112; refine (HF.out _).mono ?_; rintro e w' ⟨rfl, rfl⟩)
      obtain ⟨x, hx⟩ := ex_eq (xs.getD k 0)
      rw [hx] at hc1 HS
      clear hx HF HR1 a3 hr63 hf1 hF0
      obtain ⟨rk2, hrk2⟩ := ex_eq (rk % F)
      rw [hrk2] at HS ⊢
      clear hrk2
      go_wp2_with (at_builtin; refine wpList_app rfl (.tmp 38) (.tmp 43) rfl g _ os [x] rfl (hlst.alloc _) (some ⟨wr.heap.size, 0, none⟩) 1 1 rfl (rd_one wr x 2) (fun h => by cases h) (by simp; omega) (by simp; omega) ?_; intro v4 w4 ho4 hg4 hb4)
      have hzz : (wr.alloc (.cells #[.int .i64 x] 2)).heap.size = wr.heap.size + 1 := by simp
      have hb4' : Below g wr w4 := ((Below.refl _ _).alloc (by omega) _).trans ((hlst.alloc _).grown hg4 (by omega))
      have hown4 : Own w4 g (some ⟨gg, 0, none⟩) (i + 1) c2 xs := World.ownsRow.kept (Own.alloc hown _) hg4 hsep
      have hsep4 : Sep (.slice (some ⟨gg, 0, none⟩) (i + 1 : Nat) c2) v4 := by
        refine .inr ?_
        rcases hb4 with e | e
        · rw [e]
          rcases hsep with h | h
          · cases h
          · exact h
        · rw [e, hzz]
          show some gg ≠ _
          intro e2
          injection e2 with e2
          omega
      have hz4 := hb4'.size
      have hbb := hb.trans hb4'
      clear hown hlst hsep hc1 hg4 hb4 hb4' hzz
      have hk1 : wrap64 ((k : Int) + 1) = ((k + 1 : Nat) : Int) := by rw [IntWalk.wrap64_in _ ⟨by omega, by omega⟩]; omega
      have hcc : c2 ≤ 9223372036854775807 := (own_cap hown4).2
      have HD := hide (Delete_one (some ⟨gg, 0, none⟩) (i + 1) c2 k xs g w4 hown4 (Nat.lt_succ_of_le q1) hcc)
      rw [Nat.add_sub_cancel] at HD
      have HK1 := hide hk1
      clear hk1 hown4
      go_wp2_with fail
      trace_state
      rw [show ((k : Int) + 1) = ((k + 1 : Nat) : Int) by omega]
      refine HD.out.mono ?_
      rintro e w5 ⟨rfl, ho5, hg5⟩
      have ho5l : Lst w5 g v4 (os ++ [x]) := World.ownsRow.kept ho4 hg5 (by
        rcases hsep4 with h | h
        · cases h
        · exact .inr (Ne.symm h))
      have hb5 : Below g w4 w5 := grown_below hg5 (by omega) (fun k hk => by
        have e2 : (some gg : Option Nat) = some k := hk
        injection e2 with e2
        omega)
      clear hg5 ho4
      go_wp2
      go_roundw
      case rel =>
        have hS1 : (urTo m r (j + 1)).1 = List.take k xs ++ List.drop (k + 1) xs := by rw [HS.out]
        have hS2 : (urTo m r (j + 1)).2.1 = os ++ [x] := by rw [HS.out]
        have hS3 : (urTo m r (j + 1)).2.2 = rk2 := by rw [HS.out]
        have hI := HI.out
        have e : m - (j + 1) = i := by omega
        refine ⟨j + 1, some ⟨gg, 0, none⟩, c2, by omega, ?_, ?_, ?_, ?_, ?_, ?_, ?_⟩
        · exact int_congr (by omega)
        · rw [hS3]
        · rw [e]
        · rw [hS1, e]; exact ho5
        · rw [hS2]; exact ho5l
        · rw [e]; exact hsep4
        · exact hbb.trans hb5
      case measure => have := HI.out; simp only [intOf]; omega
    · obtain rfl : j = m := by omega
      obtain ⟨A4, c4, rfl, ho⟩ := hlst.form
      have hi : (j : Int) - 1 - j = -1 := by omega
      rw [hi]
      rw [HOUT.out] at ho ⊢
      generalize (urTo j r j).2.2 = rk at *
      clear hown hsep HX ho1 hb1
      go_wp2
      go_ret2
      refine ⟨A4, c4, rfl, ?_, ?_⟩
      · rw [HG.out]; exact ho
      · rw [HG.out]; exact hb
end Go.Proofs.Ytlldocdmjeeaaaa.deck
