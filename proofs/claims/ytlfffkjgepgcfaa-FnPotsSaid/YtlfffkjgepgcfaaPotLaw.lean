/-
  The statement on pots, walked. Conditions: those of each theorem.
-/
import Derived.Test.YtlfffkjgepgcfaaPotW
import Derived.Test.YtlfffkjgepgcfaaShI
import Derived.ChangeOld
import Derived.Below
namespace Go.Proofs.Ytlfffkjgepgcfaa.chance
open Go.RowKit
open base mem fl byts

open Ieee
theorem ownB_cap {w : World} {B : Nat} {A : Option Addr} {n c : Nat} {xs : List Bool} (h : OwnB w B A n c xs) : n ≤ c := by
  rcases h.2 with ⟨h1, h0⟩ | ⟨g, cap, cur, hv, hb, hg, hc, _⟩
  · injection h1 with _ h2 h3
    omega
  · injection hv with _ h2 h3
    omega
set_option maxRecDepth 20000 in
theorem fnPots_big (A : Option Addr) (n c : Nat) (A2 : Option Addr) (n2 c2 : Nat) (w : World) (h : 1048576 < n ∨ 1048576 < n2) (hn : n ≤ 9223372036854775807) (hn2 : n2 ≤ 9223372036854775807) :
    Calls Try.prog 12 #[.slice A n c, .slice A2 n2 c2] w fun e w' => e = .returned (.bool true) ∧ Below w.heap.size w w' := by
  have HL := hide (long_big A n c A2 n2 c2 w h hn hn2)
  have HB := hide (Below.refl w.heap.size w)
  clear h
  go_enter Try.func12, Try.ntmps12
  go_wp2_with (go_at_call 43; refine HL.out.mono ?_; rintro e w' ⟨rfl, rfl⟩)
  go_ret
  exact ⟨rfl, HB.out⟩

set_option maxRecDepth 20000 in
set_option maxHeartbeats 16000000 in
theorem fnPots_any (A : Option Addr) (n c : Nat) (zs : List Int) (A2 : Option Addr) (n2 c2 : Nat) (zs2 : List Int) (w : World) (hY : RdY w w.heap.size A n zs) (hn : n ≤ 1048576) (hY2 : RdY w w.heap.size A2 n2 zs2) (hn2 : n2 ≤ 1048576) :
    Calls Try.prog 12 #[.slice A n c, .slice A2 n2 c2] w fun e w' => e = .returned (.bool true) ∧ Below w.heap.size w w' := by
  have HL := hide (b10Long_any A A2 n c n2 c2 w hn hn2)
  have HA := hide (fun (W : World) (hb : Below w.heap.size w W) (i m : Nat) (hi : i ≤ 1000) (hm : m ≤ 1000) (hm1 : 2 ≤ m) => b10At_val A n c zs w.heap.size i m W (hY.below hb) hn hi hm hm1)
  have HM := hide (fun (W : World) (hb : Below w.heap.size w W) (i m : Nat) (hi : i ≤ 1000) (hm : m ≤ 1000) (hm1 : 2 ≤ m) => b10At_val A2 n2 c2 zs2 w.heap.size i m W (hY2.below hb) hn2 hi hm hm1)
  clear hY hY2
  go_enter Try.func12, Try.ntmps12
  go_upto_region 3 with (go_at_call 43; refine HL.out.mono ?_; rintro e w' ⟨rfl, rfl⟩)
  have HT0 := hide (show Tri w (((w.alloc (.cells #[] 2)).alloc (.cells #[] 2)).alloc (.cells #[] 4)) (.slice (some ⟨w.heap.size, 0, none⟩) 0 0) (.slice (some ⟨w.heap.size + 1, 0, none⟩) 0 0) (.slice (some ⟨w.heap.size + 2, 0, none⟩) 0 0) [] [] [] from
    ⟨((Lst.new w (Nat.le_refl _)).alloc _).alloc _, (Lst.new' (w.alloc (.cells #[] 2)) (by simp) (by simp)).alloc _, LstB.new' ((w.alloc (.cells #[] 2)).alloc (.cells #[] 2)) (by simp; omega) (by simp), .inr (by simp [Value.ownBlock]), .inr (by simp [Value.ownBlock]), .inr (by simp [Value.ownBlock]), (((Below.refl _ _).alloc (Nat.le_refl _) _).alloc (by simp) _).alloc (by simp; omega) _⟩)
  clear HL
  go_wp2
  have hr6 := atN_lt zs2 0 (show 0 < 6 by omega)
  obtain ⟨r6, hr6e⟩ := ex_eq (atN zs2 0 6)
  rw [hr6e] at hr6
  go_loopw [5, 6, 7, 8] (fun v1 v2 v3 i wr => ∃ (k : Nat) (xs ys : List Int) (ob : List Bool), k ≤ 1 + r6 ∧ i = .int .i64 k ∧ Tri w wr v1 v2 v3 xs ys ob ∧ PF xs ys ob k) (fun _ _ _ i _ => 10 - (intOf i).toNat)
  case atStart => exact ⟨0, [], [], [], by omega, rfl, HT0.out, PF.nil⟩
  case round =>
    obtain ⟨k, xs, ys, ob, hk, rfl, hT, hF⟩ := hrel
    have HF := hide hF
    have HT := hide hT
    have hxl := hF.xl
    have hyl := hF.yl
    have hol := hF.ol
    have C6 := hide (HM.out wr hT.low 0 6 (by omega) (by omega) (by omega))
    rw [hr6e] at C6
    by_cases hlt : k < 1 + r6
    · have ha9 := atN_lt zs k (show 0 < 8 by omega)
      have ha13 := atN_lt zs (10 + k) (show 0 < 4 by omega)
      have C9 := hide (HA.out wr hT.low k 8 (by omega) (by omega) (by omega))
      have C13 := hide (fun W hb => by
        have h := HA.out W hb (10 + k) 4 (by omega) (by omega) (by omega)
        rw [show ((10 + k : Nat) : Int) = 10 + (k : Int) by omega] at h
        exact h)
      have C14 := hide (fun W hb => by
        have h := HM.out W hb (1 + k) 3 (by omega) (by omega) (by omega)
        rw [show ((1 + k : Nat) : Int) = 1 + (k : Int) by omega] at h
        exact h)
      obtain ⟨a9, e9⟩ := ex_eq (atN zs k 8)
      rw [e9] at ha9 C9
      obtain ⟨a13, e13⟩ := ex_eq (atN zs (10 + k) 4)
      rw [e13] at ha13 C13
      obtain ⟨a14, e14⟩ := ex_eq (atN zs2 (1 + k) 3)
      rw [e14] at C14
      obtain ⟨q, hq0⟩ := ex_eq ((a14 : Int) == 0)
      have HQ0 := hide hq0
      clear hq0
      have hzr := hT.low.size
      clear e9 e13 e14 hT hF
      by_cases hk0 : k = 0
      · clear HQ0 C14
        have hz : ((k : Int) == 0) = true := by rw [beq_iff_eq]; omega
        have hp : k < 1 := by omega
        clear hk0
        go_upto_region 12 with (go_at_call 44; first | (refine C6.out.mono ?_; clear C6; rintro e w' ⟨rfl, rfl⟩) | (refine C9.out.mono ?_; clear C9; rintro e w' ⟨rfl, rfl⟩))
        go_upto_region 13 with (at_builtin; refine wpList_app rfl (.tmp 62) (.tmp 64) rfl w.heap.size _ xs [(10 * (a9 : Int) + 5)] rfl (HT.out.a.alloc _) (some ⟨wr.heap.size, 0, none⟩) 1 1 rfl (rd_one wr (10 * (a9 : Int) + 5) 2) (fun h => by cases h) (by rw [hxl]; omega) (by simp; omega) ?_; intro v4 w4 ho4 hg4 hk4)
        have hT4 := HT.out.push1 _ ho4 hg4 hk4
        have HT4 := hide hT4
        have hz4 := hT4.low.size
        have C13 := hide (C13.out w4 hT4.low)
        clear ho4 hg4 hk4 hT4
        go_upto_region 14 with (first | (go_at_call 44; refine C13.out.mono ?_; clear C13; rintro e w' ⟨rfl, rfl⟩) | (at_builtin; refine wpList_app rfl (.tmp 66) (.tmp 71) rfl w.heap.size _ ys [(a13 : Int)] rfl (HT4.out.b.alloc _) (some ⟨w4.heap.size, 0, none⟩) 1 1 rfl (rd_one w4 (a13 : Int) 2) (fun h => by cases h) (by rw [hyl]; omega) (by simp; omega) ?_; intro v5 w5 ho5 hg5 hk5))
        have hT5 := HT4.out.push2 _ ho5 hg5 hk5
        have HT5 := hide hT5
        have hz5 := hT5.low.size
        clear ho5 hg5 hk5 hT5
        go_wp2_with ((at_builtin; refine wpList_appB rfl (.tmp 73) (.tmp 83) rfl w.heap.size _ ob [false] rfl (HT5.out.c.alloc _) (some ⟨w5.heap.size, 0, none⟩) 1 1 rfl (rdB_one w5 false 4) (fun h => by cases h) (by rw [hol]; omega) (by simp; omega) ?_; intro v6 w6 ho6 hg6 hk6))
        have hT6 := HT5.out.push3 _ ho6 hg6 hk6
        have HT6 := hide hT6
        clear ho6 hg6 hk6 hT6 hz hp
        (try go_wp2)
        go_roundw
        case rel => exact ⟨k + 1, xs ++ [(10 * (a9 : Int) + 5)], ys ++ [(a13 : Int)], ob ++ [false], by omega, by go_num, HT6.out, HF.out.push (by omega) (by omega) (fun h => ⟨by omega, rfl⟩) (by omega) (by omega)⟩
        case measure => simp [intOf]; omega
      · have hk1 : 0 < k := by omega
        clear hk0
        have hz : ((k : Int) == 0) = false := by rw [beq_eq_false_iff_ne]; omega
        have hp : decide (0 < (k : Int)) = true := decide_eq_true (by omega)
        go_upto_region 12 with (go_at_call 44; first | (refine C6.out.mono ?_; clear C6; rintro e w' ⟨rfl, rfl⟩) | (refine C9.out.mono ?_; clear C9; rintro e w' ⟨rfl, rfl⟩))
        go_upto_region 13 with (at_builtin; refine wpList_app rfl (.tmp 62) (.tmp 64) rfl w.heap.size _ xs [(10 * (a9 : Int))] rfl (HT.out.a.alloc _) (some ⟨wr.heap.size, 0, none⟩) 1 1 rfl (rd_one wr (10 * (a9 : Int)) 2) (fun h => by cases h) (by rw [hxl]; omega) (by simp; omega) ?_; intro v4 w4 ho4 hg4 hk4)
        have hT4 := HT.out.push1 _ ho4 hg4 hk4
        have HT4 := hide hT4
        have hz4 := hT4.low.size
        have C13 := hide (C13.out w4 hT4.low)
        clear ho4 hg4 hk4 hT4
        go_upto_region 14 with (first | (go_at_call 44; refine C13.out.mono ?_; clear C13; rintro e w' ⟨rfl, rfl⟩) | (at_builtin; refine wpList_app rfl (.tmp 66) (.tmp 71) rfl w.heap.size _ ys [(a13 : Int)] rfl (HT4.out.b.alloc _) (some ⟨w4.heap.size, 0, none⟩) 1 1 rfl (rd_one w4 (a13 : Int) 2) (fun h => by cases h) (by rw [hyl]; omega) (by simp; omega) ?_; intro v5 w5 ho5 hg5 hk5))
        have hT5 := HT4.out.push2 _ ho5 hg5 hk5
        have HT5 := hide hT5
        have hz5 := hT5.low.size
        have C14 := hide (C14.out w5 hT5.low)
        cases q
        · have hq : ((a14 : Int) == 0) = false := HQ0.out
          clear ho5 hg5 hk5 hT5
          go_wp2_with (first | (go_at_call 44; refine C14.out.mono ?_; clear C14; rintro e w' ⟨rfl, rfl⟩) | (at_builtin; refine wpList_appB rfl (.tmp 73) (.tmp 83) rfl w.heap.size _ ob [false] rfl (HT5.out.c.alloc _) (some ⟨w5.heap.size, 0, none⟩) 1 1 rfl (rdB_one w5 false 4) (fun h => by cases h) (by rw [hol]; omega) (by simp; omega) ?_; intro v6 w6 ho6 hg6 hk6))
          have hT6 := HT5.out.push3 _ ho6 hg6 hk6
          have HT6 := hide hT6
          clear ho6 hg6 hk6 hT6 hz hp
          (try go_wp2)
          go_roundw
          case rel => exact ⟨k + 1, xs ++ [(10 * (a9 : Int))], ys ++ [(a13 : Int)], ob ++ [false], by omega, by go_num, HT6.out, HF.out.push (by omega) (by omega) (fun h => ⟨by omega, absurd h (by omega)⟩) (by omega) (by omega)⟩
          case measure => simp [intOf]; omega
        · have hq : ((a14 : Int) == 0) = true := HQ0.out
          clear ho5 hg5 hk5 hT5
          go_wp2_with (first | (go_at_call 44; refine C14.out.mono ?_; clear C14; rintro e w' ⟨rfl, rfl⟩) | (at_builtin; refine wpList_appB rfl (.tmp 73) (.tmp 83) rfl w.heap.size _ ob [true] rfl (HT5.out.c.alloc _) (some ⟨w5.heap.size, 0, none⟩) 1 1 rfl (rdB_one w5 true 4) (fun h => by cases h) (by rw [hol]; omega) (by simp; omega) ?_; intro v6 w6 ho6 hg6 hk6))
          have hT6 := HT5.out.push3 _ ho6 hg6 hk6
          have HT6 := hide hT6
          clear ho6 hg6 hk6 hT6 hz hp
          (try go_wp2)
          go_roundw
          case rel => exact ⟨k + 1, xs ++ [(10 * (a9 : Int))], ys ++ [(a13 : Int)], ob ++ [true], by omega, by go_num, HT6.out, HF.out.push (by omega) (by omega) (fun h => ⟨by omega, absurd h (by omega)⟩) (by omega) (by omega)⟩
          case measure => simp [intOf]; omega
    · have hk1 : 1 ≤ k := by omega
      have hk6 : k ≤ 6 := by omega
      have hok := hF.spOk hk1 hk6
      have hsh := hF.shOk hk1 hk6
      have hsum := sum_pots hok
      obtain ⟨hgs, hgl, hg⟩ := gets_ok hsh
      have hpf := (spPots_facts hok).2.2.1
      have hpl := (spPots_facts hok).1
      have hpl2 := lvls_len xs ob xs.length
      have hPb : ∀ i, -1000000000 ≤ (spPots xs ob).getD i 0 ∧ (spPots xs ob).getD i 0 ≤ 1000000000 := fun i => by
        by_cases h : i < (spPots xs ob).length
        · have := hpf i h; omega
        · have e : (spPots xs ob).getD i 0 = 0 := by simp [List.getD, h]
          omega
      have hXb : ∀ i, -1000000000 ≤ xs.getD i 0 ∧ xs.getD i 0 ≤ 1000000000 := fun i => by
        by_cases h : i < xs.length
        · have := hF.x i (by omega); omega
        · have e : xs.getD i 0 = 0 := by simp [List.getD, h]
          omega
      rw [hxl] at hg
      have hGb : ∀ i, -1000000000 ≤ (shOut xs ob ys).getD i 0 ∧ (shOut xs ob ys).getD i 0 ≤ 1000000000 := fun i => by
        by_cases h : i < k
        · have := hg i h; omega
        · have e : (shOut xs ob ys).getD i 0 = 0 := by simp [List.getD, show ¬ i < (shOut xs ob ys).length by omega]
          omega
      obtain ⟨A5, c5, rfl, ho5⟩ := hT.a.formn hxl
      obtain ⟨A6, c6, rfl, ho6⟩ := hT.b.formn hyl
      obtain ⟨A7, c7, rfl, ho7⟩ := hT.c.formB hol
      have HB0 := hide (Below.refl wr.heap.size wr)
      have HBW := hide (fun W (hb : Below wr.heap.size wr W) => hT.low.trans (hb.mono hT.low.size))
      have R5 := hide (fun W (hb : Below wr.heap.size wr W) => (ho5.rd.below hb).more hb.size)
      have R6 := hide (fun W (hb : Below wr.heap.size wr W) => (ho6.rd.below hb).more hb.size)
      have R7 := hide (fun W (hb : Below wr.heap.size wr W) => (ho7.rd.below hb).more hb.size)
      have hc5 : k ≤ c5 := ho5.cap.1
      have hc6 : k ≤ c6 := ho6.cap.1
      have hc7 : k ≤ c7 := ownB_cap ho7
      have C15 := hide (fun W (hb : Below wr.heap.size wr W) => by
        have h := impl_SidePots A5 k c5 xs A7 k c7 ob W (R5.out W hb) (by omega) hc5 (R7.out W hb) (by omega) hc7
        rw [hok] at h
        exact h)
      have C16 := hide (fun W (hb : Below wr.heap.size wr W) => by
        have h := spec_SidePots A5 k c5 xs A7 k c7 ob W (R5.out W hb) (by omega) hc5 (R7.out W hb) (by omega) hc7
        rw [hok] at h
        exact h)
      have C17 := hide (fun W (hb : Below wr.heap.size wr W) => by
        have h := impl_SharePots A5 k c5 xs A7 k c7 ob A6 k c6 ys W (R5.out W hb) (by omega) hc5 (R7.out W hb) (by omega) hc7 (R6.out W hb) (by omega) hc6
        rw [hsh, hgl, hxl] at h
        exact h)
      have C18 := hide (fun W (hb : Below wr.heap.size wr W) => by
        have h := spec_SharePots A5 k c5 xs A7 k c7 ob A6 k c6 ys W (R5.out W hb) (by omega) hc5 (R7.out W hb) (by omega) hc7 (R6.out W hb) (by omega) hc6
        rw [hsh, hgl, hxl] at h
        exact h)
      have hSl : (spSets xs ob).length ≤ 6 := by
        have := (spPots_facts hok).2.1
        omega
      have hPl : (spPots xs ob).length ≤ 6 := by omega
      obtain ⟨GS, hGS⟩ := ex_eq (shOut xs ob ys)
      rw [hGS] at C17 C18 hg hGb hgs
      obtain ⟨SS, hSS⟩ := ex_eq (spSets xs ob)
      rw [hSS] at C15 C16 hSl
      obtain ⟨PS, hPS⟩ := ex_eq (spPots xs ob)
      rw [hPS] at C15 C16 hPl hPb hsum
      obtain ⟨mP, hmP⟩ := ex_eq PS.length
      rw [hmP] at C15 C16 hPl
      obtain ⟨mS, hmS⟩ := ex_eq SS.length
      rw [hmS] at C15 C16 hSl
      obtain ⟨S, hS⟩ := ex_eq xs.sum
      rw [hS] at hsum hgs
      have HPB := hide hPb
      have HXB := hide hXb
      have HGB := hide hGb
      have HG := hide hg
      have HSP := hide hsum
      have HSG := hide hgs
      have HSX := hide hS
      clear hPb hXb hGb hg hsum hgs hS hmP hmS hPS hSS hGS hpf hpl hpl2 hgl hok hsh hT hF ho5 ho6 ho7 HT HF HA hxl hyl hol HT0
      go_upto_region 16 with (first | (go_at_call 44; refine C6.out.mono ?_; clear C6; rintro e w' ⟨rfl, rfl⟩) | (go_at_call 38; refine (C15.out _ HB0.out).mono ?_; clear C15; rintro e w1 ⟨A10, c10, A11, c11, rfl, ho10, ho11, _, hb1⟩))
      have HB1 := hide hb1
      have R10 := hide (fun W (hb : Below w1.heap.size w1 W) => (ho10.rd.below hb).more hb.size)
      have R11 := hide (fun W (hb : Below w1.heap.size w1 W) => (ho11.rd.below hb).more hb.size)
      clear hb1 ho10 ho11
      go_upto_region 17 with (go_at_call 36; refine (C16.out _ HB1.out).mono ?_; clear C16; rintro e w2 ⟨A13, c13, A14, c14, rfl, ho13, ho14, _, hb2⟩)
      have HB12 := hide (hb2.mono (Nat.le_refl _))
      have HB2 := hide (HB1.out.trans (hb2.mono HB1.out.size))
      have R13 := hide (fun W (hb : Below w2.heap.size w2 W) => (ho13.rd.below hb).more hb.size)
      have R14 := hide (fun W (hb : Below w2.heap.size w2 W) => (ho14.rd.below hb).more hb.size)
      clear hb2 ho13 ho14
      go_upto_region 18 with (go_at_call 42; refine (C17.out _ HB2.out).mono ?_; clear C17; rintro e w3 ⟨A16, c16, rfl, ho16, hb3⟩)
      have HB23 := hide (hb3.mono (Nat.le_refl _))
      have HB3 := hide (HB2.out.trans (hb3.mono HB2.out.size))
      have R16 := hide (fun W (hb : Below w3.heap.size w3 W) => (ho16.rd.below hb).more hb.size)
      clear hb3 ho16
      go_upto_region 19 with (go_at_call 41; refine (C18.out _ HB3.out).mono ?_; clear C18; rintro e w4 ⟨A18, c18, rfl, ho18, hb4⟩)
      have HB4 := hide (HB3.out.trans (hb4.mono HB3.out.size))
      have H34 := hide (hb4.mono (Nat.le_refl _))
      have H24 := hide (HB23.out.trans (hb4.mono HB23.out.size))
      have H14 := hide (HB12.out.trans (H24.out.mono HB12.out.size))
      have R18 := hide (ho18.rd)
      have CI1 := hide (b10Ints_same A10 mP c10 PS A13 c13 w4.heap.size w4.heap.size w4 (R10.out w4 H14.out) (R13.out w4 H24.out) (by omega))
      have CI2 := hide (fun q => b10Ints_same A11 mS c11 SS A14 c14 w4.heap.size w4.heap.size (w4.drewN q) ((R11.out w4 H14.out).drewN q) ((R14.out w4 H24.out).drewN q) (by omega))
      have CI3 := hide (fun q => b10Ints_same A16 k c16 GS A18 c18 w4.heap.size w4.heap.size (w4.drewN q) ((R16.out w4 H34.out).drewN q) (R18.out.drewN q) (by omega))
      have CS1 := hide (fun q => by
        have h := b10Sum_any A10 mP c10 PS w4.heap.size (w4.drewN q) ((R10.out w4 H14.out).drewN q) (by omega) HPB.out
        rw [HSP.out] at h
        exact h)
      have CS2 := hide (fun q => by
        have h := b10Sum_any A5 k c5 xs w4.heap.size (w4.drewN q) ((R5.out w4 HB4.out).drewN q) (by omega) HXB.out
        rw [HSX.out] at h
        exact h)
      have CS3 := hide (fun q => by
        have h := b10Sum_any A16 k c16 GS w4.heap.size (w4.drewN q) ((R16.out w4 H34.out).drewN q) (by omega) HGB.out
        rw [HSG.out] at h
        exact h)
      have CS2a := CS2
      have CS2b := CS2
      clear CS2
      have R16' := hide (R16.out w4 H34.out)
      have R5' := hide (R5.out w4 HB4.out)
      have R7' := hide (R7.out w4 HB4.out)
      have HBW4 := hide (HBW.out w4 HB4.out)
      clear hb4 ho18 R5 R6 R7 R10 R11 R13 R14 R16 R18 HB0 HB1 HB12 HB2 HB23 HB3 HB4 H34 H24 H14 HBW HPB HXB HGB HSP HSG HSX
      go_upto_region 21 with (first | (have hci := CI1.out; go_at_call 45; refine hci.mono ?_; clear hci CI1; rintro e w' ⟨q1, rfl, rfl⟩) | (have hci := CI2.out (q1); go_at_call 45; refine hci.mono ?_; clear hci CI2; rintro e w' ⟨q2, rfl, rfl⟩) | (have hci := CI3.out (q1 + q2); go_at_call 45; refine hci.mono ?_; clear hci CI3; rintro e w' ⟨q3, rfl, rfl⟩) | (have hcs := CS1.out (q1 + q2 + q3); go_at_call 46; refine hcs.mono ?_; clear hcs CS1; rintro e w' ⟨rfl, rfl⟩) | (have hcs := CS2a.out (q1 + q2 + q3); go_at_call 46; refine hcs.mono ?_; clear hcs CS2a; rintro e w' ⟨rfl, rfl⟩) | (have hcs := CS3.out (q1 + q2 + q3); go_at_call 46; refine hcs.mono ?_; clear hcs CS3; rintro e w' ⟨rfl, rfl⟩) | (have hcs := CS2b.out (q1 + q2 + q3); go_at_call 46; refine hcs.mono ?_; clear hcs CS2b; rintro e w' ⟨rfl, rfl⟩))
      obtain ⟨wa, hwa⟩ : ∃ wa, wa = w4.drewN (q1 + q2 + q3) := ⟨_, rfl⟩
      have HR16 := hide (show Rd wa w4.heap.size A16 k GS by rw [hwa]; exact R16'.out.drewN _)
      have HR5 := hide (show Rd wa w4.heap.size A5 k xs by rw [hwa]; exact R5'.out.drewN _)
      have HR7 := hide (show RdB wa w4.heap.size A7 k ob by rw [hwa]; exact R7'.out.drewN _)
      have HWa := hide (show Below w.heap.size w wa by rw [hwa]; exact bdrewN HBW4.out _)
      rw [← hwa]
      clear hwa R16' R5' R7' HBW4
      go_wp2
      go_loop [161] (fun i => ∃ j : Nat, j ≤ k ∧ i = .int .i64 j) (fun i => k - (intOf i).toNat)
      case atStart => exact ⟨0, Nat.zero_le _, rfl⟩
      case round =>
        obtain ⟨j, hj, rfl⟩ := hrel
        by_cases hlt : j < k
        · obtain ⟨b1, o1, rfl, _, hc1⟩ := HR16.out.at_ hlt
          obtain ⟨b2, o2, rfl, _, hc2⟩ := HR7.out.at_ hlt
          obtain ⟨b3, o3, rfl, _, hc3⟩ := HR5.out.at_ hlt
          obtain ⟨g0, _, gz⟩ := HG.out j hlt
          have hlv : live ob j = !(ob.getD j false) := rfl
          rw [hlv] at gz
          obtain ⟨g, hgg⟩ := ex_eq (GS.getD j 0)
          rw [hgg] at hc1 g0 gz
          obtain ⟨o, hoo⟩ := ex_eq (ob.getD j false)
          rw [hoo] at hc2 gz
          obtain ⟨s, hss⟩ := ex_eq (xs.getD j 0)
          rw [hss] at hc3 gz
          have dg : decide (g < 0) = false := decide_eq_false (by omega)
          clear hlv hgg hoo hss HR16 HR7 HR5 HG
          by_cases hz : g = 0
          · obtain rfl := hz
            clear gz g0
            cases o
            all_goals
              by_cases hs : s = 0
              · obtain rfl := hs
                go_wp2
                go_round
                case rel => exact ⟨j + 1, by omega, by go_num⟩
                case measure => simp [intOf]; omega
              · have hs1 : (s == 0) = false := by rw [beq_eq_false_iff_ne]; exact hs
                clear hs
                go_wp2
                go_round
                case rel => exact ⟨j + 1, by omega, by go_num⟩
                case measure => simp [intOf]; omega
          · have ho : o = false := by
              cases o
              · rfl
              · exact absurd (gz (.inl rfl)) hz
            have hs1 : (s == 0) = false := by
              rw [beq_eq_false_iff_ne]
              intro e
              exact hz (gz (.inr e))
            subst ho
            clear gz hz
            go_wp2
            go_round
            case rel => exact ⟨j + 1, by omega, by go_num⟩
            case measure => simp [intOf]; omega
        · obtain rfl : j = k := by omega
          clear hlt hj HR16 HR7 HR5 HG
          have hp8 := atN_lt zs2 8 (show 0 < 200 by omega)
          have hb9 := atN_lt zs2 9 (show 0 < 100 by omega)
          have hj10 := atN_lt zs2 10 (show 0 < 16 by omega)
          have hk11 := atN_lt zs2 11 (show 0 < 17 by omega)
          have M8 := hide (HM.out wa HWa.out 8 200 (by omega) (by omega) (by omega))
          have M9 := hide (HM.out wa HWa.out 9 100 (by omega) (by omega) (by omega))
          have M10 := hide (fun W hb => HM.out W hb 10 16 (by omega) (by omega) (by omega))
          have M11 := hide (fun W hb => HM.out W hb 11 17 (by omega) (by omega) (by omega))
          obtain ⟨p, e8⟩ := ex_eq (atN zs2 8 200)
          rw [e8] at M8 hp8
          obtain ⟨b9, e9⟩ := ex_eq (atN zs2 9 100)
          rw [e9] at M9 hb9
          obtain ⟨jo, e10⟩ := ex_eq (atN zs2 10 16)
          rw [e10] at M10 hj10
          obtain ⟨kc, e11⟩ := ex_eq (atN zs2 11 17)
          rw [e11] at M11 hk11
          clear e8 e9 e10 e11 HM
          go_upto_region 29 with (go_at_call 44; first | (refine M8.out.mono ?_; clear M8; rintro e w' ⟨rfl, rfl⟩) | (refine M9.out.mono ?_; clear M9; rintro e w' ⟨rfl, rfl⟩))
          obtain ⟨bb, hbb1, hbb2, es⟩ : ∃ bb : Nat, 1 ≤ bb ∧ bb ≤ 100 ∧ (1 : Int) + (b9 : Int) = (bb : Int) := ⟨1 + b9, by omega, by omega, by omega⟩
          rw [es]
          have C29 := hide (fun W => callShare_any p bb (by omega) hbb1 hbb2 W)
          have C30 := hide (fun W => bluffShare_any p bb (by omega) hbb1 hbb2 W)
          clear es hb9
          go_upto_region 30 with (go_at_call 47; refine (C29.out _).mono ?_; clear C29; rintro e w' ⟨x, y, rfl, hf, n29, rfl⟩)
          go_upto_region 31 with (go_at_call 48; refine (C30.out _).mono ?_; clear C30; rintro e w' ⟨u, v, rfl, hf2, n30, rfl⟩)
          obtain ⟨wb, hwb⟩ : ∃ wb, wb = wa.drewN (n29 + n30) := ⟨_, rfl⟩
          have HWb := hide (show Below w.heap.size w wb by rw [hwb]; exact bdrewN HWa.out _)
          try rw [World.drewN_drewN]
          rw [← hwb]
          obtain ⟨c, hc, hck, z, hz, hz1, hz2⟩ := gain_small (p := p) (k := bb) (x := x) (y := y) (by omega) hbb1 hbb2 hf.1 hf.2.2.1 hf.2.1 hf.2.2.2
          have C31 := hide (fun W => impl_CallGain c p bb W)
          rw [hck] at C31
          obtain ⟨gn, hgn⟩ := ex_eq (cgOut c (p : Int) (bb : Int))
          rw [hgn] at C31 hz
          obtain ⟨hwd, hvd⟩ := wide_exact hz
          obtain ⟨g, hgap, hgt⟩ := gap_small hvd hz1 hz2
          have CG := hide (fun W => gap_any hgap W)
          obtain ⟨s, ch1, ch2, ch3, ch4, hs1, hs2, hs3⟩ := chkA_split hj10 hk11
          have C34 := hide (fun W => impl_GrowthShare (chW kc) (odW jo) W)
          rw [ch3, ch4] at C34
          have r31 : ∀ w, (binOp .quo 25 (.float .f32 (floatOfInt .f32 (x : Int))) (.float .f32 (floatOfInt .f32 (y : Int)))).run Try.prog w = .ok (.float .f32 c) w := fun w => run_float_arith (P := Try.prog) w .quo 25 .f32 _ _ _ hc
          have r35 : ∀ w, (convert 25 29 (.float .f32 gn)).run Try.prog w = .ok (.float .f64 (wd gn)) w := fun w => run_convert_float_float (P := Try.prog) w 25 29 .f32 .f64 _ _ (by rw [Try.underlying25]; rfl) Try.underlying29 hwd
          obtain ⟨Oo, hOo⟩ := ex_eq (odW jo)
          rw [hOo] at ch2 C34 hs3
          obtain ⟨Cc, hCc⟩ := ex_eq (chW kc)
          rw [hCc] at ch1 C34 hs3
          obtain ⟨gw, hgw⟩ := ex_eq (wd gn)
          rw [hgw] at r35 CG
          have r32 : ∀ w, (binOp .quo 25 (.float .f32 (floatOfInt .f32 (1 + (jo : Int)))) (.float .f32 1082130432)).run Try.prog w = .ok (.float .f32 Oo) w := fun w => run_float_arith (P := Try.prog) w .quo 25 .f32 _ _ _ ch2
          have r33 : ∀ w, (binOp .quo 25 (.float .f32 (floatOfInt .f32 (kc : Int))) (.float .f32 1098907648)).run Try.prog w = .ok (.float .f32 Cc) w := fun w => run_float_arith (P := Try.prog) w .quo 25 .f32 _ _ _ ch1
          have M10' := hide (M10.out wb HWb.out)
          have M11' := hide (M11.out wb HWb.out)
          have hw1 : (wrap64 ((x : Int) * ((p : Int) + (bb : Int))) != wrap64 ((y : Int) * (bb : Int))) = false := by
            have h := congrArg (fun m : Nat => (m : Int)) hf.1
            simp only [Int.natCast_mul, Int.natCast_add] at h
            rw [h]
            simp
          have hw2 : (wrap64 ((u : Int) * ((p : Int) + 2 * (bb : Int))) != wrap64 ((v : Int) * (bb : Int))) = false := by
            have h := congrArg (fun m : Nat => (m : Int)) hf2.1
            simp only [Int.natCast_mul, Int.natCast_add] at h
            rw [show ((2 : Nat) : Int) = 2 from rfl] at h
            rw [h]
            simp
          have hg1 : (FloatKind.f64.format.order g 4576918229304087675 == some .gt) = false := hgt
          have ht1 : (FloatKind.f32.format.order s 0 == some .lt) = false := hs1
          have ht2 : (FloatKind.f32.format.order s 1065353216 == some .gt) = false := hs2
          have HS3 := hide hs3
          have HW1 := hide hw1
          have HW2 := hide hw2
          have hxb : x ≤ 1000 := by omega
          have hyb : y ≤ 1000 := by omega
          clear hc hck hz hz1 hz2 hgn hwd hvd hgap hgt ch1 ch2 ch3 ch4 hs1 hs2 hs3 hOo hCc hgw hf hf2 hwb HWa M10 M11 hw1 hw2
          go_upto_region 32 with (go_at_call 17; refine (C31.out _).mono ?_; clear C31; rintro e w' ⟨rfl, rfl⟩)
          go_upto_region 34 with (go_at_call 44; first | (refine M10'.out.mono ?_; clear M10'; rintro e w' ⟨rfl, rfl⟩) | (refine M11'.out.mono ?_; clear M11'; rintro e w' ⟨rfl, rfl⟩))
          go_upto_region 35 with (go_at_call 20; refine (C34.out _).mono ?_; clear C34; rintro e w' ⟨rfl, n34, rfl⟩)
          obtain ⟨wc, hwc⟩ : ∃ wc, wc = wb.drewN n34 := ⟨_, rfl⟩
          have HWc := hide (show Below w.heap.size w wc by rw [hwc]; exact bdrewN HWb.out _)
          rw [← hwc]
          clear hwc HWb
          have hw1 := HW1.out
          have hw2 := HW2.out
          cases h3 : (single.order s 1065353216 == some .gt || single.order s 1065353216 == some .eq)
          · have hgr := HS3.out.resolve_left (by rw [h3]; simp)
            have ht3 : (FloatKind.f32.format.order s 1065353216 == some .gt || FloatKind.f32.format.order s 1065353216 == some .eq) = false := h3
            obtain ⟨h2, b, l, nn, d, g2, f1, f2, f3, f4, f5, f6, f7, f8, f9, f10, f11⟩ := hgr
            have C39 := hide (fun W => impl_GrowthAt Cc Oo s W)
            rw [f2] at C39
            have C40 := hide (fun W => impl_GrowthAt Cc Oo h2 W)
            rw [f3] at C40
            have C41 := hide (fun W => impl_GrowthAt Cc Oo 0 W)
            rw [f4] at C41
            obtain ⟨bo, hbo⟩ := ex_eq (gaOut Cc Oo s)
            rw [hbo] at C39 f5
            obtain ⟨lo, hlo⟩ := ex_eq (gaOut Cc Oo h2)
            rw [hlo] at C40 f6
            obtain ⟨no, hno⟩ := ex_eq (gaOut Cc Oo 0)
            rw [hno] at C41 f7
            have CG2 := hide (fun W => gap_any f10 W)
            have r40 : ∀ w, (binOp .quo 25 (.float .f32 s) (.float .f32 1073741824)).run Try.prog w = .ok (.float .f32 h2) w := fun w => run_float_arith (P := Try.prog) w .quo 25 .f32 _ _ _ f1
            have k1 : ∀ w, (convert 25 29 (.float .f32 bo)).run Try.prog w = .ok (.float .f64 b) w := fun w => run_convert_float_float (P := Try.prog) w 25 29 .f32 .f64 _ _ (by rw [Try.underlying25]; rfl) Try.underlying29 f5
            have k2 : ∀ w, (convert 25 29 (.float .f32 lo)).run Try.prog w = .ok (.float .f64 l) w := fun w => run_convert_float_float (P := Try.prog) w 25 29 .f32 .f64 _ _ (by rw [Try.underlying25]; rfl) Try.underlying29 f6
            have k3 : ∀ w, (convert 25 29 (.float .f32 no)).run Try.prog w = .ok (.float .f64 nn) w := fun w => run_convert_float_float (P := Try.prog) w 25 29 .f32 .f64 _ _ (by rw [Try.underlying25]; rfl) Try.underlying29 f7
            have r42 : ∀ w, (binOp .sub 29 (.float .f64 l) (.float .f64 4562254508917369340)).run Try.prog w = .ok (.float .f64 d) w := fun w => run_float_arith (P := Try.prog) w .sub 29 .f64 _ _ _ f8
            have hd1 : (FloatKind.f64.format.order b d == some .gt) = true := f9
            have hd2 : (FloatKind.f64.format.order g2 4562254508917369340 == some .lt) = true := f11
            clear h3 f1 f2 f3 f4 f5 f6 f7 f8 f9 f10 f11 hbo hlo hno HS3
            go_upto_region 37 with (go_at_call 49; refine (CG.out _).mono ?_; clear CG; rintro e w' ⟨rfl, rfl⟩)
            clear hw1 hw2 hg1 ht1 ht2
            go_upto_region 40 with (go_at_call 22; refine (C39.out _).mono ?_; clear C39; rintro e w' ⟨rfl, n39, rfl⟩)
            go_upto_region 41 with (go_at_call 22; refine (C40.out _).mono ?_; clear C40; rintro e w' ⟨rfl, n40, rfl⟩)
            go_upto_region 42 with (go_at_call 22; refine (C41.out _).mono ?_; clear C41; rintro e w' ⟨rfl, n41, rfl⟩)
            go_wp2_with (go_at_call 49; refine (CG2.out _).mono ?_; clear CG2; rintro e w' ⟨rfl, rfl⟩)
            go_ret
            first
              | exact ⟨rfl, bdrewN HWc.out _⟩
              | exact ⟨rfl, bdrewN (bdrewN (bdrewN HWc.out _) _) _⟩
          · have ht3 : (FloatKind.f32.format.order s 1065353216 == some .gt || FloatKind.f32.format.order s 1065353216 == some .eq) = true := h3
            clear h3 HS3
            go_upto_region 37 with (go_at_call 49; refine (CG.out _).mono ?_; clear CG; rintro e w' ⟨rfl, rfl⟩)
            clear hw1 hw2 hg1 ht1 ht2
            go_wp2
            go_ret
            exact ⟨rfl, HWc.out⟩

end Go.Proofs.Ytlfffkjgepgcfaa.chance
