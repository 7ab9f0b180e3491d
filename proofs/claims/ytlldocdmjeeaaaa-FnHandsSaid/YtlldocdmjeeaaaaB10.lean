/-
  What the statements of hands ask before all else: numbers from bytes, and cards that are drawn. Conditions: those of each theorem.
-/
import Derived.Test.YtlldocdmjeeaaaaSrc
import Derived.Test.YtlldocdmjeeaaaaWinP
namespace Go.Proofs.Ytlldocdmjeeaaaa.hand
open Go.RowKit
open base mem

/-! ### the next card that is free -/
def dist (out : List Int) : Nat → Nat → Nat
  | 0, _ => 0
  | f + 1, q => if hasB out (q : Int) = true then 1 + dist out f ((q + 1) % 52) else 0
theorem dist_succ (out : List Int) (f q : Nat) : dist out (f + 1) q = if hasB out (q : Int) = true then 1 + dist out f ((q + 1) % 52) else 0 := rfl
theorem dist_same (out : List Int) : ∀ (f q d : Nat), q < 52 → d < f → hasB out (((q + d) % 52 : Nat) : Int) = false → dist out (f + 1) q = dist out f q
  | 0, _, _, _, h, _ => absurd h (Nat.not_lt_zero _)
  | f + 1, q, d, hq, hd, hf => by
    rw [dist_succ out (f + 1) q, dist_succ out f q]
    by_cases h : hasB out (q : Int) = true
    · rw [if_pos h, if_pos h]
      have hd0 : d ≠ 0 := by
        rintro rfl
        rw [Nat.add_zero, Nat.mod_eq_of_lt hq, h] at hf
        cases hf
      rw [dist_same out f ((q + 1) % 52) (d - 1) (Nat.mod_lt _ (by decide)) (by omega) (by
        have : ((q + 1) % 52 + (d - 1)) % 52 = (q + d) % 52 := by omega
        rw [this]
        exact hf)]
    · rw [if_neg h, if_neg h]
theorem free_some {out : List Int} (hl : out.length < 52) (q : Nat) : ∃ d, d < 52 ∧ hasB out (((q + d) % 52 : Nat) : Int) = false := by
  by_cases h : ∃ d, d < 52 ∧ hasB out (((q + d) % 52 : Nat) : Int) = false
  · exact h
  · exfalso
    have hs : nums52 ⊆ out := by
      intro x hx
      unfold nums52 at hx
      obtain ⟨y, hy, rfl⟩ := List.mem_map.1 hx
      rw [List.mem_range] at hy
      have h1 : ¬ hasB out (((q + (y + 52 - q % 52) % 52) % 52 : Nat) : Int) = false := fun h2 => h ⟨(y + 52 - q % 52) % 52, Nat.mod_lt _ (by decide), h2⟩
      have h2 : (q + (y + 52 - q % 52) % 52) % 52 = y := by omega
      rw [h2] at h1
      have h3 : hasB out (y : Int) = true := by cases hh : hasB out (y : Int) with
        | false => exact absurd hh h1
        | true => rfl
      exact of_decide_eq_true h3
    have := List.Nodup.length_le_of_subset nums_nodup hs
    have h52 : nums52.length = 52 := by decide
    omega
theorem dist_less {out : List Int} (hl : out.length < 52) {q : Nat} (hq : q < 52) (h : hasB out (q : Int) = true) : dist out 52 ((q + 1) % 52) < dist out 52 q := by
  obtain ⟨d, hd, hf⟩ := free_some hl q
  have hd0 : d ≠ 0 := by
    rintro rfl
    rw [Nat.add_zero, Nat.mod_eq_of_lt hq, h] at hf
    cases hf
  have h1 := dist_same out 51 ((q + 1) % 52) (d - 1) (Nat.mod_lt _ (by decide)) (by omega) (by
    have : ((q + 1) % 52 + (d - 1)) % 52 = (q + d) % 52 := by omega
    rw [this]
    exact hf)
  rw [h1, dist_succ out 51 q, if_pos h]
  omega
theorem fine_push {out : List Int} {q : Nat} (hf : Fine out) (hq : q < 52) (h : hasB out (q : Int) = false) : Fine (out ++ [(q : Int)]) := by
  refine fine_join hf ⟨by simp, fun x hx => by simp at hx; subst hx; omega⟩ ?_
  intro x hx hq2
  simp at hq2
  subst hq2
  exact hasB_false h hx
/-! ### the words of the statements -/
theorem b10Long_any (A A2 : Option Addr) (n c n2 c2 : Nat) (w : World) (hn : n ≤ 1048576) (hn2 : n2 ≤ 1048576) :
    Calls Try.prog 46 #[.slice A n c, .slice A2 n2 c2] w fun e w' => e = .returned (.bool false) ∧ w = w' := by
  have d1 : decide ((1048576 : Int) < (n : Int)) = false := decide_eq_false (by omega)
  have d2 : decide ((1048576 : Int) < (n2 : Int)) = false := decide_eq_false (by omega)
  go_enter Try.func46, Try.ntmps46
  go_wp2
  go_ret
  exact ⟨by simp, rfl⟩
theorem b10At_any (A : Option Addr) (n c : Nat) (zs : List Int) (B : Nat) (i m : Nat) (w : World) (hY : RdY w B A n zs) (_hn : n ≤ 1048576) (hi : i ≤ 1000) (hm : m ≤ 1000) (hm1 : 2 ≤ m) :
    Calls Try.prog 47 #[.slice A n c, .int .i64 (i : Int), .int .i64 (m : Int)] w fun e w' => ∃ r : Nat, e = .returned (.int .i64 (r : Int)) ∧ r < m ∧ w = w' := by
  have hm0 : ¬ (m : Int) = 0 := by omega
  by_cases hlt : i < n
  · obtain ⟨b, o, x, rfl, hbB, hc, hx⟩ := hY.at_ hlt
    clear hY
    go_enter Try.func47, Try.ntmps47
    go_wp2
    go_ret
    exact ⟨x % m, by rw [← mod_nat]; rfl, Nat.mod_lt _ (by omega), rfl⟩
  · clear hY
    go_enter Try.func47, Try.ntmps47
    go_wp2
    go_ret
    exact ⟨(i * 37 + 11) % m, by rw [← mod_nat]; simp, Nat.mod_lt _ (by omega), rfl⟩

theorem getD_mem0 {xs : List Int} {i : Nat} (h : i < xs.length) : xs.getD i 0 ∈ xs := by
  have : xs.getD i 0 = xs[i] := by simp [List.getD, h]
  rw [this]
  exact List.getElem_mem h
theorem grown_cell {w w' : World} {row : Option Nat} (h : w.grownBy w' row) {p : Addr} (hp : p.block < w.heap.size) (hn : some p.block ≠ row) : w'.cell? p = w.cell? p := by
  have := h.block p.block hp hn
  unfold World.cell?
  rw [this]
theorem l00Has_of {W : World} {B : Nat} {v : Value} {out : List Int} {k : Nat} (ho : Lst W B v out) (hk : out.length = k) (x : Int) (hk2 : k ≤ 1000 := by omega) :
    Calls Try.prog 64 #[v, .int .i64 x] W fun e w' => e = .returned (.bool (hasB out x)) ∧ W = w' := by
  obtain ⟨A, c, rfl, h⟩ := ho.formn hk
  exact l00Has_any A k c out x W.heap.size W h.rd (by omega)
theorem keep_list {w1 w2 : World} {B gs : Nat} {v : Value} {xs : List Int} (h : Lst w1 B v xs) (hg : w1.grownBy w2 (some gs)) (hlt : gs < B) : Lst w2 B v xs := h.kept hg (by
  cases hv : v.ownBlock with
  | none => exact .inl rfl
  | some k =>
    refine .inr fun e => ?_
    have := (h.blk k hv).1
    have := Option.some.inj e
    omega)
/-- where the draw of cards stands -/
structure DC (w wr : World) (A : Option Addr) (n c k : Nat) (v : Value) (out : List Int) : Prop where
  lst : Lst wr (w.heap.size + 1) v out
  len : out.length = k
  fine : Fine out
  src : ∃ a : Nat, a ≤ 3 * k ∧ Sr wr w.heap.size A n c a
  below : Below w.heap.size w wr

def lenV : Value → Nat
  | .slice _ n _ => n
  | _ => 0
set_option maxRecDepth 20000 in
set_option maxHeartbeats 8000000 in
theorem B10Cards_any (A : Option Addr) (n c : Nat) (zs : List Int) (m : Nat) (w : World) (hY : RdY w w.heap.size A n zs) (hn : n ≤ 1048576) (hm : m ≤ 40) :
    Calls Try.prog 48 #[.slice A n c, .int .i64 (m : Int)] w fun e w' => ∃ A' c' out, e = .returned (.slice A' m c') ∧ Own w' w.heap.size A' m c' out ∧ Fine out ∧ Below w.heap.size w w' := by
  have HY := hide (fun W (hb : Below w.heap.size w W) => hY.below hb)
  clear hY
  go_enter Try.func48, Try.ntmps48
  go_upto_region 2 with (go_at_call 83; refine (srcFrom_any A n c w).mono ?_; rintro e w1 ⟨rfl, hS1, hb1, hz1⟩)
  have HD0 := hide (show DC w (w1.alloc (.cells #[] 2)) A n c 0 (.slice (some ⟨w1.heap.size, 0, none⟩) 0 0) [] from ⟨Lst.new w1 (by omega), rfl, ⟨List.Pairwise.nil, fun x hx => by cases hx⟩, ⟨0, by omega, by obtain ⟨s, hs⟩ := hS1; exact ⟨s, hs.alloc _⟩⟩, hb1.alloc hb1.size _⟩)
  clear hS1 hb1 hz1
  go_wp2
  go_loopw [6] (fun v wr => ∃ (k : Nat) (out : List Int), k ≤ m ∧ DC w wr A n c k v out) (fun v _ => m - lenV v)
  case atStart => exact ⟨0, [], Nat.zero_le _, HD0.out⟩
  case round =>
    obtain ⟨k, out, hk, hD⟩ := hrel
    clear HD0
    obtain ⟨A5, c5, rfl, ho5⟩ := hD.lst.formn hD.len
    by_cases hlt : k < m
    · obtain ⟨a, ha, hSr⟩ := hD.src
      have HP := hide (srcPick_any w.heap.size A n c a zs w.heap.size 52 wr (HY.out wr hD.below) hn (by omega) hSr (by omega) (by omega))
      have HD := hide hD
      clear hD ho5 hSr
      go_upto_region 5 with (go_at_call 84; refine HP.out.mono ?_; rintro e w2 ⟨r, rfl, hr, hS2, hg2⟩)
      have hb2 : Below w.heap.size w w2 := HD.out.below.grown hg2 HD.out.below.size (fun q hq => by have := Option.some.inj hq; omega)
      have hl2 : Lst w2 (w.heap.size + 1) (.slice A5 k c5) out := keep_list HD.out.lst hg2 (by omega)
      have HO := hide (srcOne_any w.heap.size A n c (a + 1) zs w.heap.size 3 w2 (HY.out w2 hb2) hn (by omega) hS2 (by omega) (by omega))
      have HB2 := hide hb2
      have HL2 := hide hl2
      clear hb2 hl2 hg2 hS2
      by_cases hk0 : k = 0
      · subst hk0
        go_wp2_with (go_at_call 85; refine HO.out.mono ?_; rintro e w3 ⟨b, rfl, hS3, hg3⟩; cases b)
        all_goals
          have hb3 : Below w.heap.size w w3 := HB2.out.grown hg3 HB2.out.size (fun q hq => by have := Option.some.inj hq; omega)
          have hl3 : Lst w3 (w.heap.size + 1) (.slice A5 0 c5) out := keep_list HL2.out hg3 (by omega)
          have HB3 := hide hb3
          have HL3 := hide hl3
          have HS3 := hide hS3
          clear hb3 hl3 hg3 hS3
          go_loop [7] (fun cv => ∃ q : Nat, q < 52 ∧ cv = .int .i64 (q : Int)) (fun cv => dist out 52 (intOf cv).toNat)
          case atStart => exact ⟨r, hr, rfl⟩
          case round =>
            obtain ⟨q, hq, rfl⟩ := hrel
            have HH := hide (l00Has_of HL3.out HD.out.len (q : Int))
            cases hh : hasB out (q : Int)
            · have HFP := hide (fine_push HD.out.fine hq hh)
              rw [hh] at HH
              have hzz := HB3.out.size
              have HLN := hide (show (out ++ [(q : Int)]).length = 0 + 1 by rw [List.length_append, HD.out.len]; rfl)
              have hl40 : out.length ≤ 1000 := by rw [HD.out.len]; omega
              have hgw := (HL3.out.blk)
              have HGW := hide hgw
              have hlz : w.heap.size + 1 ≤ w3.heap.size := by
                obtain ⟨s, hs⟩ := HS3.out
                exact hs.lt
              clear hh hgw
              go_wp2_with (first | (go_at_call 64; refine HH.out.mono ?_; rintro e w' ⟨rfl, rfl⟩) | (at_builtin; refine wpList_app rfl (.tmp 38) (.tmp 40) rfl (w.heap.size + 1) (.slice A5 0 c5) out [(q : Int)] rfl (HL3.out.alloc _) (some ⟨w3.heap.size, 0, none⟩) 1 1 rfl (rd_one w3 (q : Int) 2) (fun h => by cases h) (by omega) (by simp; omega) ?_; intro v4 w4 ho4 hg4 _; have hb4 : Below w.heap.size w w4 := (HB3.out.alloc hzz _).trans ((Lst.grown (HL3.out.alloc _) hg4 (by simp; omega)).mono (by omega)); have hs4 : Sr w4 w.heap.size A n c (a + 1 + 1) := (by obtain ⟨s, hs⟩ := HS3.out; exact ⟨s, (hs.alloc _).grown hg4 (fun e => by have := (HGW.out _ e.symm).1; omega)⟩); obtain ⟨A6, c6, rfl, _⟩ := ho4.formn HLN.out))
              have HD4 := hide (show DC w w4 A n c (0 + 1) (.slice A6 (0 + 1) c6) (out ++ [(q : Int)]) from ⟨ho4, HLN.out, HFP.out, ⟨a + 1 + 1, by omega, hs4⟩, hb4⟩)
              clear ho4 hg4 hb4 hs4
              go_roundw
              case rel => exact ⟨0 + 1, _, by omega, HD4.out⟩
              case measure => simp [lenV] <;> omega
            · have hdl := dist_less (out := out) (by rw [HD.out.len]; omega) hq hh
              have HDL := hide hdl
              rw [hh] at HH
              clear hh hdl
              go_wp2_with (go_at_call 64; refine HH.out.mono ?_; rintro e w' ⟨rfl, rfl⟩)
              go_round
              case rel => exact ⟨(q + 1) % 52, Nat.mod_lt _ (by decide), congrArg (Value.int .i64) (by omega)⟩
              case measure =>
                simp only [intOf]
                rw [show (((q : Int) + 1) % 52).toNat = (q + 1) % 52 by omega, Int.toNat_natCast]
                exact HDL.out
      · have dk : decide (0 < k) = true := decide_eq_true (by omega)
        have hx0 := HD.out.fine.2 (out.getD 0 0) (getD_mem0 (by rw [HD.out.len]; omega))
        obtain ⟨x0, hx0e⟩ : ∃ x0 : Nat, out.getD 0 0 = (x0 : Int) := ⟨(out.getD 0 0).toNat, by omega⟩
        rw [hx0e] at hx0
        have HX0 := hide hx0e
        clear hx0e
        go_wp2_with (go_at_call 85; refine HO.out.mono ?_; rintro e w3 ⟨b, rfl, hS3, hg3⟩; cases b)
        · have hb3 : Below w.heap.size w w3 := HB2.out.grown hg3 HB2.out.size (fun q hq => by have := Option.some.inj hq; omega)
          have hl3 : Lst w3 (w.heap.size + 1) (.slice A5 k c5) out := keep_list HL2.out hg3 (by omega)
          have HB3 := hide hb3
          have HL3 := hide hl3
          have HS3 := hide hS3
          clear hb3 hl3 hg3 hS3
          go_loop [7] (fun cv => ∃ q : Nat, q < 52 ∧ cv = .int .i64 (q : Int)) (fun cv => dist out 52 (intOf cv).toNat)
          case atStart => exact ⟨r, hr, rfl⟩
          case round =>
            obtain ⟨q, hq, rfl⟩ := hrel
            have HH := hide (l00Has_of HL3.out HD.out.len (q : Int))
            cases hh : hasB out (q : Int)
            · have HFP := hide (fine_push HD.out.fine hq hh)
              rw [hh] at HH
              have hzz := HB3.out.size
              have HLN := hide (show (out ++ [(q : Int)]).length = k + 1 by rw [List.length_append, HD.out.len]; rfl)
              have hl40 : out.length ≤ 1000 := by rw [HD.out.len]; omega
              have hgw := (HL3.out.blk)
              have HGW := hide hgw
              have hlz : w.heap.size + 1 ≤ w3.heap.size := by
                obtain ⟨s, hs⟩ := HS3.out
                exact hs.lt
              clear hh hgw
              go_wp2_with (first | (go_at_call 64; refine HH.out.mono ?_; rintro e w' ⟨rfl, rfl⟩) | (at_builtin; refine wpList_app rfl (.tmp 38) (.tmp 40) rfl (w.heap.size + 1) (.slice A5 k c5) out [(q : Int)] rfl (HL3.out.alloc _) (some ⟨w3.heap.size, 0, none⟩) 1 1 rfl (rd_one w3 (q : Int) 2) (fun h => by cases h) (by omega) (by simp; omega) ?_; intro v4 w4 ho4 hg4 _; have hb4 : Below w.heap.size w w4 := (HB3.out.alloc hzz _).trans ((Lst.grown (HL3.out.alloc _) hg4 (by simp; omega)).mono (by omega)); have hs4 : Sr w4 w.heap.size A n c (a + 1 + 1) := (by obtain ⟨s, hs⟩ := HS3.out; exact ⟨s, (hs.alloc _).grown hg4 (fun e => by have := (HGW.out _ e.symm).1; omega)⟩); obtain ⟨A6, c6, rfl, _⟩ := ho4.formn HLN.out))
              have HD4 := hide (show DC w w4 A n c (k + 1) (.slice A6 (k + 1) c6) (out ++ [(q : Int)]) from ⟨ho4, HLN.out, HFP.out, ⟨a + 1 + 1, by omega, hs4⟩, hb4⟩)
              clear ho4 hg4 hb4 hs4
              go_roundw
              case rel => exact ⟨k + 1, _, by omega, HD4.out⟩
              case measure => simp [lenV] <;> omega
            · have hdl := dist_less (out := out) (by rw [HD.out.len]; omega) hq hh
              have HDL := hide hdl
              rw [hh] at HH
              clear hh hdl
              go_wp2_with (go_at_call 64; refine HH.out.mono ?_; rintro e w' ⟨rfl, rfl⟩)
              go_round
              case rel => exact ⟨(q + 1) % 52, Nat.mod_lt _ (by decide), congrArg (Value.int .i64) (by omega)⟩
              case measure =>
                simp only [intOf]
                rw [show (((q : Int) + 1) % 52).toNat = (q + 1) % 52 by omega, Int.toNat_natCast]
                exact HDL.out
        · have hb3' : Below w.heap.size w w3 := HB2.out.grown hg3 HB2.out.size (fun q hq => by have := Option.some.inj hq; omega)
          have hl3' : Lst w3 (w.heap.size + 1) (.slice A5 k c5) out := keep_list HL2.out hg3 (by omega)
          have HP4 := hide (srcPick_any w.heap.size A n c (a + 1 + 1) zs w.heap.size 4 (w3.drewN 1) ((HY.out w3 hb3').drewN 1) hn (by omega) (by obtain ⟨s, hs⟩ := hS3; exact ⟨s, hs.drewN 1⟩) (by omega) (by omega))
          obtain ⟨a5, b5, e5, ho5⟩ := hl3'.formn HD.out.len
          obtain ⟨rfl, rfl⟩ : A5 = a5 ∧ c5 = b5 := by simpa using e5
          obtain ⟨g5, rfl, hg51, hg52⟩ := ho5.form (by omega)
          have hc5 := World.ownsRow.cellAt (h := ho5) 0 (by omega)
          rw [ivs_at _ _ (by rw [HD.out.len]; omega), HX0.out] at hc5
          have hk1 : 0 < k := by omega
          have HB3' := hide hb3'
          have HL3' := hide hl3'
          clear hb3' hl3' ho5 e5 hS3
          go_upto_region 6 with fail
          go_cut [7] from 24 to 31 (fun cv wx => ∃ q : Nat, cv = .int .i64 (q : Int) ∧ q < 52 ∧ Sr wx w.heap.size A n c (a + 1 + 1 + 1) ∧ (w3.drewN 1).grownBy wx (some w.heap.size))
          case first =>
            go_region_law (go_simp; go_at_call 84; refine HP4.out.mono ?_; rintro e w5 ⟨r4, rfl, hr4, hS5, hg5⟩; have hc5' : w5.cell? ⟨g5, 0, none⟩ = some (.int .i64 (x0 : Int)) := (grown_cell hg5 (show g5 < w3.heap.size from hg52) (fun e => absurd (Option.some.inj e) (show g5 ≠ w.heap.size by omega))).trans hc5; have hw1 : IntKind.i64.wrap (13 * (r4 : Int)) = 13 * (r4 : Int) := IntWalk.i64_in _ ⟨by omega, by omega⟩; have hw2 : IntKind.i64.wrap ((x0 : Int) + 13 * (r4 : Int)) = (x0 : Int) + 13 * (r4 : Int) := IntWalk.i64_in _ ⟨by omega, by omega⟩; have hw3 : ((x0 : Int) + 13 * (r4 : Int)).tmod 52 = (((x0 + 13 * r4) % 52 : Nat) : Int) := by rw [Int.tmod_eq_emod_of_nonneg (by omega)]; omega)
            all_goals
              clear hc5' hw1 hw2 hw3
              go_wp2_with fail
              go_meet
              case rel => exact ⟨(x0 + 13 * r4) % 52, congrArg (Value.int .i64) (by omega), Nat.mod_lt _ (by decide), hS5, hg5⟩
          case rest =>
            obtain ⟨q7, rfl, hq7, hS5, hg3⟩ := hcut
            have HB2 := hide (bdrewN HB3'.out 1)
            have HL2 := hide (HL3'.out.drewN 1)
            clear hc5
            go_wp2
            have hb3 : Below w.heap.size w wc := HB2.out.grown hg3 HB2.out.size (fun q hq => by have := Option.some.inj hq; omega)
            have hl3 : Lst wc (w.heap.size + 1) (.slice (some ⟨g5, 0, none⟩) k c5) out := keep_list HL2.out hg3 (by omega)
            have HB3 := hide hb3
            have HL3 := hide hl3
            have HS3 := hide hS5
            clear hb3 hl3 hg3 hS5
            go_loop [7] (fun cv => ∃ q : Nat, q < 52 ∧ cv = .int .i64 (q : Int)) (fun cv => dist out 52 (intOf cv).toNat)
            case atStart => exact ⟨q7, hq7, rfl⟩
            case round =>
              obtain ⟨q, hq, rfl⟩ := hrel
              have HH := hide (l00Has_of HL3.out HD.out.len (q : Int))
              cases hh : hasB out (q : Int)
              · have HFP := hide (fine_push HD.out.fine hq hh)
                rw [hh] at HH
                have hzz := HB3.out.size
                have HLN := hide (show (out ++ [(q : Int)]).length = k + 1 by rw [List.length_append, HD.out.len]; rfl)
                have hl40 : out.length ≤ 1000 := by rw [HD.out.len]; omega
                have hgw := (HL3.out.blk)
                have HGW := hide hgw
                have hlz : w.heap.size + 1 ≤ wc.heap.size := by
                  obtain ⟨s, hs⟩ := HS3.out
                  exact hs.lt
                clear hh hgw
                go_wp2_with (first | (go_at_call 64; refine HH.out.mono ?_; rintro e w' ⟨rfl, rfl⟩) | (at_builtin; refine wpList_app rfl (.tmp 38) (.tmp 40) rfl (w.heap.size + 1) (.slice (some ⟨g5, 0, none⟩) k c5) out [(q : Int)] rfl (HL3.out.alloc _) (some ⟨wc.heap.size, 0, none⟩) 1 1 rfl (rd_one wc (q : Int) 2) (fun h => by cases h) (by omega) (by simp; omega) ?_; intro v4 w4 ho4 hg4 _; have hb4 : Below w.heap.size w w4 := (HB3.out.alloc hzz _).trans ((Lst.grown (HL3.out.alloc _) hg4 (by simp; omega)).mono (by omega)); have hs4 : Sr w4 w.heap.size A n c (a + 1 + 1 + 1) := (by obtain ⟨s, hs⟩ := HS3.out; exact ⟨s, (hs.alloc _).grown hg4 (fun e => by have := (HGW.out _ e.symm).1; omega)⟩); obtain ⟨A6, c6, rfl, _⟩ := ho4.formn HLN.out))
                have HD4 := hide (show DC w w4 A n c (k + 1) (.slice A6 (k + 1) c6) (out ++ [(q : Int)]) from ⟨ho4, HLN.out, HFP.out, ⟨a + 1 + 1 + 1, by omega, hs4⟩, hb4⟩)
                clear ho4 hg4 hb4 hs4
                go_roundw
                case rel => exact ⟨k + 1, _, by omega, HD4.out⟩
                case measure => simp [lenV] <;> omega
              · have hdl := dist_less (out := out) (by rw [HD.out.len]; omega) hq hh
                have HDL := hide hdl
                rw [hh] at HH
                clear hh hdl
                go_wp2_with (go_at_call 64; refine HH.out.mono ?_; rintro e w' ⟨rfl, rfl⟩)
                go_round
                case rel => exact ⟨(q + 1) % 52, Nat.mod_lt _ (by decide), congrArg (Value.int .i64) (by omega)⟩
                case measure =>
                  simp only [intOf]
                  rw [show (((q : Int) + 1) % 52).toNat = (q + 1) % 52 by omega, Int.toNat_natCast]
                  exact HDL.out
    · obtain rfl : k = m := by omega
      have HB := hide hD.below
      have HF := hide hD.fine
      have HO := hide (ho5.mono (Nat.le_succ w.heap.size))
      clear hD ho5
      go_wp2
      go_ret
      exact ⟨A5, c5, out, rfl, HO.out, HF.out, HB.out⟩

end Go.Proofs.Ytlldocdmjeeaaaa.hand
