/-
  Who is best with a board of five, in the implementation. Conditions: those of each theorem.
-/
import Derived.Test.YtlldocdmjeeaaaaLeft
import Derived.Test.YtlldocdmjeeaaaaConcat
namespace Go.Proofs.Ytlldocdmjeeaaaa.hand
open Go.RowKit
open base mem grid

/-! ### in numbers alone -/
/-- the values of hands with a board -/
def valsW (pss : List (List Int)) (full : List Int) : List Int := pss.map fun p => (bestL (p ++ full)).2
theorem valsW_len (pss : List (List Int)) (full : List Int) : (valsW pss full).length = pss.length := by simp [valsW]
theorem valsW_take {pss : List (List Int)} {full : List Int} {k : Nat} (hk : k < pss.length) : valsW (pss.take (k + 1)) full = valsW (pss.take k) full ++ [(bestL (pss.getD k [] ++ full)).2] := by
  have e : pss.getD k [] = pss[k] := by simp [List.getD, hk]
  unfold valsW
  rw [List.take_succ_eq_append_getElem hk, List.map_append, e]
  rfl
/-- how many of the first k are M -/
def cntV (vs : List Int) (M : Int) (k : Nat) : Nat := (vs.take k).countP (· == M)
theorem cntV_step {vs : List Int} {M : Int} {k : Nat} (hk : k < vs.length) : cntV vs M (k + 1) = cntV vs M k + if vs.getD k 0 = M then 1 else 0 := by
  have e : vs.getD k 0 = vs[k] := by simp [List.getD, hk]
  unfold cntV
  rw [List.take_succ_eq_append_getElem hk, List.countP_append, e]
  by_cases h : vs[k] = M
  · simp [h]
  · simp [h]
theorem cntV_le (vs : List Int) (M : Int) (k : Nat) : cntV vs M k ≤ k := Nat.le_trans List.countP_le_length (by rw [List.length_take]; omega)
/-- one more for each of the first k that is M -/
def addT (G vs : List Int) (M : Int) (b : Bool) : Nat → List Int
  | 0 => G
  | k + 1 => if vs.getD k 0 = M ∧ b = true then (addT G vs M b k).set k (wrap64 ((addT G vs M b k).getD k 0 + 1)) else addT G vs M b k
theorem addT_len (G vs : List Int) (M : Int) (b : Bool) (k : Nat) : (addT G vs M b k).length = G.length := by
  induction k with
  | zero => rfl
  | succ k ih => unfold addT; split <;> simp [ih]
theorem addT_later (G vs : List Int) (M : Int) (b : Bool) (k : Nat) : ∀ i, k ≤ i → (addT G vs M b k).getD i 0 = G.getD i 0 := by
  induction k with
  | zero => intro i _; rfl
  | succ k ih =>
    intro i hi
    unfold addT
    split
    · have h : (addT G vs M b k).getD i 0 = G.getD i 0 := ih i (by omega)
      rw [← h]
      have hne : k ≠ i := by omega
      simp [List.getD, List.getElem?_set_ne hne]
    · exact ih i (by omega)
/-- what is counted for a board: wins and ties -/
def meetW (pss : List (List Int)) (full ws : List Int) : List Int := addT ws (valsW pss full) (maxT (valsW pss full) (pss.length - 1)) (cntV (valsW pss full) (maxT (valsW pss full) (pss.length - 1)) pss.length == 1) pss.length
def meetT (pss : List (List Int)) (full tis : List Int) : List Int := addT tis (valsW pss full) (maxT (valsW pss full) (pss.length - 1)) (!(cntV (valsW pss full) (maxT (valsW pss full) (pss.length - 1)) pss.length == 1)) pss.length
theorem meetW_len (pss : List (List Int)) (full ws : List Int) : (meetW pss full ws).length = ws.length := addT_len _ _ _ _ _
theorem meetT_len (pss : List (List Int)) (full ws : List Int) : (meetT pss full ws).length = ws.length := addT_len _ _ _ _ _
/-- everything that lay below stays, but for two blocks -/
structure Two (w w' : World) (g h : Nat) : Prop where
  os : w'.os = w.os
  tape : w'.tape = w.tape
  output : w'.output = w.output
  size : w.heap.size ≤ w'.heap.size
  block : ∀ k, k < w.heap.size → k ≠ g → k ≠ h → w'.heap[k]? = w.heap[k]?
section
variable {w w' w1 : World} {g h : Nat}
theorem Two.of (hb : Below w.heap.size w w') : Two w w' g h := ⟨hb.os, hb.tape, hb.output, hb.size, fun k hk _ _ => hb.block k hk⟩
theorem Two.trans (h1 : Two w w1 g h) (h2 : Two w1 w' g h) : Two w w' g h :=
  ⟨h2.os.trans h1.os, h2.tape.trans h1.tape, h2.output.trans h1.output, Nat.le_trans h1.size h2.size, fun k hk a b => (h2.block k (Nat.lt_of_lt_of_le hk h1.size) a b).trans (h1.block k hk a b)⟩
theorem Two.set1 (w : World) (i : Nat) (v : Value) : Two w (w.setCell ⟨g, i, none⟩ v) g h := ⟨rfl, rfl, rfl, by simp, fun k _ a _ => heap_setCell_other w ⟨g, i, none⟩ k v a⟩
theorem Two.set2 (w : World) (i : Nat) (v : Value) : Two w (w.setCell ⟨h, i, none⟩ v) g h := ⟨rfl, rfl, rfl, by simp, fun k _ _ a => heap_setCell_other w ⟨h, i, none⟩ k v a⟩
theorem Two.drewN (q : Nat) : Two w (w.drewN q) g h := Two.of (bdrewN (Below.refl _ _) q)
theorem Two.below {B : Nat} (ht : Two w w' g h) (hg : B ≤ g) (hh : B ≤ h) (hB : B ≤ w.heap.size) : Below B w w' := ⟨ht.os, ht.tape, ht.output, ht.size, fun k hk => ht.block k (by omega) (by omega) (by omega)⟩
end

theorem rdS_two (w : World) (A : Option Addr) (n c : Nat) (xs : List Int) (A2 : Option Addr) (n2 c2 : Nat) (ys : List Int) (hR : Rd w w.heap.size A n xs) (hnc : n ≤ c) (hA : A = none → c = 0) (hR2 : Rd w w.heap.size A2 n2 ys) (hnc2 : n2 ≤ c2) (hA2 : A2 = none → c2 = 0) :
    deck.RdS (w.alloc (.cells #[.slice A n c, .slice A2 n2 c2] 22)) (w.alloc (.cells #[.slice A n c, .slice A2 n2 c2] 22)).heap.size (some ⟨w.heap.size, 0, none⟩) 2 [⟨A, n, c, xs⟩, ⟨A2, n2, c2, ys⟩] := by
  refine ⟨rfl, fun t ht => ?_, fun _ => ⟨w.heap.size, 0, rfl, by simp, fun i t ht => ?_⟩⟩
  · simp at ht
    rcases ht with rfl | rfl
    · exact ⟨(hR.alloc (Nat.le_refl _) _).more (by simp), hnc, hA⟩
    · exact ⟨(hR2.alloc (Nat.le_refl _) _).more (by simp), hnc2, hA2⟩
  · have hi : i < 2 := by have := (List.getElem?_eq_some_iff.1 ht).1; simpa using this
    have hh := cell_of_row (w.alloc (.cells #[.slice A n c, .slice A2 n2 c2] 22)) w.heap.size i #[.slice A n c, .slice A2 n2 c2] 22 (0, 0) (heap_alloc_new w _)
    rw [Nat.zero_add, hh]
    obtain rfl | rfl : i = 0 ∨ i = 1 := by omega
    · simp at ht; subst ht; rfl
    · simp at ht; subst ht; rfl
theorem valsW_all {pss : List (List Int)} {full : List Int} {k : Nat} (h : pss.length = k) : valsW (pss.take k) full = valsW pss full := by rw [List.take_of_length_le (by omega)]
theorem addT_step (G vs : List Int) (M : Int) (b : Bool) (k : Nat) : addT G vs M b (k + 1) = if vs.getD k 0 = M ∧ b = true then (addT G vs M b k).set k (wrap64 ((addT G vs M b k).getD k 0 + 1)) else addT G vs M b k := rfl
set_option maxRecDepth 100000 in
set_option maxHeartbeats 4000000 in
theorem judge_any (A : Option Addr) (m c : Nat) (ts : List Sl) (pss : List (List Int)) (A2 : Option Addr) (c2 : Nat) (bs : List Int) (g h : Nat) (ws tis : List Int) (w : World) (hR : RdS w w.heap.size A m ts) (he : con ts = pss) (h2 : 2 ≤ m) (h4 : m ≤ 4) (hY : Rd w w.heap.size A2 5 bs) (hc2 : 5 ≤ c2)
    (hF : ∀ j, j < m → Fine (pss.getD j [] ++ bs) ∧ (pss.getD j []).length = 2) (hW : Own w 0 (some ⟨g, 0, none⟩) m m ws) (hT : Own w 0 (some ⟨h, 0, none⟩) m m tis) (hgh : g ≠ h) :
    Calls Try.prog 79 #[.slice A m c, .slice A2 5 c2, .slice (some ⟨g, 0, none⟩) m m, .slice (some ⟨h, 0, none⟩) m m] w
      fun e w' => e = .returned (.tuple #[]) ∧ Own w' 0 (some ⟨g, 0, none⟩) m m (meetW pss bs ws) ∧ Own w' 0 (some ⟨h, 0, none⟩) m m (meetT pss bs tis) ∧ Two w w' g h := by
  have hml : pss.length = m := by rw [← he, con_len, hR.len]
  have HF := hide hF
  have HML := hide hml
  have HR := hide hR
  have HY := hide hY
  have HE := hide he
  have hY5 := hide hY.len
  obtain ⟨b2, o2, eA2, hb2B, _⟩ := hY.at_ (show 0 < 5 by omega)
  have HVL := hide (valsW_len pss bs)
  rw [hml] at HVL
  obtain ⟨RW, hRW⟩ := ex_eq (meetW pss bs ws)
  obtain ⟨RT, hRT⟩ := ex_eq (meetT pss bs tis)
  rw [hRW, hRT]
  have HRW := hide hRW
  have HRT := hide hRT
  have HLhA := hide hW.len
  have HLhB := hide hT.len
  have HW := hide hW
  have HT := hide hT
  have hgw : g < w.heap.size := by have := hW.ownBlock g rfl; exact this.2
  have hhw : h < w.heap.size := by have := hT.ownBlock h rfl; exact this.2
  have HAN := hide (show A2 = none → c2 = 0 from fun e => by rw [eA2] at e; cases e)
  have HL0 := hide (Lst.new w (Nat.le_refl _))
  have HB0 := hide ((Below.refl w.heap.size w).alloc (Nat.le_refl _) (.cells #[] 2))
  have hL2 : Lst (w.alloc (.cells #[] 2)) w.heap.size (.slice (some ⟨w.heap.size, 0, none⟩) 0 0) (valsW (pss.take 0) bs) := HL0.out
  clear hF hml hR hY he hRW hRT hW hT hb2B eA2
  go_enter Try.func79, Try.ntmps79
  go_wp2
  go_loopw [8, 22] (fun u i wr => ∃ k : Nat, k ≤ m ∧ i = .int .i64 k ∧ Lst wr w.heap.size u (valsW (pss.take k) bs) ∧ Below w.heap.size w wr) (fun _ i _ => m - (intOf i).toNat)
  case atStart => exact ⟨0, Nat.zero_le _, rfl, hL2, HB0.out⟩
  case round =>
    clear hL2
    obtain ⟨k, hk, rfl, hO, hb⟩ := hrel
    by_cases hlt : k < m
    · have hkx : k < pss.length := by rw [HML.out]; exact hlt
      have hgr := hb.size
      obtain ⟨b, o, t, eA, hbB, ht, hc, hok⟩ := (HR.out.below hb).at_ hlt
      have hcd := con_getU ht
      rw [HE.out] at hcd
      have hf := HF.out k hlt
      have hst := valsW_take (full := bs) hkx
      rw [hcd] at hst hf
      obtain ⟨tA, tn, tc, txs⟩ := t
      simp only at hc hok hst hf
      have htn : txs.length = tn := hok.1.len
      have hSl : (valsW (pss.take k) bs).length = k := by rw [valsW_len, List.length_take]; omega
      obtain ⟨S, hS⟩ := ex_eq (valsW (pss.take k) bs)
      rw [hS] at hst hO hSl
      have hvr := (best_ok hf.1 (by rw [List.length_append, hY5.out]; omega)).2.2.2
      have HCC := hide (deck.Concat_any (some ⟨wr.heap.size, 0, none⟩) 2 2 [⟨tA, tn, tc, txs⟩, ⟨A2, 5, c2, bs⟩] _ (rdS_two wr tA tn tc txs A2 5 c2 bs (hok.1.more hgr) hok.2.1 hok.2.2 ((HY.out.below hb).more hgr) hc2 HAN.out) (by omega) (by intro t ht; simp at ht; rcases ht with rfl | rfl <;> simp <;> omega))
      rw [show deck.catTo [⟨tA, tn, tc, txs⟩, ⟨A2, 5, c2, bs⟩] 2 = txs ++ bs by simp [deck.catTo], show (txs ++ bs).length = 7 by rw [List.length_append, hY5.out]; omega, show (wr.alloc (.cells #[.slice tA tn tc, .slice A2 5 c2] 22)).heap.size = wr.heap.size + 1 by simp] at HCC
      have HBE := hide (fun A1 c1 w1 (ho : Rd w1 w1.heap.size A1 7 (txs ++ bs)) => bestFive_any A1 7 c1 (txs ++ bs) w1 ho (by omega) (by omega) hf.1)
      obtain ⟨V, hV⟩ := ex_eq (bestL (txs ++ bs)).2
      rw [hV] at hst hvr HBE
      have HST := hide hst
      have HEA := hide eA
      clear hst hV hS hkx ht hok hf htn hcd
      subst eA
      go_wp2_with (first | (go_at_call 102; refine HCC.out.mono ?_; rintro e w1 ⟨A1, c1, rfl, ho1, hb1⟩) | (go_at_call 60; refine (HBE.out A1 c1 w1 ho1.rd).mono ?_; rintro e w3 ⟨v3, rfl, _, hb3⟩; have hb4 : Below wr.heap.size wr w3 := ((Below.refl wr.heap.size wr).alloc (Nat.le_refl _) (.cells #[.slice tA tn tc, .slice A2 5 c2] 22)).trans ((hb1.mono (by omega)).trans (hb3.mono (by have := hb1.size; simp at this; omega))); have hO3 : Lst w3 w.heap.size u8 S := hO.below hb4; have hb5 := hb.trans (hb4.mono hgr); have hg5 := hb5.size) | (at_builtin; refine wpList_app rfl (.tmp 34) (.tmp 36) rfl w.heap.size _ S [V] rfl (hO3.alloc _) (some ⟨w3.heap.size, 0, none⟩) 1 1 rfl (rd_one w3 V 2) (fun h => by cases h) (by omega) (by simp; omega) ?_; intro v4 w4 ho4 hg4 hbk4))
      have hb6 := (hb5.alloc hg5 (.cells #[.int .i64 V] 2)).grown hg4 (by simp; omega) (fun k hk => ((hO3.alloc (.cells #[.int .i64 V] 2)).blk k hk).1)
      have ho4' : Lst w4 w.heap.size v4 (valsW (pss.take (k + 1)) bs) := by rw [HST.out]; exact ho4
      clear ho4 hg4 hbk4 hO3 hb5
      go_roundw
      case rel => exact ⟨k + 1, by omega, by go_num, ho4', hb6⟩
      case measure => simp [intOf]; omega
    · have hkm : k = m := by omega
      rw [hkm, valsW_all HML.out] at hO
      obtain ⟨A', c', rfl, ho⟩ := hO.formn (n := m) HVL.out
      obtain ⟨VS, hVS⟩ := ex_eq (valsW pss bs)
      rw [hVS] at ho HVL
      have HVS := hide hVS
      have HMX := hide (Max_any A' (m - 1) c' VS wr.heap.size wr (by rw [show m - 1 + 1 = m by omega]; exact ho.rd) (by omega))
      rw [show m - 1 + 1 = m by omega] at HMX
      obtain ⟨M, hM⟩ := ex_eq (maxT VS (m - 1))
      rw [hM] at HMX
      have HM := hide hM
      clear hkm hO hVS hM
      go_wp2_with (go_at_call 103; refine HMX.out.mono ?_; rintro e w5 ⟨rfl, hw5⟩; have HW5 := hide hw5; clear hw5)
      obtain ⟨q, hw5⟩ := HW5.out
      clear HW5
      have ho5 : Own w5 w.heap.size A' m c' VS := by rw [hw5]; exact ho.drewN q
      have hb5 : Below w.heap.size w w5 := by rw [hw5]; exact bdrewN hb q
      obtain ⟨gv, rfl, hgv, hgv5⟩ := ho5.form (by omega)
      have HO5 := hide ho5
      have HB5 := hide hb5
      have HCV := hide (ho5.rd.2 (by omega))
      clear ho ho5 hb hb5 hw5
      go_loop [14, 43] (fun mn i => ∃ k : Nat, k ≤ m ∧ i = .int .i64 k ∧ mn = .int .i64 (cntV VS M k)) (fun _ i => m - (intOf i).toNat)
      case atStart => exact ⟨0, Nat.zero_le _, rfl, rfl⟩
      case round =>
        obtain ⟨k, hk, rfl, rfl⟩ := hrel
        by_cases hlt : k < m
        · obtain ⟨b, o, eb, _, hcv⟩ := HCV.out
          cases eb
          have hc := hcv k hlt
          rw [Nat.zero_add] at hc
          have hst := cntV_step (M := M) (show k < VS.length by rw [HVL.out]; exact hlt)
          have hcl := cntV_le VS M k
          obtain ⟨x, hx⟩ := ex_eq (VS.getD k 0)
          rw [hx] at hc hst
          obtain ⟨C, hC⟩ := ex_eq (cntV VS M k)
          rw [hC] at hst hcl ⊢
          have HST := hide hst
          clear hcv hst hx hC
          by_cases hxM : x = M
          · have hd : (x == M) = true := by simp [hxM]
            go_wp2
            go_round
            case rel => exact ⟨k + 1, by omega, by go_num, by rw [HST.out, if_pos hxM]; go_num⟩
            case measure => simp [intOf]; omega
          · have hd : (x == M) = false := by simp [hxM]
            go_wp2
            go_round
            case rel => exact ⟨k + 1, by omega, by go_num, by rw [HST.out, if_neg hxM]; rfl⟩
            case measure => simp [intOf]; omega
        · have hkm : k = m := by omega
          have hcl := cntV_le VS M k
          have HCE := hide (show cntV VS M k = cntV VS M m by rw [hkm])
          obtain ⟨C, hC⟩ := ex_eq (cntV VS M k)
          rw [hC] at HCE hcl ⊢
          have hWE : RW = addT ws VS M (C == 1) m := by rw [← HRW.out, meetW, HVS.out, HML.out, HM.out, HCE.out]
          have hTE : RT = addT tis VS M (!(C == 1)) m := by rw [← HRT.out, meetT, HVS.out, HML.out, HM.out, HCE.out]
          have HWE := hide hWE
          have HTE := hide hTE
          have hW5 := hide (HW.out.below HB5.out (Nat.le_refl _))
          have hT5 := hide (HT.out.below HB5.out (Nat.le_refl _))
          obtain ⟨bo, hbo⟩ := ex_eq (C == 1)
          rw [hbo] at HWE HTE
          have hbi : ((C : Int) == 1) = bo := by
            rw [← hbo]
            rw [Bool.eq_iff_iff, beq_iff_eq, beq_iff_eq]
            omega
          clear hWE hTE hC hkm
          go_wp2
          go_loopw [55] (fun i wr => ∃ k : Nat, k ≤ m ∧ i = .int .i64 k ∧ Own wr 0 (some ⟨g, 0, none⟩) m m (addT ws VS M bo k) ∧ Own wr 0 (some ⟨h, 0, none⟩) m m (addT tis VS M (!bo) k) ∧ Own wr w.heap.size (some ⟨gv, 0, none⟩) m c' VS ∧ Two w5 wr g h) (fun i _ => m - (intOf i).toNat)
          case atStart => exact ⟨0, Nat.zero_le _, rfl, hW5.out, hT5.out, HO5.out, Two.of (Below.refl _ _)⟩
          case round =>
            obtain ⟨k, hk, rfl, hA, hB, hV, ht⟩ := hrel
            by_cases hlt : k < m
            · have hcV := World.ownsRow.cellAt (h := hV) k (by omega)
              rw [ivs_at _ _ (by rw [HVL.out]; exact hlt)] at hcV
              have hs1 := addT_step ws VS M bo k
              have hs2 := addT_step tis VS M (!bo) k
              obtain ⟨x, hx⟩ := ex_eq (VS.getD k 0)
              rw [hx] at hcV hs1 hs2
              clear hx hW5 hT5
              by_cases hxM : x = M
              · subst hxM
                have hd : (x == x) = true := by simp
                cases bo
                · rw [if_neg (by simp)] at hs1
                  have HN := hide hs1
                  clear hs1
                  obtain ⟨v, hv⟩ := ex_eq ((addT tis VS x (!false) k).getD k 0)
                  have hcA := World.ownsRow.cellAt (h := hB) k (by omega)
                  rw [ivs_at _ _ (by rw [addT_len, HLhB.out]; exact hlt), hv] at hcA
                  have hfA := World.ownsRow.frozenAt (h := hB) k
                  have hput := World.ownsRow.stored (h := hB) k (.int .i64 (wrap64 (v + 1)))
                  rw [ivs_set] at hput
                  have HP1 := hide hput.1
                  have HP2 := hide (World.ownsRow.kept (h := hA) hput.2 (.inr (by simp [Value.ownBlock]; omega)))
                  have HP3 := hide (World.ownsRow.kept (h := hV) hput.2 (.inr (by simp [Value.ownBlock]; omega)))
                  have HP4 := hide (ht.trans (Two.set2 wr k (.int .i64 (wrap64 (v + 1)))))
                  rw [if_pos ⟨rfl, rfl⟩, hv] at hs2
                  have HS := hide hs2
                  clear hput hs2 hv
                  go_wp2
                  go_roundw
                  case rel => exact ⟨k + 1, by omega, by go_num, by rw [HN.out]; exact HP2.out, by rw [HS.out]; exact HP1.out, HP3.out, HP4.out⟩
                  case measure => simp [intOf]; omega
                · rw [if_neg (by simp)] at hs2
                  have HN := hide hs2
                  clear hs2
                  obtain ⟨v, hv⟩ := ex_eq ((addT ws VS x true k).getD k 0)
                  have hcA := World.ownsRow.cellAt (h := hA) k (by omega)
                  rw [ivs_at _ _ (by rw [addT_len, HLhA.out]; exact hlt), hv] at hcA
                  have hfA := World.ownsRow.frozenAt (h := hA) k
                  have hput := World.ownsRow.stored (h := hA) k (.int .i64 (wrap64 (v + 1)))
                  rw [ivs_set] at hput
                  have HP1 := hide hput.1
                  have HP2 := hide (World.ownsRow.kept (h := hB) hput.2 (.inr (by simp [Value.ownBlock]; omega)))
                  have HP3 := hide (World.ownsRow.kept (h := hV) hput.2 (.inr (by simp [Value.ownBlock]; omega)))
                  have HP4 := hide (ht.trans (Two.set1 wr k (.int .i64 (wrap64 (v + 1)))))
                  rw [if_pos ⟨rfl, rfl⟩, hv] at hs1
                  have HS := hide hs1
                  clear hput hs1 hv
                  go_wp2
                  go_roundw
                  case rel => exact ⟨k + 1, by omega, by go_num, by rw [HS.out]; exact HP1.out, by rw [HN.out]; exact HP2.out, HP3.out, HP4.out⟩
                  case measure => simp [intOf]; omega
              · have hd : (x == M) = false := by simp [hxM]
                rw [if_neg (fun h => hxM h.1)] at hs1 hs2
                have HN1 := hide hs1
                have HN2 := hide hs2
                clear hs1 hs2
                go_wp2
                go_roundw
                case rel => exact ⟨k + 1, by omega, by go_num, by rw [HN1.out]; exact hA, by rw [HN2.out]; exact hB, hV, ht⟩
                case measure => simp [intOf]; omega
            · have hkm : k = m := by omega
              rw [hkm, ← HWE.out] at hA
              rw [hkm, ← HTE.out] at hB
              have HT2 := hide ((Two.of (HB5.out)).trans ht)
              clear hkm
              go_wp2
              exact bodyPost_end (results_none rfl _ _ _) rfl ⟨rfl, hA, hB, HT2.out⟩

end Go.Proofs.Ytlldocdmjeeaaaa.hand
