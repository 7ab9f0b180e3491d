/-
  Who is best with a board of five, in the reference. Conditions: those of each theorem.
-/
import Derived.Test.YtlldocdmjeeaaaaMeet
import Derived.Test.YtlldocdmjeeaaaaOuts
namespace Go.Proofs.Ytlldocdmjeeaaaa.hand
open Go.RowKit
open base mem grid

/-! ### in numbers alone -/
/-- the greatest so far, and how many have it -/
def mm (vs : List Int) : Nat → Int × Nat
  | 0 => (-1, 0)
  | k + 1 => if (mm vs k).1 < vs.getD k 0 then (vs.getD k 0, 1) else if vs.getD k 0 = (mm vs k).1 then ((mm vs k).1, (mm vs k).2 + 1) else mm vs k
theorem mm_up {vs : List Int} {k : Nat} (h : (mm vs k).1 < vs.getD k 0) : mm vs (k + 1) = (vs.getD k 0, 1) := if_pos h
theorem mm_eq {vs : List Int} {k : Nat} (h : ¬ (mm vs k).1 < vs.getD k 0) (h2 : vs.getD k 0 = (mm vs k).1) : mm vs (k + 1) = ((mm vs k).1, (mm vs k).2 + 1) := (if_neg h).trans (if_pos h2)
theorem mm_no {vs : List Int} {k : Nat} (h : ¬ (mm vs k).1 < vs.getD k 0) (h2 : ¬ vs.getD k 0 = (mm vs k).1) : mm vs (k + 1) = mm vs k := (if_neg h).trans (if_neg h2)
theorem maxT_ge (vs : List Int) (k : Nat) : ∀ i, i ≤ k → vs.getD i 0 ≤ maxT vs k := by
  induction k with
  | zero => intro i hi; obtain rfl : i = 0 := by omega
            exact Int.le_refl _
  | succ k ih =>
    intro i hi
    have e : maxT vs (k + 1) = max (maxT vs k) (vs.getD (k + 1) 0) := rfl
    rw [e]
    by_cases h : i ≤ k
    · have := ih i h; omega
    · obtain rfl : i = k + 1 := by omega
      omega
theorem cntV_zero (vs : List Int) (M : Int) (k : Nat) (hk : k ≤ vs.length) (h : ∀ i, i < k → vs.getD i 0 ≠ M) : cntV vs M k = 0 := by
  induction k with
  | zero => rfl
  | succ k ih =>
    rw [cntV_step (by omega), ih (by omega) (fun i hi => h i (by omega)), if_neg (h k (by omega))]
theorem mm_is (vs : List Int) (h0 : ∀ i, i < vs.length → 0 ≤ vs.getD i 0) (k : Nat) (hk : k < vs.length) : mm vs (k + 1) = (maxT vs k, cntV vs (maxT vs k) (k + 1)) := by
  induction k with
  | zero =>
    have h1 : (mm vs 0).1 < vs.getD 0 0 := by have := h0 0 hk; show -1 < _; omega
    rw [mm_up h1]
    have e : maxT vs 0 = vs.getD 0 0 := rfl
    rw [e, cntV_step hk, if_pos rfl]
    rfl
  | succ k ih =>
    have hi := ih (by omega)
    have e : maxT vs (k + 1) = max (maxT vs k) (vs.getD (k + 1) 0) := rfl
    have e1 : (mm vs (k + 1)).1 = maxT vs k := by rw [hi]
    have e2 : (mm vs (k + 1)).2 = cntV vs (maxT vs k) (k + 1) := by rw [hi]
    by_cases h1 : (mm vs (k + 1)).1 < vs.getD (k + 1) 0
    · rw [mm_up h1]
      rw [e1] at h1
      have e3 : maxT vs (k + 1) = vs.getD (k + 1) 0 := by omega
      rw [e3, cntV_step hk, if_pos rfl, cntV_zero vs _ (k + 1) (by omega) (fun i hi2 => by have := maxT_ge vs k i (by omega); omega)]
    · by_cases h2 : vs.getD (k + 1) 0 = (mm vs (k + 1)).1
      · rw [mm_eq h1 h2]
        rw [e1] at h1 h2
        have e3 : maxT vs (k + 1) = maxT vs k := by omega
        rw [e3, cntV_step hk, if_pos h2, e1, e2]
      · rw [mm_no h1 h2, hi]
        rw [e1] at h1 h2
        have e3 : maxT vs (k + 1) = maxT vs k := by omega
        rw [e3, cntV_step (k := k + 1) hk, if_neg h2]
        rfl
theorem mm_bd (vs : List Int) (k : Nat) : (mm vs k).2 ≤ k := by
  induction k with
  | zero => exact Nat.le_refl _
  | succ k ih =>
    unfold mm
    split
    · show 1 ≤ k + 1
      omega
    · split
      · show (mm vs k).2 + 1 ≤ k + 1
        omega
      · omega
theorem blk_same2 {w w1 w2 : World} {gS g h : Nat} {t : TypeId} {cs : Array Value} (hS : Blk w gS t cs) (hb : Below w.heap.size w w1) (hl : gS < w.heap.size) (ht : Two w1 w2 g h) (hn : gS ≠ g ∧ gS ≠ h) : Blk w2 gS t cs :=
  (ht.block gS (Nat.lt_of_lt_of_le hl hb.size) hn.1 hn.2).trans (hS.below hb hl)
theorem valsW_at {pss : List (List Int)} {full : List Int} {k : Nat} (hk : k < pss.length) : (valsW pss full).getD k 0 = (bestL (pss.getD k [] ++ full)).2 := by
  have e : pss.getD k [] = pss[k] := by simp [List.getD, hk]
  rw [e]
  simp [valsW, List.getD, hk]
set_option maxRecDepth 100000 in
set_option maxHeartbeats 4000000 in
theorem l03Meet_any (gS : Nat) (A : Option Addr) (m c : Nat) (ts : List Sl) (pss : List (List Int)) (A2 : Option Addr) (c2 : Nat) (bs : List Int) (g h : Nat) (ws tis : List Int) (w : World) (hS : Blk w gS 67 #[.slice A m c, .slice (some ⟨g, 0, none⟩) m m, .slice (some ⟨h, 0, none⟩) m m]) (hR : RdS w w.heap.size A m ts) (he : con ts = pss) (h2 : 2 ≤ m) (h4 : m ≤ 4) (hY : Rd w w.heap.size A2 5 bs)
    (hF : ∀ j, j < m → Fine (pss.getD j [] ++ bs) ∧ (pss.getD j []).length = 2) (hW : Own w 0 (some ⟨g, 0, none⟩) m m ws) (hT : Own w 0 (some ⟨h, 0, none⟩) m m tis) (hgh : g ≠ h) (hgS : gS ≠ g ∧ gS ≠ h) :
    Calls Try.prog 75 #[.pointer (some ⟨gS, 0, none⟩), .slice A2 5 c2] w
      fun e w' => e = .returned (.tuple #[]) ∧ Own w' 0 (some ⟨g, 0, none⟩) m m (meetW pss bs ws) ∧ Own w' 0 (some ⟨h, 0, none⟩) m m (meetT pss bs tis) ∧ Two w w' g h := by
  have hml : pss.length = m := by rw [← he, con_len, hR.len]
  have HF := hide hF
  have HML := hide hml
  have HR := hide hR
  have HY := hide hY
  have HE := hide he
  have hY5 := hide hY.len
  obtain ⟨b2, o2, eA2, hb2B, _⟩ := hY.at_ (show 0 < 5 by omega)
  have HVL := hide (valsW_len pss bs)
  rw [hml] at HVL
  have HMI : Hid (mm (valsW pss bs) m = (maxT (valsW pss bs) (m - 1), cntV (valsW pss bs) (maxT (valsW pss bs) (m - 1)) m)) := by
    have hv : ∀ i, i < (valsW pss bs).length → 0 ≤ (valsW pss bs).getD i 0 := by
      intro i hi
      rw [valsW_len] at hi
      rw [valsW_at hi]
      have hf := hF i (by omega)
      exact (best_ok hf.1 (by rw [List.length_append, hY.len]; omega)).2.2.2.1
    have := mm_is (valsW pss bs) hv (m - 1) (by rw [HVL.out]; omega)
    rw [show m - 1 + 1 = m by omega] at this
    exact this
  obtain ⟨RW, hRW⟩ := ex_eq (meetW pss bs ws)
  obtain ⟨RT, hRT⟩ := ex_eq (meetT pss bs tis)
  rw [hRW, hRT]
  have HRW := hide hRW
  have HRT := hide hRT
  have HLhA := hide hW.len
  have HLhB := hide hT.len
  have HW := hide hW
  have HT := hide hT
  have hgw : g < w.heap.size := by have := hW.ownBlock g rfl; exact this.2
  have hhw : h < w.heap.size := by have := hT.ownBlock h rfl; exact this.2
  have HAN := hide (show A2 = none → c2 = 0 from fun e => by rw [eA2] at e; cases e)
  have HL0 := hide (Lst.new w (Nat.le_refl _))
  have HB0 := hide ((Below.refl w.heap.size w).alloc (Nat.le_refl _) (.cells #[] 2))
  have hL2 : Lst (w.alloc (.cells #[] 2)) w.heap.size (.slice (some ⟨w.heap.size, 0, none⟩) 0 0) (valsW (pss.take 0) bs) := HL0.out
  have HSB := hide hS
  have hsl := hS.lt
  have hS0 := (hS.alloc (.cells #[] 2)).cell 0
  have hS00 := hS.cell 0
  clear hF hml hR hY he hRW hRT hW hT hb2B eA2 hS
  go_enter Try.func75, Try.ntmps75
  go_wp2
  go_loopw [4, 5, 6, 17] (fun mo mn u i wr => ∃ k : Nat, k ≤ m ∧ i = .int .i64 k ∧ mo = .int .i64 (mm (valsW pss bs) k).1 ∧ mn = .int .i64 ((mm (valsW pss bs) k).2 : Nat) ∧ Lst wr w.heap.size u (valsW (pss.take k) bs) ∧ Below w.heap.size w wr) (fun _ _ _ i _ => m - (intOf i).toNat)
  case atStart => exact ⟨0, Nat.zero_le _, rfl, rfl, rfl, hL2, HB0.out⟩
  case round =>
    clear hL2 hS0 hS00
    obtain ⟨k, hk, rfl, rfl, rfl, hO, hb⟩ := hrel
    by_cases hlt : k < m
    · have hkx : k < pss.length := by rw [HML.out]; exact hlt
      have hgr := hb.size
      have hSB := HSB.out.below hb hsl
      have hS1 := (hSB.alloc (.cells #[] 2)).cell 0
      have hS2 := hSB.cell 0
      obtain ⟨b, o, t, eA, hbB, ht, hc, hok⟩ := (HR.out.below hb).at_ hlt
      have hzb : b < wr.heap.size := Nat.lt_of_lt_of_le hbB hgr
      have hcA := (World.cell?_alloc_lt wr (.cells #[] 2) ⟨b, o + k, none⟩ hzb).trans hc
      have hcd := con_getU ht
      rw [HE.out] at hcd
      have hf := HF.out k hlt
      have hst := valsW_take (full := bs) hkx
      have hva := valsW_at (full := bs) hkx
      rw [hcd] at hst hf hva
      obtain ⟨tA, tn, tc, txs⟩ := t
      simp only at hc hcA hok hst hf hva
      have htn : txs.length = tn := hok.1.len
      have hokR : Rd wr wr.heap.size tA tn txs := hok.1.more hgr
      have hokN : tA = none → tc = 0 := hok.2.2
      have hSl : (valsW (pss.take k) bs).length = k := by rw [valsW_len, List.length_take]; omega
      have hmup := fun h => mm_up (vs := valsW pss bs) (k := k) h
      have hmeq := fun h h2 => mm_eq (vs := valsW pss bs) (k := k) h h2
      have hmno := fun h h2 => (mm_no (vs := valsW pss bs) (k := k) h h2).trans (show mm (valsW pss bs) k = ((mm (valsW pss bs) k).1, (mm (valsW pss bs) k).2) from rfl)
      have hmb := mm_bd (valsW pss bs) k
      obtain ⟨S, hS⟩ := ex_eq (valsW (pss.take k) bs)
      rw [hS] at hst hO hSl
      have hvr := (best_ok hf.1 (by rw [List.length_append, hY5.out]; omega)).2.2.2
      have HL7 := hide (show (txs ++ bs).length = 7 by rw [List.length_append, hY5.out]; omega)
      have HFI := hide hf.1
      obtain ⟨V, hV⟩ := ex_eq (bestL (txs ++ bs)).2
      rw [hV] at hst hvr hva
      rw [hva] at hmup hmeq hmno
      have HV := hide hV
      have HST := hide hst
      obtain ⟨p, hp⟩ := ex_eq (mm (valsW pss bs) k).1
      obtain ⟨q, hq⟩ := ex_eq (mm (valsW pss bs) k).2
      rw [hp] at hmup hmeq hmno ⊢
      rw [hq] at hmeq hmno hmb ⊢
      have htx2 : txs.length = 2 := hf.2
      have HUP := hide hmup
      have HEQ := hide hmeq
      have HNO := hide hmno
      clear hst hV hS hkx ht hok hf hcd hmup hmeq hmno hva hp hq
      subst eA
      by_cases h1 : p < V
      · have HM := hide (HUP.out h1)
        go_wp2_with (first | (at_builtin; refine wpList_app rfl (.tmp 21) (.tmp 28) rfl wr.heap.size _ [] txs rfl (Lst.new wr (Nat.le_refl _)) tA tn tc rfl ((hokR.alloc (Nat.le_refl _) _).more (by simp)) hokN (by simp; omega) (by simp) ?_; intro v1 w1 ho1 hg1 hbk1; have hb1 := ((Below.refl wr.heap.size wr).alloc (Nat.le_refl _) (.cells #[] 2)).grown hg1 (by simp) (fun k hk => ((Lst.new wr (Nat.le_refl _)).blk k hk).1); rw [List.nil_append] at ho1; have hzz1 := hb1.size) | (at_builtin; refine wpList_app rfl (.tmp 29) (.tmp 30) rfl wr.heap.size _ txs bs rfl ho1 A2 5 c2 rfl (((HY.out.below hb).more hgr).below hb1 |>.more hzz1) HAN.out (by omega) hzz1 ?_; intro v2 w2 ho2 hg2 hbk2; have hb2 := hb1.grown hg2 hzz1 (fun k hk => (ho1.blk k hk).1); obtain ⟨A3, c3, rfl, ho2'⟩ := ho2.formn (n := 7) HL7.out; have HBE := hide (l03Best_any A3 7 c3 (txs ++ bs) w2.heap.size w2 ho2'.rd (Nat.le_refl _) (by omega) (by omega) HFI.out); rw [HV.out] at HBE) | (go_at_call 59; refine HBE.out.mono ?_; rintro e w3 ⟨v3, rfl, _, hb3⟩; have hb4 := hb2.trans (hb3.mono hb2.size); have hO3 : Lst w3 w.heap.size u6 S := hO.below hb4; have hb5 := hb.trans (hb4.mono hgr); have hg5 := hb5.size) | (at_builtin; refine wpList_app rfl (.tmp 35) (.tmp 37) rfl w.heap.size _ S [V] rfl (hO3.alloc _) (some ⟨w3.heap.size, 0, none⟩) 1 1 rfl (rd_one w3 V 2) (fun h => by cases h) (by omega) (by simp; omega) ?_; intro v4 w4 ho4 hg4 hbk4))
        have hb6 := (hb5.alloc hg5 (.cells #[.int .i64 V] 2)).grown hg4 (by simp; omega) (fun k hk => ((hO3.alloc (.cells #[.int .i64 V] 2)).blk k hk).1)
        have ho4' : Lst w4 w.heap.size v4 (valsW (pss.take (k + 1)) bs) := by rw [HST.out]; exact ho4
        clear ho4 hg4 hbk4 hO3 hb5
        go_roundw
        case rel => exact ⟨k + 1, by omega, by go_num, by rw [HM.out], by rw [HM.out]; rfl, ho4', hb6⟩
        case measure => simp [intOf]; omega
      · by_cases h3 : V = p
        · have HM := hide (HEQ.out h1 h3)
          subst h3
          have hd : (V == V) = true := by simp
          go_wp2_with (first | (at_builtin; refine wpList_app rfl (.tmp 21) (.tmp 28) rfl wr.heap.size _ [] txs rfl (Lst.new wr (Nat.le_refl _)) tA tn tc rfl ((hokR.alloc (Nat.le_refl _) _).more (by simp)) hokN (by simp; omega) (by simp) ?_; intro v1 w1 ho1 hg1 hbk1; have hb1 := ((Below.refl wr.heap.size wr).alloc (Nat.le_refl _) (.cells #[] 2)).grown hg1 (by simp) (fun k hk => ((Lst.new wr (Nat.le_refl _)).blk k hk).1); rw [List.nil_append] at ho1; have hzz1 := hb1.size) | (at_builtin; refine wpList_app rfl (.tmp 29) (.tmp 30) rfl wr.heap.size _ txs bs rfl ho1 A2 5 c2 rfl (((HY.out.below hb).more hgr).below hb1 |>.more hzz1) HAN.out (by omega) hzz1 ?_; intro v2 w2 ho2 hg2 hbk2; have hb2 := hb1.grown hg2 hzz1 (fun k hk => (ho1.blk k hk).1); obtain ⟨A3, c3, rfl, ho2'⟩ := ho2.formn (n := 7) HL7.out; have HBE := hide (l03Best_any A3 7 c3 (txs ++ bs) w2.heap.size w2 ho2'.rd (Nat.le_refl _) (by omega) (by omega) HFI.out); rw [HV.out] at HBE) | (go_at_call 59; refine HBE.out.mono ?_; rintro e w3 ⟨v3, rfl, _, hb3⟩; have hb4 := hb2.trans (hb3.mono hb2.size); have hO3 : Lst w3 w.heap.size u6 S := hO.below hb4; have hb5 := hb.trans (hb4.mono hgr); have hg5 := hb5.size) | (at_builtin; refine wpList_app rfl (.tmp 35) (.tmp 37) rfl w.heap.size _ S [V] rfl (hO3.alloc _) (some ⟨w3.heap.size, 0, none⟩) 1 1 rfl (rd_one w3 V 2) (fun h => by cases h) (by omega) (by simp; omega) ?_; intro v4 w4 ho4 hg4 hbk4))
          have hb6 := (hb5.alloc hg5 (.cells #[.int .i64 V] 2)).grown hg4 (by simp; omega) (fun k hk => ((hO3.alloc (.cells #[.int .i64 V] 2)).blk k hk).1)
          have ho4' : Lst w4 w.heap.size v4 (valsW (pss.take (k + 1)) bs) := by rw [HST.out]; exact ho4
          clear ho4 hg4 hbk4 hO3 hb5
          go_roundw
          case rel => exact ⟨k + 1, by omega, by go_num, by rw [HM.out], by rw [HM.out]; go_num, ho4', hb6⟩
          case measure => simp [intOf]; omega
        · have HM := hide (HNO.out h1 h3)
          have hd : (V == p) = false := by simp [h3]
          go_wp2_with (first | (at_builtin; refine wpList_app rfl (.tmp 21) (.tmp 28) rfl wr.heap.size _ [] txs rfl (Lst.new wr (Nat.le_refl _)) tA tn tc rfl ((hokR.alloc (Nat.le_refl _) _).more (by simp)) hokN (by simp; omega) (by simp) ?_; intro v1 w1 ho1 hg1 hbk1; have hb1 := ((Below.refl wr.heap.size wr).alloc (Nat.le_refl _) (.cells #[] 2)).grown hg1 (by simp) (fun k hk => ((Lst.new wr (Nat.le_refl _)).blk k hk).1); rw [List.nil_append] at ho1; have hzz1 := hb1.size) | (at_builtin; refine wpList_app rfl (.tmp 29) (.tmp 30) rfl wr.heap.size _ txs bs rfl ho1 A2 5 c2 rfl (((HY.out.below hb).more hgr).below hb1 |>.more hzz1) HAN.out (by omega) hzz1 ?_; intro v2 w2 ho2 hg2 hbk2; have hb2 := hb1.grown hg2 hzz1 (fun k hk => (ho1.blk k hk).1); obtain ⟨A3, c3, rfl, ho2'⟩ := ho2.formn (n := 7) HL7.out; have HBE := hide (l03Best_any A3 7 c3 (txs ++ bs) w2.heap.size w2 ho2'.rd (Nat.le_refl _) (by omega) (by omega) HFI.out); rw [HV.out] at HBE) | (go_at_call 59; refine HBE.out.mono ?_; rintro e w3 ⟨v3, rfl, _, hb3⟩; have hb4 := hb2.trans (hb3.mono hb2.size); have hO3 : Lst w3 w.heap.size u6 S := hO.below hb4; have hb5 := hb.trans (hb4.mono hgr); have hg5 := hb5.size) | (at_builtin; refine wpList_app rfl (.tmp 35) (.tmp 37) rfl w.heap.size _ S [V] rfl (hO3.alloc _) (some ⟨w3.heap.size, 0, none⟩) 1 1 rfl (rd_one w3 V 2) (fun h => by cases h) (by omega) (by simp; omega) ?_; intro v4 w4 ho4 hg4 hbk4))
          have hb6 := (hb5.alloc hg5 (.cells #[.int .i64 V] 2)).grown hg4 (by simp; omega) (fun k hk => ((hO3.alloc (.cells #[.int .i64 V] 2)).blk k hk).1)
          have ho4' : Lst w4 w.heap.size v4 (valsW (pss.take (k + 1)) bs) := by rw [HST.out]; exact ho4
          clear ho4 hg4 hbk4 hO3 hb5
          go_roundw
          case rel => exact ⟨k + 1, by omega, by go_num, by rw [HM.out], by rw [HM.out], ho4', hb6⟩
          case measure => simp [intOf]; omega
    · have hkm : k = m := by omega
      rw [hkm, valsW_all HML.out] at hO
      obtain ⟨A', c', rfl, ho⟩ := hO.formn (n := m) HVL.out
      obtain ⟨VS, hVS⟩ := ex_eq (valsW pss bs)
      rw [hVS] at ho HVL HMI ⊢
      obtain ⟨M, hM⟩ := ex_eq (maxT VS (m - 1))
      rw [hM] at HMI
      obtain ⟨C, hC⟩ := ex_eq (cntV VS M m)
      rw [hC] at HMI
      have e1 : (mm VS k).1 = M := by rw [hkm, HMI.out]
      have e2 : (mm VS k).2 = C := by rw [hkm, HMI.out]
      have hcm : C ≤ m := by rw [← hC]; exact cntV_le VS M m
      rw [e1, e2]
      obtain ⟨gv, rfl, hgv, hgv5⟩ := ho.form (by omega)
      have hWE : RW = addT ws VS M (C == 1) m := by rw [← HRW.out, meetW, hVS, HML.out, hM, hC]
      have hTE : RT = addT tis VS M (!(C == 1)) m := by rw [← HRT.out, meetT, hVS, HML.out, hM, hC]
      have HWE := hide hWE
      have HTE := hide hTE
      have HB5 := hide hb
      have hW5 := hide (HW.out.below hb (Nat.le_refl _))
      have hT5 := hide (HT.out.below hb (Nat.le_refl _))
      have HO5 := hide ho
      obtain ⟨bo, hbo⟩ := ex_eq (C == 1)
      rw [hbo] at HWE HTE
      have hbi : ((C : Int) == 1) = bo := by
        rw [← hbo]
        rw [Bool.eq_iff_iff, beq_iff_eq, beq_iff_eq]
        omega
      clear hWE hTE hC hM hVS e1 e2 hkm ho hb
      go_wp2
      go_loopw [51] (fun i wr2 => ∃ k : Nat, k ≤ m ∧ i = .int .i64 k ∧ Own wr2 0 (some ⟨g, 0, none⟩) m m (addT ws VS M bo k) ∧ Own wr2 0 (some ⟨h, 0, none⟩) m m (addT tis VS M (!bo) k) ∧ Own wr2 w.heap.size (some ⟨gv, 0, none⟩) m c' VS ∧ Two wr wr2 g h) (fun i _ => m - (intOf i).toNat)
      case atStart => exact ⟨0, Nat.zero_le _, rfl, hW5.out, hT5.out, HO5.out, Two.of (Below.refl _ _)⟩
      case round =>
        obtain ⟨k, hk, rfl, hA, hB, hV, ht⟩ := hrel
        have hSB := blk_same2 HSB.out HB5.out hsl ht hgS
        have hS1 := hSB.cell 1
        have hS2 := hSB.cell 2
        by_cases hlt : k < m
        · have hcV := World.ownsRow.cellAt (h := hV) k (by omega)
          rw [ivs_at _ _ (by rw [HVL.out]; exact hlt)] at hcV
          have hs1 := addT_step ws VS M bo k
          have hs2 := addT_step tis VS M (!bo) k
          obtain ⟨x, hx⟩ := ex_eq (VS.getD k 0)
          rw [hx] at hcV hs1 hs2
          clear hx hW5 hT5
          by_cases hxM : x = M
          · subst hxM
            have hd : (x != x) = false := by simp
            cases bo
            · rw [if_neg (by simp)] at hs1
              have HN := hide hs1
              clear hs1
              obtain ⟨v, hv⟩ := ex_eq ((addT tis VS x (!false) k).getD k 0)
              have hcA := World.ownsRow.cellAt (h := hB) k (by omega)
              rw [ivs_at _ _ (by rw [addT_len, HLhB.out]; exact hlt), hv] at hcA
              have hfA := World.ownsRow.frozenAt (h := hB) k
              have hput := World.ownsRow.stored (h := hB) k (.int .i64 (wrap64 (v + 1)))
              rw [ivs_set] at hput
              have HP1 := hide hput.1
              have HP2 := hide (World.ownsRow.kept (h := hA) hput.2 (.inr (by simp [Value.ownBlock]; omega)))
              have HP3 := hide (World.ownsRow.kept (h := hV) hput.2 (.inr (by simp [Value.ownBlock]; omega)))
              have HP4 := hide (ht.trans (Two.set2 _ k (.int .i64 (wrap64 (v + 1)))))
              rw [if_pos ⟨rfl, rfl⟩, hv] at hs2
              have HS := hide hs2
              clear hput hs2 hv
              go_wp2
              go_roundw
              case rel => exact ⟨k + 1, by omega, by go_num, by rw [HN.out]; exact HP2.out, by rw [HS.out]; exact HP1.out, HP3.out, HP4.out⟩
              case measure => simp [intOf]; omega
            · rw [if_neg (by simp)] at hs2
              have HN := hide hs2
              clear hs2
              obtain ⟨v, hv⟩ := ex_eq ((addT ws VS x true k).getD k 0)
              have hcA := World.ownsRow.cellAt (h := hA) k (by omega)
              rw [ivs_at _ _ (by rw [addT_len, HLhA.out]; exact hlt), hv] at hcA
              have hfA := World.ownsRow.frozenAt (h := hA) k
              have hput := World.ownsRow.stored (h := hA) k (.int .i64 (wrap64 (v + 1)))
              rw [ivs_set] at hput
              have HP1 := hide hput.1
              have HP2 := hide (World.ownsRow.kept (h := hB) hput.2 (.inr (by simp [Value.ownBlock]; omega)))
              have HP3 := hide (World.ownsRow.kept (h := hV) hput.2 (.inr (by simp [Value.ownBlock]; omega)))
              have HP4 := hide (ht.trans (Two.set1 _ k (.int .i64 (wrap64 (v + 1)))))
              rw [if_pos ⟨rfl, rfl⟩, hv] at hs1
              have HS := hide hs1
              clear hput hs1 hv
              go_wp2
              go_roundw
              case rel => exact ⟨k + 1, by omega, by go_num, by rw [HS.out]; exact HP1.out, by rw [HN.out]; exact HP2.out, HP3.out, HP4.out⟩
              case measure => simp [intOf]; omega
          · have hd : (x != M) = true := by simp [hxM]
            rw [if_neg (fun h => hxM h.1)] at hs1 hs2
            have HN1 := hide hs1
            have HN2 := hide hs2
            clear hs1 hs2
            go_wp2
            go_roundw
            case rel => exact ⟨k + 1, by omega, by go_num, by rw [HN1.out]; exact hA, by rw [HN2.out]; exact hB, hV, ht⟩
            case measure => simp [intOf]; omega
        · have hkm : k = m := by omega
          rw [hkm, ← HWE.out] at hA
          rw [hkm, ← HTE.out] at hB
          have HT2 := hide ((Two.of (HB5.out)).trans ht)
          clear hkm
          go_wp2
          exact bodyPost_end (results_none rfl _ _ _) rfl ⟨rfl, hA, hB, HT2.out⟩

end Go.Proofs.Ytlldocdmjeeaaaa.hand
