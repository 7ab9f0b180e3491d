/-
  How many faces there are: the function that picks the cards. Conditions: those of each theorem.
-/
import Derived.Test.YtlldocdmjeeaaaaFacesP
import Derived.Test.YtlldocdmjeeaaaaWinC
namespace Go.Proofs.Ytlldocdmjeeaaaa.hand
open Go.RowKit
open base mem grid deck

set_option maxHeartbeats 2000000 in
theorem Equal_any (A : Option Addr) (n c : Nat) (xs : List Int) (A2 : Option Addr) (c2 : Nat) (ys : List Int) (w : World) (hR : Rd w w.heap.size A n xs) (hY : Rd w w.heap.size A2 n ys) (hn : n ≤ 1048576) :
    Calls Try.prog 72 #[.slice A n c, .slice A2 n c2] w fun e w' => ∃ q, e = .returned (.bool (decide (xs = ys))) ∧ w' = w.drewN q := by
  have hl := hR.len
  have hl2 := hY.len
  have HE : Hid ((∃ j, j < n ∧ xs.getD j 0 ≠ ys.getD j 0) → decide (xs = ys) = false) := by
    rintro ⟨j, _, h⟩
    exact decide_eq_false (fun e => h (by rw [e]))
  have HT : Hid ((∀ j, j < n → xs.getD j 0 = ys.getD j 0) → decide (xs = ys) = true) := by
    intro h
    refine decide_eq_true (List.ext_getElem (by omega) fun j h1 h2 => ?_)
    have := h j (by omega)
    simpa [List.getD, h1, h2] using this
  obtain ⟨R, hr⟩ := ex_eq (decide (xs = ys))
  rw [hr] at HE HT ⊢
  clear hr
  have hne : ((n : Int) != (n : Int)) = false := by simp
  go_enter Try.func72, Try.ntmps72
  go_wp2
  go_loopw [13] (fun i wr => ∃ k q : Nat, k ≤ n ∧ i = .int .i64 k ∧ Hid (wr = w.drewN q) ∧ Hid (∀ j, j < k → xs.getD j 0 = ys.getD j 0)) (fun i _ => n - (intOf i).toNat)
  case atStart => exact ⟨0, 0, Nat.zero_le _, rfl, rfl, fun j hj => absurd hj (Nat.not_lt_zero j)⟩
  case round =>
    obtain ⟨k, q, hk, rfl, hw, hF⟩ := hrel
    by_cases hlt : k < n
    · obtain ⟨b, o, rfl, hbB, hc⟩ := (show Rd wr w.heap.size A n xs by rw [hw.out]; exact hR.drewN q).at_ hlt
      obtain ⟨b2, o2, rfl, hbB2, hc2⟩ := (show Rd wr w.heap.size A2 n ys by rw [hw.out]; exact hY.drewN q).at_ hlt
      by_cases hxy : xs.getD k 0 = ys.getD k 0
      · have HX := hide hxy
        rw [hxy] at hc
        obtain ⟨y, hy⟩ := ex_eq (ys.getD k 0)
        rw [hy] at hc hc2
        clear hR hY hxy hy hne
        have hne : (y != y) = false := by simp
        go_upto_region 6 with fail
        go_quiet (fail)
        go_wp2
        go_roundw
        case rel => exact ⟨k + 1, _, by omega, by go_num, (by rw [hw.out]; exact World.drewN_drewN _ _ _), fun j hj => by rcases Nat.lt_succ_iff_lt_or_eq.1 hj with h | h; exact hF.out j h; rw [h]; exact HX.out⟩
        case measure => simp [intOf]; omega
      · have HX := hide (HE.out ⟨k, hlt, hxy⟩)
        obtain ⟨x, hx⟩ := ex_eq (xs.getD k 0)
        obtain ⟨y, hy⟩ := ex_eq (ys.getD k 0)
        rw [hx] at hc hxy
        rw [hy] at hc2 hxy
        clear hR hY hx hy hne
        have hne : (x != y) = true := by simp [hxy]
        clear hxy
        go_upto_region 6 with fail
        go_quiet (fail)
        go_wp2
        go_ret
        exact ⟨_, by rw [HX.out]; rfl, by rw [hw.out]; exact World.drewN_drewN _ _ _⟩
    · have HX := hide (HT.out fun j hj => hF.out j (by omega))
      go_wp2
      go_ret
      exact ⟨q, by rw [HX.out]; rfl, hw.out⟩

/-- memory while cards are picked: the boxes of the orders, the count, the cards, the function; and that of the number -/
structure PF (O S F P N : Nat) (nn : Nat) (w0 w : World) (A2 : Option Addr) (c2 : Nat) (pre : List Int) (st : Int) : Prop where
  nod : (O ≠ S ∧ O ≠ F ∧ O ≠ P) ∧ S ≠ F ∧ S ≠ P ∧ F ≠ P
  hi : (w0.heap.size ≤ O ∧ w0.heap.size ≤ S) ∧ w0.heap.size ≤ F ∧ w0.heap.size ≤ P ∧ N < w0.heap.size
  numb : Blk w N 2 #[.int .i64 (nn : Int)]
  ords : Blk w O 32 #[.slice A2 24 c2]
  sets : Blk w S 2 #[.int .i64 st]
  full : ∃ v, Blk w F 22 #[v] ∧ Lst w w0.heap.size v pre ∧ (v.ownBlock ≠ some O ∧ v.ownBlock ≠ some S) ∧ v.ownBlock ≠ some F ∧ v.ownBlock ≠ some P
  pick : Blk w P 63 #[.func (.func 71) #[] #[.pointer (some ⟨F, 0, none⟩), .pointer (some ⟨N, 0, none⟩), .pointer (some ⟨O, 0, none⟩), .pointer (some ⟨S, 0, none⟩), .pointer (some ⟨P, 0, none⟩)]]
  low : Below w0.heap.size w0 w
section
variable {O S F P N nn : Nat} {w0 w w' : World} {A2 : Option Addr} {c2 : Nat} {pre : List Int} {st : Int}
theorem PF.kept (h : PF O S F P N nn w0 w A2 c2 pre st) (hb : Below w.heap.size w w') : PF O S F P N nn w0 w' A2 c2 pre st := by
  obtain ⟨h1, h2, h3, h4, h5, ⟨v, h6, h7, h8⟩, h9, h10⟩ := h
  exact ⟨h1, h2, h3.below hb h3.lt, h4.below hb h4.lt, h5.below hb h5.lt, ⟨v, h6.below hb h6.lt, h7.below hb, h8⟩, h9.below hb h9.lt, h10.trans (hb.mono h10.size)⟩
theorem PF.sets_ (h : PF O S F P N nn w0 w A2 c2 pre st) (x : Int) : PF O S F P N nn w0 (w.setCell ⟨S, 0, none⟩ (.int .i64 x)) A2 c2 pre x := by
  obtain ⟨h1, h2, h3, h4, h5, ⟨v, h6, h7, h8⟩, h9, h10⟩ := h
  exact ⟨h1, h2, h3.far (p := ⟨S, 0, none⟩) (by simp; omega) _, h4.far (p := ⟨S, 0, none⟩) h1.1.1 _, h5.put 0 _, ⟨v, h6.far (p := ⟨S, 0, none⟩) (Ne.symm h1.2.1) _, lst_same h7 (fun k hk => heap_setCell_other _ ⟨S, 0, none⟩ k _ (fun e => h8.1.2 (by rw [hk]; exact congrArg some e))), h8⟩, h9.far (p := ⟨S, 0, none⟩) (Ne.symm h1.2.2.1) _, h10.setCell (by simp; omega) _⟩
/-- what is appended to the cards that lie, and stored -/
theorem PF.push {w1 : World} {v v1 : Value} {ys : List Int} (h : PF O S F P N nn w0 w A2 c2 pre st) (hv : Blk w F 22 #[v]) (hg : w.grownBy w1 v.ownBlock) (ho : Lst w1 w0.heap.size v1 ys)
    (hb : v1.ownBlock = v.ownBlock ∨ v1.ownBlock = some w.heap.size) : PF O S F P N nn w0 (w1.setCell ⟨F, 0, none⟩ v1) A2 c2 ys st := by
  obtain ⟨h1, h2, h3, h4, h5, ⟨v', h6, h7, h8⟩, h9, h10⟩ := h
  have e : v' = v := by
    have := h6.symm.trans hv
    simpa using this
  subst e
  have hN : v'.ownBlock ≠ some N := fun e => by have := (h7.blk N e).1; omega
  have key : ∀ k, k < w.heap.size → v'.ownBlock ≠ some k → v1.ownBlock ≠ some k := by
    intro k hk hne e2
    rcases hb with e | e
    · exact hne (by rw [← e]; exact e2)
    · rw [e] at e2
      have := Option.some.inj e2
      omega
  have hlb : Below w0.heap.size w w1 := (Below.refl _ _).grown hg h10.size (fun k hk => (h7.blk k hk).1)
  exact ⟨h1, h2, (h3.grown hg (Ne.symm hN)).far (p := ⟨F, 0, none⟩) (by simp; omega) _, (h4.grown hg (Ne.symm h8.1.1)).far (p := ⟨F, 0, none⟩) h1.1.2.1 _, (h5.grown hg (Ne.symm h8.1.2)).far (p := ⟨F, 0, none⟩) h1.2.1 _,
    ⟨v1, (h6.grown hg (Ne.symm h8.2.1)).put 0 _, lst_same ho (fun k hk => heap_setCell_other _ ⟨F, 0, none⟩ k _ (fun e => key F h6.lt h8.2.1 (by rw [hk]; exact congrArg some e))), ⟨key O h4.lt h8.1.1, key S h5.lt h8.1.2⟩, key F h6.lt h8.2.1, key P h9.lt h8.2.2⟩,
    (h9.grown hg (Ne.symm h8.2.2)).far (p := ⟨F, 0, none⟩) (Ne.symm h1.2.2.2) _, (h10.trans hlb).setCell (by simp; omega) _⟩
theorem PF.pop {x : Int} {A1 : Option Addr} {c1 : Nat} (h : PF O S F P N nn w0 w A2 c2 (pre ++ [x]) st) (hv : Blk w F 22 #[.slice A1 (pre.length + 1) c1]) :
    PF O S F P N nn w0 (w.setCell ⟨F, 0, none⟩ (.slice A1 pre.length c1)) A2 c2 pre st := by
  obtain ⟨v', h6, h6l, h6n⟩ := h.full
  have e : v' = .slice A1 (pre.length + 1) c1 := by
    have := h6.symm.trans hv
    simpa using this
  subst e
  obtain ⟨A', c', e2, ho⟩ := h6l.formn (n := pre.length + 1) (by simp)
  obtain ⟨rfl, rfl⟩ : A1 = A' ∧ c1 = c' := by simpa using e2
  obtain ⟨g, rfl, _⟩ := ho.form (by omega)
  exact PF.push h hv ⟨rfl, rfl, rfl, Nat.le_refl _, fun _ _ _ => rfl⟩ (Lst.of (Own.chop ho)) (.inl rfl)
end
theorem nums_at {i : Nat} (h : i < 52) : nums52.getD i 0 = (i : Int) := by
  unfold nums52
  simp [List.getD, h]
theorem nums_len : nums52.length = 52 := by decide
set_option maxRecDepth 100000 in
set_option maxHeartbeats 8000000 in
theorem pickF (O S F P N nn : Nat) (w0 : World) (A2 : Option Addr) (c2 : Nat) (ts : List grid.Sl) (hT : grid.RdS w0 w0.heap.size A2 24 ts) (he : grid.con ts = ords24) (hn1 : 1 ≤ nn) (hn3 : nn ≤ 3) :
    ∀ (k : Nat) (pre : List Int) (at_ : Nat) (st : Int) (w : World), k + pre.length = nn → at_ ≤ 52 → (∀ x ∈ pre, 0 ≤ x ∧ x < 52) → PF O S F P N nn w0 w A2 c2 pre st →
    Calls Try.prog 71 #[.int .i64 (at_ : Int), .pointer (some ⟨F, 0, none⟩), .pointer (some ⟨N, 0, none⟩), .pointer (some ⟨O, 0, none⟩), .pointer (some ⟨S, 0, none⟩), .pointer (some ⟨P, 0, none⟩)] w
      fun e w' => e = .returned (.tuple #[]) ∧ PF O S F P N nn w0 w' A2 c2 pre (fq k pre (nums52.drop at_) st) := by
  intro k
  induction k with
  | zero =>
    intro pre at_ st w h5 hat hf hS
    have hp5 : pre.length = nn := by omega
    have HS0 := hide hS
    obtain ⟨v, hF, hFl, hFn⟩ := hS.full
    obtain ⟨A1, c1, rfl, ho1⟩ := hFl.formn hp5
    have hTw := (hT.below hS.low).more hS.low.size
    have HFC := hide (faceOf_any A1 nn c1 pre A2 24 c2 ts ords24 (w.drewN 1) (ho1.rd.drewN 1) (by omega) (by omega) hf (hTw.drewN 1) he (by omega) (by omega) ords_fine)
    have HO1 := hide ho1
    have hc1 := hF.cell 0
    have hc2 := hS.numb.cell 0
    have hc3 := hS.ords.cell 0
    have hz1 := hF.lt
    have hz2 := hS.numb.lt
    have hz3 := hS.ords.lt
    have hee : ((nn : Int) == (nn : Int)) = true := by simp
    rw [fq_zero]
    by_cases hface : faceM ords24 pre = pre
    · have hfm : fm pre st = wrap64 (st + 1) := by unfold fm; rw [if_pos hface]
      rw [hfm]
      have HDE := hide (show decide (faceM ords24 pre = pre) = true from decide_eq_true hface)
      clear hface hfm hS hF hFl hFn ho1 hT hTw he hf
      go_enter Try.func71, Try.ntmps71
      go_upto_region 1 with fail
      go_region_law (first | (go_simp; go_at_call 68; refine HFC.out.mono ?_; rintro e w3 ⟨A3, c3, rfl, ho3, hb3⟩; have hb3 : Below w.heap.size w w3 := (below_drewN (Below.refl _ _) 1).trans hb3; have HB3 := hide hb3; have hc1' := (hb3.cell (p := ⟨F, 0, none⟩) hz1).trans hc1; have HEQ := hide (Equal_any A3 nn c3 _ A1 c1 pre w3 ho3.rd (HO1.out.below hb3 (Nat.le_refl _)).rd (by omega)); rw [HDE.out] at HEQ; clear ho3 hb3) | (go_simp; go_at_call 72; refine HEQ.out.mono ?_; rintro e w4 ⟨qq, rfl, rfl⟩))
      all_goals
        have hS1 := HS0.out.kept HB3.out
        have hS2 := hS1.kept (bdrewN (Below.refl _ _) qq)
        have hcs := hS2.sets.cell 0
        have hfs := hS2.sets.frozen 0
        have HS2 := hide hS2
        clear hS1 hS2
        go_wp2
        refine bodyPost_ret (results_none rfl _ _ _) rfl ?_
        exact ⟨rfl, HS2.out.sets_ _⟩
    · have hfm : fm pre st = st := by unfold fm; rw [if_neg hface]
      rw [hfm]
      have HDE := hide (show decide (faceM ords24 pre = pre) = false from decide_eq_false hface)
      clear hface hfm hS hF hFl hFn ho1 hT hTw he hf
      go_enter Try.func71, Try.ntmps71
      go_upto_region 1 with fail
      go_region_law (first | (go_simp; go_at_call 68; refine HFC.out.mono ?_; rintro e w3 ⟨A3, c3, rfl, ho3, hb3⟩; have hb3 : Below w.heap.size w w3 := (below_drewN (Below.refl _ _) 1).trans hb3; have HB3 := hide hb3; have hc1' := (hb3.cell (p := ⟨F, 0, none⟩) hz1).trans hc1; have HEQ := hide (Equal_any A3 nn c3 _ A1 c1 pre w3 ho3.rd (HO1.out.below hb3 (Nat.le_refl _)).rd (by omega)); rw [HDE.out] at HEQ; clear ho3 hb3) | (go_simp; go_at_call 72; refine HEQ.out.mono ?_; rintro e w4 ⟨qq, rfl, rfl⟩))
      all_goals
        have hS1 := HS0.out.kept HB3.out
        have HS2 := hide (hS1.kept (bdrewN (Below.refl _ _) qq))
        clear hS1
        go_wp2
        refine bodyPost_ret (results_none rfl _ _ _) rfl ?_
        exact ⟨rfl, HS2.out⟩
  | succ k ih =>
    intro pre at_ st w h5 hat hf hS
    have hl5 : ((pre.length : Int) == (nn : Int)) = false := by simp; omega
    have hl5' : (pre.length == nn) = false := by simp; omega
    obtain ⟨FIN, hFIN⟩ := ex_eq (fq (k + 1) pre (nums52.drop at_) st)
    rw [hFIN]
    have HF0 := hide hFIN
    have HFI := hide hf
    have HIH := hide ih
    have HS0 := hide hS
    obtain ⟨v, hF, hFl, hFn⟩ := hS.full
    obtain ⟨A1, c1, rfl, ho1⟩ := hFl.form
    have hc1 := hF.cell 0
    have hc2 := hS.numb.cell 0
    clear hFIN hf hS ih hF hFl hFn ho1 hT he
    go_enter Try.func71, Try.ntmps71
    go_wp2_with fail
    clear hc1 hc2
    go_loopw [7] (fun s wr => ∃ (i : Nat) (st : Int), i ≤ 52 ∧ s = .int .i64 i ∧ PF O S F P N nn w0 wr A2 c2 pre st ∧ Hid (fq (k + 1) pre (nums52.drop i) st = FIN)) (fun s _ => 52 - (intOf s).toNat)
    case atStart => exact ⟨at_, st, hat, rfl, HS0.out, HF0⟩
    case round =>
      clear HS0 HF0
      obtain ⟨i, st, hi, rfl, hS, hF⟩ := hrel
      by_cases hlt : i < 52
      · have hFx := hF.out
        rw [fq_drop _ _ _ _ _ (by rw [nums_len]; exact hlt), nums_at hlt] at hFx
        have HFX := hide hFx
        obtain ⟨v, hFb, hFl, hFn⟩ := hS.full
        obtain ⟨A1, c1, rfl, ho1⟩ := hFl.form
        have HFN := hide (fun (e : some F = (Value.slice A1 pre.length c1).ownBlock) => hFn.2.1 e.symm)
        have hc1 := hFb.cell 0
        have hf1 := hFb.frozen 0
        have HFB := hide hFb
        have HFL := hide hFl
        have HS := hide hS
        have hwb := hS.low.size
        have hz1 := hFb.lt
        have hp3 : pre.length ≤ 3 := by omega
        have HPRE := hide (show ∀ x ∈ pre ++ [(i : Int)], 0 ≤ x ∧ x < 52 from fun x hx => by
          rcases List.mem_append.1 hx with h | h
          · exact HFI.out x h
          · simp at h; subst h; omega)
        clear hFx hF hS hFb hFl hFn ho1
        go_upto_region 7 with (at_builtin; refine wpList_app rfl (.tmp 24) (.tmp 26) rfl w0.heap.size (.slice A1 pre.length c1) pre [(i : Int)] rfl (HFL.out.alloc _) (some ⟨wr.heap.size, 0, none⟩) 1 1 rfl (rd_one wr (i : Int) 2) (fun h => by cases h) (by omega) (by simp; omega) ?_; intro v2 w2 ho2 hg2 hbk2; have hfv := (HFB.out.alloc (.cells #[.int .i64 (i : Int)] 2)).grown hg2 HFN.out; have hc42 := hfv.cell 0; have hf42 := hfv.frozen 0; obtain ⟨A9, c9, rfl, ho2'⟩ := ho2.formn (n := pre.length + 1) (by simp); clear ho2')
        have hSp := PF.push (HS.out.kept ((Below.refl _ _).alloc (Nat.le_refl _) (.cells #[.int .i64 (i : Int)] 2))) (HFB.out.alloc (.cells #[.int .i64 (i : Int)] 2)) hg2 ho2 hbk2
        have hcp := hSp.pick.cell 0
        have HIC := hide (HIH.out (pre ++ [(i : Int)]) (i + 1) st _ (by simp; omega) (by omega) HPRE.out hSp)
        clear hSp hc42 hf42 hfv ho2 hg2 hbk2
        go_wp2_with (go_at_call 71; refine HIC.out.mono ?_; rintro e w3 ⟨rfl, hS3⟩; obtain ⟨v3, hF3, hFl3, hFn3⟩ := hS3.full; obtain ⟨A3, c3, rfl, ho3⟩ := hFl3.formn (n := pre.length + 1) (by simp); obtain ⟨g3, rfl, _, _⟩ := ho3.form (by omega); have hca3 := ho3.cap; have hc43 := hF3.cell 0; have hf43 := hF3.frozen 0; have HS3 := hide hS3; have HF3 := hide hF3; clear ho3 hFl3 hFn3 hS3 hF3)
        go_roundw
        case rel => exact ⟨i + 1, _, by omega, by go_num, HS3.out.pop HF3.out, HFX⟩
        case measure => simp [intOf]; omega
      · have hFx := hF.out
        rw [fq_over _ _ _ _ _ (by rw [nums_len]; omega)] at hFx
        have HFX := hide hFx
        have HS := hide hS
        clear hFx hF hS
        go_wp2
        go_end0
        exact ⟨rfl, by rw [← HFX.out]; exact HS.out⟩

end Go.Proofs.Ytlldocdmjeeaaaa.hand
