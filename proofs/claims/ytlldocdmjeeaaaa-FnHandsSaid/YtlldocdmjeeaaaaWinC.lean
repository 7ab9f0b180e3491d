/-
  All boards of five that have the cards known, in the implementation: a closure that calls itself. Conditions: those of each theorem.
-/
import Derived.Test.YtlldocdmjeeaaaaMeet
import Derived.Laws.EntriesVeiled
namespace Go.Proofs.Ytlldocdmjeeaaaa.hand
open Go.RowKit
open base mem grid

/-! ### in numbers alone -/
abbrev Cnt := (List Int × List Int) × Int
def meetS (pss : List (List Int)) (full : List Int) (st : Cnt) : Cnt := ((meetW pss full st.1.1, meetT pss full st.1.2), wrap64 (st.2 + 1))
def pw (pss : List (List Int)) : Nat → List Int → List Int → Cnt → Cnt
  | 0, pre, [], st => meetS pss pre st
  | 0, pre, _ :: _, st => meetS pss pre st
  | _ + 1, _, [], st => st
  | k + 1, pre, x :: l, st => pw pss (k + 1) pre l (pw pss k (pre ++ [x]) l st)
theorem pw_zero (pss : List (List Int)) (pre l : List Int) (st : Cnt) : pw pss 0 pre l st = meetS pss pre st := by cases l <;> rfl
theorem pw_drop (pss : List (List Int)) (k : Nat) (pre xs : List Int) (st : Cnt) (i : Nat) (hi : i < xs.length) :
    pw pss (k + 1) pre (xs.drop i) st = pw pss (k + 1) pre (xs.drop (i + 1)) (pw pss k (pre ++ [xs.getD i 0]) (xs.drop (i + 1)) st) := by
  rw [List.drop_eq_getElem_cons hi]
  have : xs.getD i 0 = xs[i] := by simp [List.getD, hi]
  rw [this]
  rfl
theorem pw_over (pss : List (List Int)) (k : Nat) (pre xs : List Int) (st : Cnt) (i : Nat) (hi : xs.length ≤ i) : pw pss (k + 1) pre (xs.drop i) st = st := by
  rw [List.drop_eq_nil_of_le hi]
  rfl
/-- hands of two that make different cards with what lies and what is left -/
def FW (pss : List (List Int)) (m : Nat) (pre l : List Int) : Prop := ∀ j, j < m → Fine ((pss.getD j [] ++ pre) ++ l) ∧ (pss.getD j []).length = 2
theorem FW.pick {pss : List (List Int)} {m : Nat} {pre xs : List Int} {i : Nat} (h : FW pss m pre (xs.drop i)) (hi : i < xs.length) : FW pss m (pre ++ [xs.getD i 0]) (xs.drop (i + 1)) :=
  fun j hj => ⟨by have := Fine.pick (h j hj).1 hi; rwa [List.append_assoc (pss.getD j []) pre] at this, (h j hj).2⟩
theorem FW.skip {pss : List (List Int)} {m : Nat} {pre xs : List Int} {i : Nat} (h : FW pss m pre (xs.drop i)) : FW pss m pre (xs.drop (i + 1)) :=
  fun j hj => ⟨Fine.skip (h j hj).1, (h j hj).2⟩
/-! ### in memory -/
theorem own_same {w w' : World} {B n c : Nat} {A : Option Addr} {xs : List Int} (h : Own w B A n c xs) (hk : ∀ k, (Value.slice A n c).ownBlock = some k → w'.heap[k]? = w.heap[k]?) : Own w' B A n c xs := by
  refine ⟨h.1, ?_⟩
  rcases h.2 with h1 | ⟨g, cap, cur, hv, hlo, hg, r⟩
  · exact .inl h1
  · refine .inr ⟨g, cap, cur, hv, hlo, ?_, r⟩
    rw [hk g (by rw [hv]; rfl)]
    exact hg
theorem own_up {w : World} {B B' g n c : Nat} {xs : List Int} (h : Own w B (some ⟨g, 0, none⟩) n c xs) (hg : B' ≤ g) : Own w B' (some ⟨g, 0, none⟩) n c xs := by
  refine ⟨h.1, ?_⟩
  rcases h.2 with ⟨h1, _⟩ | ⟨g', cap, cur, hv, hlo, r⟩
  · cases h1
  · have e : g = g' := Option.some.inj (show (Value.slice (some ⟨g, 0, none⟩) n c).ownBlock = some g' by rw [hv]; rfl)
    exact .inr ⟨g', cap, cur, hv, by omega, r⟩
theorem lst_same {w w' : World} {B : Nat} {v : Value} {xs : List Int} (h : Lst w B v xs) (hk : ∀ k, v.ownBlock = some k → w'.heap[k]? = w.heap[k]?) : Lst w' B v xs := by
  obtain ⟨A, c, rfl, ho⟩ := h.form
  exact Lst.of (own_same ho hk)
theorem blk_same {w w' : World} {g : Nat} {t : TypeId} {cs : Array Value} (h : Blk w g t cs) (hk : w'.heap[g]? = w.heap[g]?) : Blk w' g t cs := hk.trans h
/-- where all lies -/
structure Pl where
  (H W T S L F P w t l : Nat)
def Pl.all (G : Pl) : List Nat := [G.H, G.W, G.T, G.S, G.L, G.F, G.P, G.w, G.t, G.l]
theorem Pl.ne {G : Pl} (hN : G.all.Nodup) (i j : Nat) (hi : i < 10 := by decide) (hj : j < 10 := by decide) (h : i ≠ j := by decide) : G.all.getD i 0 ≠ G.all.getD j 0 := by
  have li : i < G.all.length := hi
  have lj : j < G.all.length := hj
  have e1 : G.all.getD i 0 = G.all[i] := by simp [List.getD, li]
  have e2 : G.all.getD j 0 = G.all[j] := by simp [List.getD, lj]
  rw [e1, e2]
  rcases Nat.lt_or_gt_of_ne h with hl | hl
  · exact List.pairwise_iff_getElem.1 hN i j li lj hl
  · exact (List.pairwise_iff_getElem.1 hN j i lj li hl).symm
theorem Pl.mem {G : Pl} (i : Nat) (hi : i < 10 := by decide) : G.all.getD i 0 ∈ G.all := by
  have li : i < G.all.length := hi
  have e1 : G.all.getD i 0 = G.all[i] := by simp [List.getD, li]
  rw [e1]
  exact List.getElem_mem li
theorem Pl.out {G : Pl} {k : Nat} (h : k ∉ G.all) (i : Nat) (hi : i < 10 := by decide) : k ≠ G.all.getD i 0 := fun e => h (e ▸ Pl.mem i hi)
theorem Pl.low {G : Pl} {B : Nat} (h : ∀ k ∈ G.all, B ≤ k) (i : Nat) (hi : i < 10 := by decide) : B ≤ G.all.getD i 0 := h _ (Pl.mem i hi)
/-- memory while the closure picks -/
structure PW (G : Pl) (w0 w : World) (A : Option Addr) (m c nL cL : Nat) (LE pre : List Int) (st : Cnt) : Prop where
  hands : Blk w G.H 32 #[.slice A m c]
  wins : Blk w G.W 22 #[.slice (some ⟨G.w, 0, none⟩) m m]
  ties : Blk w G.T 22 #[.slice (some ⟨G.t, 0, none⟩) m m]
  sets : Blk w G.S 2 #[.int .i64 st.2]
  left : Blk w G.L 22 #[.slice (some ⟨G.l, 0, none⟩) nL cL]
  full : ∃ v, Blk w G.F 22 #[v] ∧ Lst w w0.heap.size v pre ∧ ∀ k, v.ownBlock = some k → k ∉ G.all
  pick : Blk w G.P 70 #[.func (.func 78) #[] #[.pointer (some ⟨G.F, 0, none⟩), .pointer (some ⟨G.H, 0, none⟩), .pointer (some ⟨G.W, 0, none⟩), .pointer (some ⟨G.T, 0, none⟩), .pointer (some ⟨G.S, 0, none⟩), .pointer (some ⟨G.L, 0, none⟩), .pointer (some ⟨G.P, 0, none⟩)]]
  winL : Own w 0 (some ⟨G.w, 0, none⟩) m m st.1.1
  tieL : Own w 0 (some ⟨G.t, 0, none⟩) m m st.1.2
  lefL : Own w 0 (some ⟨G.l, 0, none⟩) nL cL LE
  low : Below w0.heap.size w0 w
section
variable {G : Pl} {w0 w w' : World} {A : Option Addr} {m c nL cL : Nat} {LE pre : List Int} {st : Cnt}
theorem PW.kept (h : PW G w0 w A m c nL cL LE pre st) (hb : Below w.heap.size w w') : PW G w0 w' A m c nL cL LE pre st := by
  obtain ⟨h1, h2, h3, h4, h5, ⟨v, h6, h6l, h6n⟩, h7, h8, h9, h10, h11⟩ := h
  exact ⟨h1.below hb h1.lt, h2.below hb h2.lt, h3.below hb h3.lt, h4.below hb h4.lt, h5.below hb h5.lt, ⟨v, h6.below hb h6.lt, h6l.below hb, h6n⟩, h7.below hb h7.lt, h8.below hb (Nat.le_refl _), h9.below hb (Nat.le_refl _), h10.below hb (Nat.le_refl _), h11.trans (hb.mono h11.size)⟩
theorem PW.drewN (h : PW G w0 w A m c nL cL LE pre st) (q : Nat) : PW G w0 (w.drewN q) A m c nL cL LE pre st := h.kept (bdrewN (Below.refl _ _) q)
theorem PW.meet {ws ts : List Int} (h : PW G w0 w A m c nL cL LE pre st) (hN : G.all.Nodup) (hlow : ∀ k ∈ G.all, w0.heap.size ≤ k) (ht : Two w w' G.w G.t) (hw : Own w' 0 (some ⟨G.w, 0, none⟩) m m ws) (htl : Own w' 0 (some ⟨G.t, 0, none⟩) m m ts) :
    PW G w0 w' A m c nL cL LE pre ((ws, ts), st.2) := by
  obtain ⟨h1, h2, h3, h4, h5, ⟨v, h6, h6l, h6n⟩, h7, h8, h9, h10, h11⟩ := h
  exact ⟨blk_same h1 (ht.block _ h1.lt (Pl.ne hN 0 7) (Pl.ne hN 0 8)), blk_same h2 (ht.block _ h2.lt (Pl.ne hN 1 7) (Pl.ne hN 1 8)), blk_same h3 (ht.block _ h3.lt (Pl.ne hN 2 7) (Pl.ne hN 2 8)), blk_same h4 (ht.block _ h4.lt (Pl.ne hN 3 7) (Pl.ne hN 3 8)), blk_same h5 (ht.block _ h5.lt (Pl.ne hN 4 7) (Pl.ne hN 4 8)), ⟨v, blk_same h6 (ht.block _ h6.lt (Pl.ne hN 5 7) (Pl.ne hN 5 8)), lst_same h6l (fun k hk => ht.block k (h6l.blk k hk).2 (Pl.out (h6n k hk) 7) (Pl.out (h6n k hk) 8)), h6n⟩, blk_same h7 (ht.block _ h7.lt (Pl.ne hN 6 7) (Pl.ne hN 6 8)), hw, htl, own_same h10 (fun k hk => by obtain rfl : G.l = k := Option.some.inj hk; exact ht.block _ (h10.ownBlock _ rfl).2 (Pl.ne hN 9 7) (Pl.ne hN 9 8)), h11.trans (ht.below (Pl.low hlow 7) (Pl.low hlow 8) h11.size)⟩
theorem PW.sets_ (h : PW G w0 w A m c nL cL LE pre st) (hN : G.all.Nodup) (hlow : ∀ k ∈ G.all, w0.heap.size ≤ k) (x : Int) :
    PW G w0 (w.setCell ⟨G.S, 0, none⟩ (.int .i64 x)) A m c nL cL LE pre (st.1, x) := by
  obtain ⟨h1, h2, h3, h4, h5, ⟨v, h6, h6l, h6n⟩, h7, h8, h9, h10, h11⟩ := h
  exact ⟨h1.far (p := ⟨G.S, 0, none⟩) (Pl.ne hN 0 3) _, h2.far (p := ⟨G.S, 0, none⟩) (Pl.ne hN 1 3) _, h3.far (p := ⟨G.S, 0, none⟩) (Pl.ne hN 2 3) _, h4.put 0 _, h5.far (p := ⟨G.S, 0, none⟩) (Pl.ne hN 4 3) _, ⟨v, h6.far (p := ⟨G.S, 0, none⟩) (Pl.ne hN 5 3) _, lst_same h6l (fun k hk => heap_setCell_other _ ⟨G.S, 0, none⟩ k _ (Pl.out (h6n k hk) 3)), h6n⟩, h7.far (p := ⟨G.S, 0, none⟩) (Pl.ne hN 6 3) _, own_same h8 (fun k hk => by obtain rfl : G.w = k := Option.some.inj hk; exact heap_setCell_other _ ⟨G.S, 0, none⟩ _ _ (Pl.ne hN 7 3)), own_same h9 (fun k hk => by obtain rfl : G.t = k := Option.some.inj hk; exact heap_setCell_other _ ⟨G.S, 0, none⟩ _ _ (Pl.ne hN 8 3)), own_same h10 (fun k hk => by obtain rfl : G.l = k := Option.some.inj hk; exact heap_setCell_other _ ⟨G.S, 0, none⟩ _ _ (Pl.ne hN 9 3)), h11.setCell (p := ⟨G.S, 0, none⟩) (Pl.low hlow 3) _⟩
/-- what is appended to the cards that lie, and stored -/
theorem PW.push {w1 : World} {v v1 : Value} {ys : List Int} (h : PW G w0 w A m c nL cL LE pre st) (hN : G.all.Nodup) (hlow : ∀ k ∈ G.all, w0.heap.size ≤ k) (hv : Blk w G.F 22 #[v]) (hg : w.grownBy w1 v.ownBlock) (ho : Lst w1 w0.heap.size v1 ys)
    (hb : v1.ownBlock = v.ownBlock ∨ v1.ownBlock = some w.heap.size) : PW G w0 (w1.setCell ⟨G.F, 0, none⟩ v1) A m c nL cL LE ys st := by
  obtain ⟨h1, h2, h3, h4, h5, ⟨v', h6, h6l, h6n⟩, h7, h8, h9, h10, h11⟩ := h
  have e : v' = v := by
    have := h6.symm.trans hv
    simpa using this
  subst e
  have hlts : ∀ k ∈ G.all, k < w.heap.size := by
    intro k hk
    simp [Pl.all] at hk
    rcases hk with rfl | rfl | rfl | rfl | rfl | rfl | rfl | rfl | rfl | rfl
    · exact h1.lt
    · exact h2.lt
    · exact h3.lt
    · exact h4.lt
    · exact h5.lt
    · exact h6.lt
    · exact h7.lt
    · exact (h8.ownBlock _ rfl).2
    · exact (h9.ownBlock _ rfl).2
    · exact (h10.ownBlock _ rfl).2
  have hne : ∀ k ∈ G.all, some k ≠ v'.ownBlock := fun k hk e => h6n k e.symm hk
  have hv1 : ∀ k, v1.ownBlock = some k → k ∉ G.all := by
    intro k hk hm
    rcases hb with e | e
    · exact h6n k (by rw [← e]; exact hk) hm
    · rw [e] at hk
      have := hlts k hm
      simp at hk
      omega
  have hlb : Below w0.heap.size w w1 := (Below.refl _ _).grown hg h11.size (fun k hk => (h6l.blk k hk).1)
  have hx : ∀ k ∈ G.all, w1.heap[k]? = w.heap[k]? := fun k hk => hg.block k (hlts k hk) (hne k hk)
  exact ⟨(h1.grown hg (hne _ (Pl.mem 0))).far (p := ⟨G.F, 0, none⟩) (Pl.ne hN 0 5) _, (h2.grown hg (hne _ (Pl.mem 1))).far (p := ⟨G.F, 0, none⟩) (Pl.ne hN 1 5) _, (h3.grown hg (hne _ (Pl.mem 2))).far (p := ⟨G.F, 0, none⟩) (Pl.ne hN 2 5) _, (h4.grown hg (hne _ (Pl.mem 3))).far (p := ⟨G.F, 0, none⟩) (Pl.ne hN 3 5) _, (h5.grown hg (hne _ (Pl.mem 4))).far (p := ⟨G.F, 0, none⟩) (Pl.ne hN 4 5) _, ⟨v1, (h6.grown hg (hne _ (Pl.mem 5))).put 0 _, lst_same ho (fun k hk => heap_setCell_other _ ⟨G.F, 0, none⟩ k _ (Pl.out (hv1 k hk) 5)), hv1⟩, (h7.grown hg (hne _ (Pl.mem 6))).far (p := ⟨G.F, 0, none⟩) (Pl.ne hN 6 5) _, own_same h8 (fun k hk => by obtain rfl : G.w = k := Option.some.inj hk; exact (heap_setCell_other _ ⟨G.F, 0, none⟩ _ _ (Pl.ne hN 7 5)).trans (hx _ (Pl.mem 7))), own_same h9 (fun k hk => by obtain rfl : G.t = k := Option.some.inj hk; exact (heap_setCell_other _ ⟨G.F, 0, none⟩ _ _ (Pl.ne hN 8 5)).trans (hx _ (Pl.mem 8))), own_same h10 (fun k hk => by obtain rfl : G.l = k := Option.some.inj hk; exact (heap_setCell_other _ ⟨G.F, 0, none⟩ _ _ (Pl.ne hN 9 5)).trans (hx _ (Pl.mem 9))), (h11.trans hlb).setCell (p := ⟨G.F, 0, none⟩) (Pl.low hlow 5) _⟩
theorem PW.pop {x : Int} {A1 : Option Addr} {c1 : Nat} (h : PW G w0 w A m c nL cL LE (pre ++ [x]) st) (hN : G.all.Nodup) (hlow : ∀ k ∈ G.all, w0.heap.size ≤ k) (hv : Blk w G.F 22 #[.slice A1 (pre.length + 1) c1]) :
    PW G w0 (w.setCell ⟨G.F, 0, none⟩ (.slice A1 pre.length c1)) A m c nL cL LE pre st := by
  obtain ⟨v', h6, h6l, h6n⟩ := h.full
  have e : v' = .slice A1 (pre.length + 1) c1 := by
    have := h6.symm.trans hv
    simpa using this
  subst e
  obtain ⟨A', c', e2, ho⟩ := h6l.formn (n := pre.length + 1) (by simp)
  obtain ⟨rfl, rfl⟩ : A1 = A' ∧ c1 = c' := by simpa using e2
  obtain ⟨g, rfl, _⟩ := ho.form (by omega)
  refine PW.push h hN hlow hv ⟨rfl, rfl, rfl, Nat.le_refl _, fun _ _ _ => rfl⟩ (Lst.of (Own.chop ho)) (.inl rfl)
end

set_option maxRecDepth 100000 in
set_option maxHeartbeats 8000000 in
theorem pickW (G : Pl) (w0 : World) (A : Option Addr) (m c nL cL : Nat) (ts : List Sl) (pss : List (List Int)) (LE : List Int) (hR : RdS w0 w0.heap.size A m ts) (he : con ts = pss) (h2 : 2 ≤ m) (h4 : m ≤ 4) (hnL : LE.length = nL) (hL52 : nL ≤ 52) (hN : G.all.Nodup) (hlow : ∀ k ∈ G.all, w0.heap.size ≤ k) :
    ∀ (k : Nat) (pre : List Int) (at_ : Nat) (st : Cnt) (w : World), k + pre.length = 5 → at_ ≤ nL → FW pss m pre (LE.drop at_) → PW G w0 w A m c nL cL LE pre st →
    Calls Try.prog 78 #[.int .i64 (at_ : Int), .pointer (some ⟨G.F, 0, none⟩), .pointer (some ⟨G.H, 0, none⟩), .pointer (some ⟨G.W, 0, none⟩), .pointer (some ⟨G.T, 0, none⟩), .pointer (some ⟨G.S, 0, none⟩), .pointer (some ⟨G.L, 0, none⟩), .pointer (some ⟨G.P, 0, none⟩)] w
      fun e w' => e = .returned (.tuple #[]) ∧ PW G w0 w' A m c nL cL LE pre (pw pss k pre (LE.drop at_) st) := by
  intro k
  induction k with
  | zero =>
    intro pre at_ st w h5 hat hf hS
    have hp5 : pre.length = 5 := by omega
    have HS0 := hide hS
    obtain ⟨v, hF, hFl, hFn⟩ := hS.full
    obtain ⟨A1, c1, rfl, ho1⟩ := hFl.formn hp5
    have HJ := hide (judge_any A m c ts pss A1 c1 pre G.w G.t st.1.1 st.1.2 w ((hR.below hS.low).more hS.low.size) he h2 h4 ho1.rd ho1.cap.1 (fun j hj => ⟨(hf j hj).1.left, (hf j hj).2⟩) hS.winL hS.tieL (Pl.ne hN 7 8))
    have hc1 := hF.cell 0
    have hc2 := hS.hands.cell 0
    have hc3 := hS.wins.cell 0
    have hc4 := hS.ties.cell 0
    rw [pw_zero]
    obtain ⟨U, hU⟩ := ex_eq (meetS pss pre st)
    rw [hU]
    have HU := hide hU
    have HN := hide hN
    have HLOW := hide hlow
    clear hU hN hlow hS hF hFl hFn ho1 hR he hf
    go_enter Try.func78, Try.ntmps78
    go_wp2_with (go_at_call 79; refine HJ.out.mono ?_; rintro e w1 ⟨rfl, hW1, hT1, ht⟩; have hS1 := PW.meet HS0.out HN.out HLOW.out ht hW1 hT1; have hcs := hS1.sets.cell 0; have hfs := hS1.sets.frozen 0)
    have hS2 := hS1.sets_ HN.out HLOW.out (wrap64 (st.2 + 1))
    refine bodyPost_ret (results_none rfl _ _ _) rfl ?_
    exact ⟨rfl, by rw [← HU.out]; exact hS2⟩
  | succ k ih =>
    intro pre at_ st w h5 hat hf hS
    have hl5 : ((pre.length : Int) == 5) = false := by simp; omega
    have hl5' : (pre.length == 5) = false := by simp; omega
    obtain ⟨FIN, hFIN⟩ := ex_eq (pw pss (k + 1) pre (LE.drop at_) st)
    rw [hFIN]
    have HF0 := hide hFIN
    have HFI := hide hf
    have HIH := hide ih
    have HS0 := hide hS
    have HNL := hide hnL
    have HN := hide hN
    have HLOW := hide hlow
    obtain ⟨v, hF, hFl, hFn⟩ := hS.full
    obtain ⟨A1, c1, rfl, ho1⟩ := hFl.form
    have hc1 := hF.cell 0
    clear hFIN hf hS ih hN hlow hF hFl hFn ho1 hR he hnL
    go_enter Try.func78, Try.ntmps78
    go_wp2_with fail
    have HFI0 := HFI
    clear hc1 HFI
    go_loopw [9] (fun s wr => ∃ (i : Nat) (st : Cnt), i ≤ nL ∧ s = .int .i64 i ∧ PW G w0 wr A m c nL cL LE pre st ∧ Hid (pw pss (k + 1) pre (LE.drop i) st = FIN) ∧ Hid (FW pss m pre (LE.drop i))) (fun s _ => nL - (intOf s).toNat)
    case atStart => exact ⟨at_, st, hat, rfl, HS0.out, HF0, HFI0⟩
    case round =>
      clear HS0 HF0 HFI0
      obtain ⟨i, st, hi, rfl, hS, hF, hfi⟩ := hrel
      have hc1 := hS.left.cell 0
      by_cases hlt : i < nL
      · have hkx : i < LE.length := by rw [HNL.out]; exact hlt
        have hFx := hF.out
        rw [pw_drop _ _ _ _ _ _ hkx] at hFx
        have HPK := hide (FW.pick hfi.out hkx)
        have HSK := hide (FW.skip hfi.out)
        have hc := World.ownsRow.cellAt (h := hS.lefL) i (by omega)
        rw [ivs_at _ _ hkx] at hc
        obtain ⟨v, hFb, hFl, hFn⟩ := hS.full
        have HFN := hide (fun (e : some G.F = v.ownBlock) => hFn G.F e.symm (Pl.mem 5))
        obtain ⟨A1, c1, rfl, ho1⟩ := hFl.form
        have hc4 := hFb.cell 0
        have hf4 := hFb.frozen 0
        have HFB := hide hFb
        have HFL := hide hFl
        have HFX := hide hFx
        have HS := hide hS
        have hwb := hS.low.size
        have hz1 := hS.left.lt
        have hz2 := (hS.lefL.ownBlock _ rfl).2
        have hz3 := hFb.lt
        obtain ⟨x, hx⟩ := ex_eq (LE.getD i 0)
        rw [hx] at hc HPK HFX
        clear hkx hFx hx hF hfi hS hFb hFl hFn ho1
        go_upto_region 7 with fail
        go_region_law (refine step_app rfl (.tmp 27) (.tmp 32) rfl w0.heap.size _ pre [x] rfl ((HFL.out.alloc _).drewN 1) (some ⟨wr.heap.size, 0, none⟩) 1 1 rfl ((rd_one wr x 2).drewN 1) (fun h => by cases h) (by omega) (by simp; omega) ?_; intro v2 w2 ho2 hg2 hbk2; have hfv := ((HFB.out.alloc (.cells #[.int .i64 x] 2)).drewN 1).grown hg2 HFN.out; have hc42 := hfv.cell 0; have hf42 := hfv.frozen 0; obtain ⟨A2, c2, rfl, ho2'⟩ := ho2.formn (n := pre.length + 1) (by simp); clear ho2')
        all_goals
          have hSp := PW.push ((HS.out.kept ((Below.refl _ _).alloc (Nat.le_refl _) (.cells #[.int .i64 x] 2))).drewN 1) HN.out HLOW.out ((HFB.out.alloc (.cells #[.int .i64 x] 2)).drewN 1) hg2 ho2 hbk2
          have hcp := hSp.pick.cell 0
          have HIC := hide (HIH.out (pre ++ [x]) (i + 1) st _ (by simp; omega) (by omega) HPK.out hSp)
          clear hSp
          go_wp2_with (go_at_call 78; refine HIC.out.mono ?_; rintro e w3 ⟨rfl, hS3⟩; obtain ⟨v3, hF3, hFl3, hFn3⟩ := hS3.full; obtain ⟨A3, c3, rfl, ho3⟩ := hFl3.formn (n := pre.length + 1) (by simp); obtain ⟨g3, rfl, _, _⟩ := ho3.form (by omega); have hca3 := ho3.cap; have hc43 := hF3.cell 0; have hf43 := hF3.frozen 0; have HS3 := hide hS3; have HF3 := hide hF3; clear ho3 hFl3 hFn3 hS3 hF3)
          go_roundw
          case rel => exact ⟨i + 1, _, by omega, by go_num, HS3.out.pop HN.out HLOW.out HF3.out, HFX, HSK⟩
          case measure => simp [intOf]; omega
      · have hge : LE.length ≤ i := by rw [HNL.out]; omega
        have hFx := hF.out
        rw [pw_over _ _ _ _ _ _ hge] at hFx
        have HFX := hide hFx
        have HS := hide hS
        clear hFx hF hfi hS hge
        go_wp2
        go_end0
        exact ⟨rfl, by rw [← HFX.out]; exact HS.out⟩

end Go.Proofs.Ytlldocdmjeeaaaa.hand
