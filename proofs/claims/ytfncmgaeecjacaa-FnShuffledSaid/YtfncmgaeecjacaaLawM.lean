/-
  Words by which a statement over lists of lists is walked. Conditions: those of each theorem.
-/
import Derived.Test.YtfncmgaeecjacaaGrid
namespace Go.Proofs.Ytfncmgaeecjacaa.grid
open Go.RowKit
open base mem

def SegS (w : World) (lo hi : Nat) (A : Option Addr) (m c : Nat) (ts : List Sl) : Prop := OwnS w lo A m c ts ∧ ∀ k, (Value.slice A m c).ownBlock = some k ∨ (∃ t ∈ ts, t.val.ownBlock = some k) → k < hi
/-- outside lo .. hi nothing turned -/
def Turned (lo hi : Nat) (w w' : World) : Prop := w'.heap.size = w.heap.size ∧ w'.os = w.os ∧ w'.tape = w.tape ∧ w'.output = w.output ∧ ∀ j, (j < lo ∨ hi ≤ j) → w'.heap[j]? = w.heap[j]?
def totL (x : List (List Int)) : Nat := (x.map List.length).sum
section
variable {w w' : World} {lo hi B : Nat} {A : Option Addr} {m c : Nat} {ts : List Sl}
theorem SegS.of (h : OwnS w lo A m c ts) : SegS w lo w.heap.size A m c ts := ⟨h, fun k hk => (h.lt k hk).2⟩
theorem SegS.len (h : SegS w lo hi A m c ts) : ts.length = m := h.1.len
theorem SegS.cap (h : SegS w lo hi A m c ts) : m ≤ c := h.1.cap.1
theorem SegS.rd (h : SegS w lo hi A m c ts) (hB : hi ≤ B) : RdS w B A m ts := by
  have hr := h.1.rd
  refine ⟨hr.1, fun t ht => ?_, fun hm => ?_⟩
  · obtain ⟨h1, h2, h3⟩ := hr.2.1 t ht
    refine ⟨⟨h1.1, fun h0 => ?_⟩, h2, h3⟩
    obtain ⟨b, o, e, _, hc⟩ := h1.2 h0
    exact ⟨b, o, e, Nat.lt_of_lt_of_le (h.2 b (.inr ⟨t, ht, by rw [Sl.val, e]; rfl⟩)) hB, hc⟩
  · obtain ⟨b, o, e, _, hc⟩ := hr.2.2 hm
    exact ⟨b, o, e, Nat.lt_of_lt_of_le (h.2 b (.inl (by rw [e]; rfl))) hB, hc⟩
theorem SegS.below (h : SegS w lo hi A m c ts) (hb : Below B w w') (hB : hi ≤ B) : SegS w' lo hi A m c ts :=
  ⟨h.1.kept fun k hk => hb.block k (by have := h.2 k hk; omega), h.2⟩
theorem SegS.grown (h : SegS w lo hi A m c ts) {row : Option Nat} (hg : w.grownBy w' row) (hr : ∀ k, row = some k → k < lo ∨ hi ≤ k) : SegS w' lo hi A m c ts :=
  ⟨h.1.kept fun k hk => hg.block k (h.1.lt k hk).2 (fun e => by
    have h1 := (h.1.lt k hk).1
    have h2 := h.2 k hk
    rcases hr k e.symm with h3 | h3 <;> omega), h.2⟩
theorem SegS.apart {lo' hi' : Nat} (h : SegS w lo hi A m c ts) (hT : Turned lo' hi' w w') (hd : hi ≤ lo' ∨ hi' ≤ lo) : SegS w' lo hi A m c ts :=
  ⟨h.1.kept fun k hk => hT.2.2.2.2 k (by
    have h1 := (h.1.lt k hk).1
    have h2 := h.2 k hk
    omega), h.2⟩
theorem Seg.apart {n : Nat} {xs : List Int} {lo' hi' : Nat} (h : Seg w lo hi A n c xs) (hT : Turned lo' hi' w w') (hd : hi ≤ lo' ∨ hi' ≤ lo) : Seg w' lo hi A n c xs := by
  refine ⟨⟨h.1.1, ?_⟩, h.2⟩
  rcases h.1.2 with h0 | ⟨g, cap, cur, hv, hlo, hg, r⟩
  · exact .inl h0
  · refine .inr ⟨g, cap, cur, hv, hlo, ?_, r⟩
    have hgh : g < hi := h.2 g (by rw [hv]; rfl)
    rw [hT.2.2.2.2 g (by omega)]
    exact hg
theorem Turned.below (hT : Turned lo hi w w') : Below lo w w' := ⟨hT.2.1, hT.2.2.1, hT.2.2.2.1, Nat.le_of_eq hT.1.symm, fun k hk => hT.2.2.2.2 k (.inl hk)⟩
theorem rd_rows {x : List (List Int)} (h : RdS w B A m ts) (e : con ts = x) (hM : ∀ p ∈ x, p.length ≤ 1048576) : ∀ t ∈ ts, t.n ≤ 1048576 := by
  intro t ht
  rw [← (h.2.1 t ht).1.len]
  exact hM _ (by rw [← e]; exact List.mem_map_of_mem ht)
theorem rd_tot {x : List (List Int)} (h : RdS w B A m ts) (e : con ts = x) : tot ts = totL x := by
  rw [tot_con ts (fun t ht => (h.2.1 t ht).1.len), e]
  rfl
theorem totL_rows {x : List (List Int)} {k : Nat} (h : totL x ≤ k) : ∀ p ∈ x, p.length ≤ k := by
  intro p hp
  refine Nat.le_trans ?_ h
  unfold totL
  obtain ⟨i, hi⟩ := List.getElem?_of_mem hp
  have hil := (List.getElem?_eq_some_iff.1 hi).1
  have he := (List.getElem?_eq_some_iff.1 hi).2
  have h1 := List.take_append_drop i x
  rw [← h1, List.map_append, List.sum_append, List.drop_eq_getElem_cons hil, he]
  simp
  omega
end
/-- rows of numbers that came in -/
def IsRows (w : World) (a : Option Addr) (len cap : Nat) (ts : List Sl) : Prop := RdS w w.heap.size a len ts ∧ len ≤ cap ∧ len ≤ 9223372036854775807 ∧ ∀ t ∈ ts, t.n ≤ 9223372036854775807
theorem isRows_nil (w : World) : IsRows w none 0 0 [] := ⟨RdS.nil, Nat.le_refl _, by omega, fun t h => by simp at h⟩
theorem cell_block {w : World} {b o : Nat} {v : Value} (h : w.cell? ⟨b, o, none⟩ = some v) : b < w.heap.size := by
  rcases Nat.lt_or_ge b w.heap.size with hlt | hge
  · exact hlt
  · simp [World.cell?, Array.getElem?_eq_none hge] at h
theorem isRows_mk {w : World} {x : Addr} {len cap : Nat} {A : Nat → Option Addr} {L C : Nat → Nat} {Z : Nat → List Int} (hl : len ≤ cap) (hm : cap ≤ maxLen)
    (hr : ∀ r, r < cap → w.cell? (x.add r) = some (.slice (A r) (L r) (C r)) ∧ L r ≤ C r ∧ C r ≤ maxLen ∧ (Z r).length = C r ∧ (A r = none → C r = 0) ∧ ∀ a', A r = some a' → ∀ c, c < C r → w.cell? (a'.add c) = some (.int .i64 ((Z r).getD c 0))) :
    IsRows w (some x) len cap ((List.range len).map fun r => Sl.mk (A r) (L r) (C r) ((Z r).take (L r))) := by
  have hin : ∀ t ∈ ((List.range len).map fun r => Sl.mk (A r) (L r) (C r) ((Z r).take (L r))), ∃ r, r < len ∧ Sl.mk (A r) (L r) (C r) ((Z r).take (L r)) = t := by
    intro t ht
    obtain ⟨r, hr, e⟩ := List.mem_map.1 ht
    exact ⟨r, List.mem_range.1 hr, e⟩
  refine ⟨⟨by simp, fun t ht => ?_, fun h0 => ?_⟩, hl, by unfold maxLen at hm; omega, fun t ht => ?_⟩
  · obtain ⟨r, hrl, rfl⟩ := hin t ht
    obtain ⟨h1, h2, h3, h4, h5, h6⟩ := hr r (by omega)
    refine ⟨⟨by rw [List.length_take]; show min (L r) _ = L r; omega, fun h0 => ?_⟩, h2, h5⟩
    have h0' : 0 < L r := h0
    cases hA : A r with
    | none => have := h5 hA; omega
    | some a' =>
      obtain ⟨b, o, rfl, hc⟩ := ints_at (w := w) (a := a') (k := .i64) (zs := Z r) (fun i hi => h6 a' hA i (by omega)) (by omega)
      refine ⟨b, o, rfl, cell_block (hc 0 (by omega)), fun k hk => ?_⟩
      have hk' : k < L r := hk
      rw [hc k (by omega)]
      simp [List.getD, hk']
  · obtain ⟨b, off, spot⟩ := x
    have hspot : spot = none := by simpa [Addr.add] using World.cell?_spot (hr 0 (by omega)).1
    subst hspot
    have hcell : ∀ r, r < cap → w.cell? ⟨b, off + r, none⟩ = some (.slice (A r) (L r) (C r)) := fun r h => by
      have := (hr r h).1
      rw [Go.WideShapes.add_plain] at this
      exact this
    refine ⟨b, off, rfl, cell_block (hcell 0 (by omega)), fun i t ht => ?_⟩
    have hil : i < len := by
      have := (List.getElem?_eq_some_iff.1 ht).1
      simpa using this
    rw [hcell i (by omega)]
    rw [List.getElem?_map, List.getElem?_range hil] at ht
    injection ht with ht
    rw [← ht]
    rfl
  · obtain ⟨r, hrl, rfl⟩ := hin t ht
    obtain ⟨_, h2, h3, _⟩ := hr r (by omega)
    unfold maxLen at h3
    show L r ≤ _
    omega
theorem toM (A : Option Addr) (n c : Nat) (ts : List Sl) (x : List (List Int)) (w : World) (hR : RdS w w.heap.size A n ts) (hx : con ts = x) (hn : n ≤ 1048576) (hM : ∀ p ∈ x, p.length ≤ 1048576) :
    Calls Try.prog 37 #[.slice A n c] w fun e w' => ∃ A' c' us, e = .returned (.slice A' n c') ∧ SegS w' w.heap.size w'.heap.size A' n c' us ∧ con us = x ∧ Below w.heap.size w w' :=
  (toInt64SS_any A n c ts w hR hn (rd_rows hR hx hM)).mono fun _ _ ⟨A', c', us, he, ho, hc, hb⟩ => ⟨A', c', us, he, SegS.of ho, hc.trans hx, hb⟩
theorem eqM (A A' : Option Addr) (n c c' : Nat) (ts us : List Sl) (x : List (List Int)) (w : World) (hR : RdS w w.heap.size A n ts) (hS : RdS w w.heap.size A' n us) (hx : con ts = x) (hy : con us = x) (hn : n ≤ 1048576) (hM : ∀ p ∈ x, p.length ≤ 1048576) :
    Calls Try.prog 32 #[.slice A n c, .slice A' n c'] w fun e w' => e = .returned (.bool true) ∧ Below w.heap.size w w' :=
  (eqInt64SS_true A A' n c c' ts us w _ _ hR hS (hx.trans hy.symm) hn (rd_rows hR hx hM)).mono fun _ _ ⟨he, q, hq⟩ => ⟨he, by rw [hq]; exact below_drewN (Below.refl _ _) q⟩
theorem markM (A : Option Addr) (n c : Nat) (ts : List Sl) (x : List (List Int)) (w : World) (lo hi : Nat) (h : SegS w lo hi A n c ts) (hx : con ts = x) (k : Nat) (hn : n ≤ 1048576) (hk : k + totL x ≤ 100000000) :
    Calls Try.prog 33 #[.slice A n c, .int .i64 k] w fun e w' => e = .returned (.int .i64 ((k + totL x : Nat) : Int)) ∧ (∃ us, SegS w' lo hi A n c us ∧ tot us = totL x ∧ Marked k us n) ∧ Turned lo hi w w' := by
  have ht := rd_tot h.1.rd hx
  rw [← ht] at hk ⊢
  refine (markInt64SS_any A n c ts w lo h.1 k hn hk).mono ?_
  rintro e w' ⟨rfl, ⟨us, ho, hv, hm⟩, h1, h2, h3, h4, h5⟩
  have hmem : ∀ k, (∃ t ∈ us, t.val.ownBlock = some k) → ∃ t ∈ ts, t.val.ownBlock = some k := by
    rintro k ⟨t, ht, e⟩
    have : t.val ∈ vals ts := by rw [← hv]; exact List.mem_map_of_mem ht
    obtain ⟨s, hs, e2⟩ := List.mem_map.1 this
    exact ⟨s, hs, by rw [e2]; exact e⟩
  refine ⟨rfl, ⟨us, ⟨ho, fun k hk => ?_⟩, ?_, hm⟩, h1, h2, h3, h4, fun j hj => h5 j fun t ht e => ?_⟩
  · rcases hk with hk | hk
    · exact h.2 k (.inl hk)
    · exact h.2 k (.inr (hmem k hk))
  · unfold tot
    rw [szTo_vals hv, ho.len, h.1.len]
  · have h6 := h.1.lt j (.inr ⟨t, ht, e⟩)
    have h7 := h.2 j (.inr ⟨t, ht, e⟩)
    omega

end Go.Proofs.Ytfncmgaeecjacaa.grid
