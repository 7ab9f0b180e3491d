/-
  Words for lists of lists of numbers in memory, and the contracts of the statements' functions that copy, compare, measure, mark and ask them. Conditions: those of each theorem.
-/
import Derived.Test.YtfncmgaeecjacaaApp
import Derived.Test.YtfncmgaeecjacaaLaw
import Derived.Test.YtfncmgaeecjacaaMem2
namespace Go.Proofs.Ytfncmgaeecjacaa.grid
open Go.RowKit
open base mem

/-- a list as it lies in a cell: its value's three parts and what it holds -/
structure Sl where
  A : Option Addr
  n : Nat
  c : Nat
  xs : List Int
def Sl.val (t : Sl) : Value := .slice t.A t.n t.c
def Sl.blank : Sl := ⟨none, 0, 0, []⟩
def Sl.ok (w : World) (B : Nat) (t : Sl) : Prop := Rd w B t.A t.n t.xs ∧ t.n ≤ t.c ∧ (t.A = none → t.c = 0)
def vals (ts : List Sl) : List Value := ts.map Sl.val
def con (ts : List Sl) : List (List Int) := ts.map Sl.xs
theorem con_len (ts : List Sl) : (con ts).length = ts.length := by simp [con]
theorem con_at {ts : List Sl} {k : Nat} {t : Sl} (h : ts[k]? = some t) : (con ts)[k]? = some t.xs := by simp [con, h]
theorem vals_len (ts : List Sl) : (vals ts).length = ts.length := by simp [vals]
theorem vals_at {ts : List Sl} {k : Nat} {t : Sl} (h : ts[k]? = some t) : (vals ts)[k]? = some t.val := by simp [vals, h]
theorem vals_set (ts : List Sl) (k : Nat) (t : Sl) : (vals ts).set k t.val = vals (ts.set k t) := by simp [vals, List.map_set]
theorem con_set (ts : List Sl) (k : Nat) (t : Sl) : con (ts.set k t) = (con ts).set k t.xs := by simp [con, List.map_set]
/-- '.slice A m c' reads as the lists ts, everything from blocks below B -/
def RdS (w : World) (B : Nat) (A : Option Addr) (m : Nat) (ts : List Sl) : Prop :=
  ts.length = m ∧ (∀ t ∈ ts, t.ok w B) ∧ (0 < m → ∃ b o, A = some ⟨b, o, none⟩ ∧ b < B ∧ ∀ i t, ts[i]? = some t → w.cell? ⟨b, o + i, none⟩ = some t.val)
section
variable {w w' : World} {B B' : Nat} {A : Option Addr} {m : Nat} {ts : List Sl} {t : Sl}
theorem Sl.ok.keep (h : t.ok w B) (hk : ∀ p : Addr, p.block < B → w'.cell? p = w.cell? p) : t.ok w' B := ⟨h.1.keep hk, h.2⟩
theorem Sl.ok.more (h : t.ok w B) (hB : B ≤ B') : t.ok w B' := ⟨h.1.more hB, h.2⟩
theorem Sl.ok.below (h : t.ok w B) (hb : Below B w w') : t.ok w' B := h.keep fun _ hp => hb.cell hp
theorem RdS.len (h : RdS w B A m ts) : ts.length = m := h.1
theorem RdS.nil : RdS w B A 0 [] := ⟨rfl, (fun _ h => by simp at h), fun h => absurd h (by omega)⟩
theorem RdS.keep (h : RdS w B A m ts) (hk : ∀ p : Addr, p.block < B → w'.cell? p = w.cell? p) : RdS w' B A m ts :=
  ⟨h.1, fun t ht => (h.2.1 t ht).keep hk, fun hm => by
    obtain ⟨b, o, e, hb, hc⟩ := h.2.2 hm
    exact ⟨b, o, e, hb, fun i t ht => (hk _ hb).trans (hc i t ht)⟩⟩
theorem RdS.more (h : RdS w B A m ts) (hB : B ≤ B') : RdS w B' A m ts :=
  ⟨h.1, fun t ht => (h.2.1 t ht).more hB, fun hm => by
    obtain ⟨b, o, e, hb, hc⟩ := h.2.2 hm
    exact ⟨b, o, e, by omega, hc⟩⟩
theorem RdS.below (h : RdS w B A m ts) (hb : Below B w w') : RdS w' B A m ts := h.keep fun _ hp => hb.cell hp
theorem RdS.drewN (h : RdS w B A m ts) (q : Nat) : RdS (w.drewN q) B A m ts := h
theorem RdS.at_ (h : RdS w B A m ts) {k : Nat} (hk : k < m) : ∃ b o t, A = some ⟨b, o, none⟩ ∧ b < B ∧ ts[k]? = some t ∧ w.cell? ⟨b, o + k, none⟩ = some (.slice t.A t.n t.c) ∧ t.ok w B := by
  obtain ⟨b, o, e, hb, hc⟩ := h.2.2 (by omega)
  have hl : k < ts.length := by rw [h.1]; exact hk
  have ht : ts[k]? = some ts[k] := List.getElem?_eq_getElem hl
  exact ⟨b, o, ts[k], e, hb, ht, hc k _ ht, h.2.1 _ (List.getElem_mem hl)⟩
end
/-- '.slice A m c' lies in a block of its own from B on, its lists too, no two in one block -/
def OwnS (w : World) (B : Nat) (A : Option Addr) (m c : Nat) (ts : List Sl) : Prop :=
  w.ownsRow B 22 1 (.slice A m c) m (vals ts) ∧ (∀ t ∈ ts, Own w B t.A t.n t.c t.xs) ∧ (∀ t ∈ ts, t.val.ownBlock = none ∨ t.val.ownBlock ≠ (Value.slice A m c).ownBlock) ∧
    ∀ (i j : Nat) (t u : Sl), i ≠ j → ts[i]? = some t → ts[j]? = some u → t.val.ownBlock = none ∨ t.val.ownBlock ≠ u.val.ownBlock
section
variable {w w' w1 : World} {B B' : Nat} {A : Option Addr} {m c : Nat} {ts : List Sl} {t u : Sl}
theorem OwnS.len (h : OwnS w B A m c ts) : ts.length = m := by have := h.1.1; simpa [vals] using this
theorem OwnS.form (h : OwnS w B A m c ts) (hm : 0 < m) : ∃ g, A = some ⟨g, 0, none⟩ ∧ B ≤ g ∧ g < w.heap.size := by
  rcases h.1.2 with ⟨_, h0⟩ | ⟨g, cap, cur, hv, hb, hg, _⟩
  · omega
  · refine ⟨g, ?_, hb, (Array.getElem?_eq_some_iff.1 hg).1⟩
    injection hv
theorem OwnS.cap (h : OwnS w B A m c ts) : m ≤ c ∧ c ≤ 9223372036854775807 := by
  rcases h.1.2 with ⟨h0, h1⟩ | ⟨g', cap, cur, hv, _, _, hnc, hcm, _⟩
  · injection h0 with _ _ e; omega
  · injection hv with _ _ e3; unfold maxLen at hcm; omega
theorem own_ok (h : Own w B t.A t.n t.c t.xs) : t.ok w w.heap.size := ⟨h.rd, h.cap.1, h.nilc⟩
theorem OwnS.rd (h : OwnS w B A m c ts) : RdS w w.heap.size A m ts := by
  refine ⟨h.len, fun t ht => own_ok (h.2.1 t ht), fun hm => ?_⟩
  obtain ⟨g, rfl, _, hlt⟩ := h.form hm
  refine ⟨g, 0, rfl, hlt, fun k t ht => ?_⟩
  have hk := (List.getElem?_eq_some_iff.1 ht).1
  rw [Nat.zero_add, World.ownsRow.cellAt (h := h.1) k (by rw [Nat.mul_one, ← h.len]; exact hk), vals_at ht]
theorem OwnS.kept (h : OwnS w B A m c ts) (hb : ∀ k, (Value.slice A m c).ownBlock = some k ∨ (∃ t ∈ ts, t.val.ownBlock = some k) → w'.heap[k]? = w.heap[k]?) : OwnS w' B A m c ts := by
  have key : ∀ {T : TypeId} {v : Value} {n : Nat} {xs : List Value}, w.ownsRow B T 1 v n xs → (∀ k, v.ownBlock = some k → w'.heap[k]? = w.heap[k]?) → w'.ownsRow B T 1 v n xs := by
    intro T v n xs h0 hk
    refine ⟨h0.1, ?_⟩
    rcases h0.2 with h1 | ⟨g, cap, cur, hv, hlo, hg, r⟩
    · exact .inl h1
    · refine .inr ⟨g, cap, cur, hv, hlo, ?_, r⟩
      rw [hk g (by rw [hv]; rfl)]
      exact hg
  exact ⟨key h.1 (fun k hk => hb k (.inl hk)), fun t ht => key (h.2.1 t ht) (fun k hk => hb k (.inr ⟨t, ht, hk⟩)), h.2.2⟩
theorem OwnS.lt (h : OwnS w B A m c ts) : ∀ k, (Value.slice A m c).ownBlock = some k ∨ (∃ t ∈ ts, t.val.ownBlock = some k) → B ≤ k ∧ k < w.heap.size := by
  rintro k (hk | ⟨t, ht, hk⟩)
  · exact World.ownsRow.lt h.1 k hk
  · exact World.ownsRow.lt (h.2.1 t ht) k hk
theorem OwnS.below (h : OwnS w B A m c ts) (hb : Below B' w w') (hB : w.heap.size ≤ B') : OwnS w' B A m c ts :=
  h.kept fun k hk => hb.block k (by have := (h.lt k hk).2; omega)
theorem OwnS.drewN (h : OwnS w B A m c ts) (q : Nat) : OwnS (w.drewN q) B A m c ts := h
theorem OwnS.mono (h : OwnS w B A m c ts) (hB : B' ≤ B) : OwnS w B' A m c ts := by
  have key : ∀ {T : TypeId} {v : Value} {n : Nat} {xs : List Value}, w.ownsRow B T 1 v n xs → w.ownsRow B' T 1 v n xs := by
    intro T v n xs h0
    refine ⟨h0.1, ?_⟩
    rcases h0.2 with h1 | ⟨g, cap, cur, hv, hlo, r⟩
    · exact .inl h1
    · exact .inr ⟨g, cap, cur, hv, by omega, r⟩
  exact ⟨key h.1, fun t ht => key (h.2.1 t ht), h.2.2⟩
theorem OwnS.nil (w : World) (B : Nat) : OwnS w B none 0 0 [] := ⟨World.ownsRow_nil w B 22 1, (fun _ h => by simp at h), (fun _ h => by simp at h), (fun _ _ _ _ _ h => by simp at h)⟩
/-- a new list is laid into place i: its block came after the world w -/
theorem OwnS.put {g : Nat} (h : OwnS w B (some ⟨g, 0, none⟩) m c ts) (hb : Below w.heap.size w w1) (hu : Own w1 w.heap.size u.A u.n u.c u.xs) (hB : B ≤ w.heap.size) {i : Nat} :
    OwnS (w1.setCell ⟨g, i, none⟩ u.val) B (some ⟨g, 0, none⟩) m c (ts.set i u) ∧ w1.grownBy (w1.setCell ⟨g, i, none⟩ u.val) (some g) := by
  have h1 := h.below hb (Nat.le_refl _)
  obtain ⟨hst, hgr⟩ := World.ownsRow.stored (h := h1.1) i u.val
  rw [vals_set] at hst
  have hgl := h.lt g (.inl rfl)
  have hub : ∀ k, u.val.ownBlock = some k → w.heap.size ≤ k := fun k hk => (World.ownsRow.lt hu k hk).1
  have hug : u.val.ownBlock = none ∨ u.val.ownBlock ≠ some g := by
    cases hk : u.val.ownBlock with
    | none => exact .inl rfl
    | some k => exact .inr (fun e => by have := hub k hk; injection e with e; omega)
  refine ⟨⟨hst, ?_, ?_, ?_⟩, hgr⟩
  · intro t ht
    rcases List.mem_or_eq_of_mem_set ht with h2 | rfl
    · exact World.ownsRow.kept (h1.2.1 t h2) hgr (h1.2.2.1 t h2)
    · exact World.ownsRow.kept (Own.mono hu hB) hgr hug
  · intro t ht
    rcases List.mem_or_eq_of_mem_set ht with h2 | rfl
    · exact h1.2.2.1 t h2
    · exact hug
  · intro p q t v hpq ht hv
    rw [List.getElem?_set] at ht hv
    split at ht
    · next e =>
      subst e
      rw [if_neg hpq] at hv
      split at ht
      · injection ht with ht
        subst ht
        cases hk : u.val.ownBlock with
        | none => exact .inl rfl
        | some k =>
          refine .inr fun e => ?_
          have := hub k hk
          have := (h.lt k (.inr ⟨v, List.mem_of_getElem? hv, e.symm⟩)).2
          omega
      · cases ht
    · split at hv
      · split at hv
        · injection hv with hv
          subst hv
          cases hk : t.val.ownBlock with
          | none => exact .inl rfl
          | some k =>
            refine .inr fun e => ?_
            have := hub k e.symm
            have := (h.lt k (.inr ⟨t, List.mem_of_getElem? ht, hk⟩)).2
            omega
        · cases hv
      · exact h1.2.2.2 p q t v hpq ht hv
end
theorem own_cells {w : World} {B : Nat} {A : Option Addr} {m c : Nat} {ts : List Sl} (h : OwnS w B A m c ts) {k : Nat} (hk : k < m) : ∃ g t, A = some ⟨g, 0, none⟩ ∧ g < w.heap.size ∧ B ≤ g ∧ ts[k]? = some t ∧ w.cell? ⟨g, k, none⟩ = some (.slice t.A t.n t.c) ∧ Own w B t.A t.n t.c t.xs ∧ w.frozen? ⟨g, k, none⟩ = false := by
  obtain ⟨g, rfl, hB, hlt⟩ := h.form (by omega)
  have hl : k < ts.length := by rw [h.len]; exact hk
  have ht : ts[k]? = some ts[k] := List.getElem?_eq_getElem hl
  refine ⟨g, ts[k], rfl, hlt, hB, ht, ?_, h.2.1 _ (List.getElem_mem hl), World.ownsRow.frozenAt (h := h.1) k⟩
  rw [World.ownsRow.cellAt (h := h.1) k (by omega), vals_at ht]
  rfl
theorem blank_row (w : World) (B : Nat) : Own w B Sl.blank.A Sl.blank.n Sl.blank.c Sl.blank.xs := Own.nil w B

theorem info_row : (Try.prog.info? 22).map (fun i => (i.zero, i.size, i.bytes)) = some (some (.slice none 0 0), 1, 24) := by kernel_rfl
/-- the first k lists laid, blank ones behind -/
def part (us : List Sl) (n : Nat) : List Sl := us ++ List.replicate (n - us.length) Sl.blank
theorem part_set {us : List Sl} {n : Nat} (t : Sl) (h : us.length < n) : (part us n).set us.length t = part (us ++ [t]) n := by
  unfold part
  obtain ⟨m, hm⟩ : ∃ m, n - us.length = m + 1 := ⟨n - us.length - 1, by omega⟩
  rw [List.set_append_right _ _ (Nat.le_refl _), Nat.sub_self, hm, List.replicate_succ, List.set_cons_zero, List.length_append, List.append_assoc]
  simp
  rw [show n - (us.length + 1) = m by omega]
theorem part_full {us : List Sl} {n : Nat} (h : us.length = n) : part us n = us := by subst h; simp [part]
theorem blanks_own (w : World) (B g m c : Nat) (h : w.ownsRow B 22 1 (.slice (some ⟨g, 0, none⟩) m c) m (vals (List.replicate m Sl.blank))) : OwnS w B (some ⟨g, 0, none⟩) m c (List.replicate m Sl.blank) := by
  refine ⟨h, fun t ht => ?_, fun t ht => ?_, fun i j t u _ ht _ => ?_⟩
  · rw [(List.mem_replicate.1 ht).2]; exact blank_row w B
  · rw [(List.mem_replicate.1 ht).2]; exact .inl rfl
  · rw [(List.mem_replicate.1 (List.mem_of_getElem? ht)).2]; exact .inl rfl

set_option maxHeartbeats 1000000 in
theorem toInt64SS_any (A : Option Addr) (n c : Nat) (ts : List Sl) (w : World) (hR : RdS w w.heap.size A n ts) (hn : n ≤ 1048576) (hM : ∀ t ∈ ts, t.n ≤ 1048576) :
    Calls Try.prog 37 #[.slice A n c] w fun e w' => ∃ A' c' us, e = .returned (.slice A' n c') ∧ OwnS w' w.heap.size A' n c' us ∧ con us = con ts ∧ Below w.heap.size w w' := by
  obtain ⟨i0, hi, hz0, hz1, hz2⟩ := info_parts info_row
  have hz2' : i0.bytes * n ≤ 281474976710656 := by rw [hz2]; omega
  have HM := hide hM
  have HL := hide hR.len
  clear hz2 hM
  go_enter Try.func37, Try.ntmps37
  go_wp2_with (at_make; refine wpList_make_full _ rfl (.tmp 6) (.tmp 6) 36 rfl w.heap.size 22 i0 (.slice none 0 0) 1 Try.underlying36 hi hz0 hz1 .i64 .i64 _ _ n rfl rfl rfl rfl hz2' (by unfold maxLen; omega) (Nat.le_refl _) ?_; intro w1 hown hgr)
  have hb1 : Below w.heap.size w w1 := (Below.refl _ _).grown hgr (Nat.le_refl _) (fun _ h => by cases h)
  have hown1 : OwnS w1 w.heap.size (some ⟨w.heap.size, 0, none⟩) n n (List.replicate n Sl.blank) := by
    refine blanks_own _ _ _ _ _ ?_
    simpa [Value.cells, toList_madeCells_one, vals, Sl.val, Sl.blank] using hown
  have hsz := hgr.size
  clear hown hgr hz2' hi hz0 hz1
  generalize hg : w.heap.size = g at *
  have HG := hide hg
  clear hg
  go_loopw [4] (fun i wr => ∃ (k : Nat) (us : List Sl), k ≤ n ∧ i = .int .i64 k ∧ us.length = k ∧ Hid (con us = con (ts.take k)) ∧ OwnS wr g (some ⟨g, 0, none⟩) n n (part us n) ∧ Below g w wr) (fun i _ => n - (intOf i).toNat)
  case atStart => exact ⟨0, [], Nat.zero_le _, rfl, rfl, rfl, by simpa [part] using hown1, hb1⟩
  case round =>
    obtain ⟨k, us, hk, rfl, hul, hcon, hown, hb⟩ := hrel
    have hge : g ≤ wr.heap.size := by have := hb.size; rw [HG.out] at this; exact this
    by_cases hlt : k < n
    · obtain ⟨b, o, t, rfl, hbB, ht, hc, hok⟩ := (hR.below hb).at_ hlt
      have htn := HM.out t (List.mem_of_getElem? ht)
      obtain ⟨g0, t2, hg0, hg1, _, ht2, hc2, ho2, hf2⟩ := own_cells hown hlt
      obtain rfl : g = g0 := by simpa using hg0
      have HT := hide ht
      have HT3 := hide (toInt64S_any t.A t.n t.c t.xs wr (hok.1.more hge) htn)
      have hbw : b < wr.heap.size := by omega
      clear ht hok htn ht2 hR hown1 ho2
      obtain ⟨tA, tn, tc, txs⟩ := t
      obtain ⟨sA, sn, sc, sxs⟩ := t2
      simp only at hc hc2 HT3
      go_wp2_with (go_at_call 16; refine HT3.out.mono ?_; rintro e w2 ⟨A2, c2, rfl, hu, hb2⟩; have hc2' := (hb2.cell (p := ⟨g, k, none⟩) hg1).trans hc2; have hf2' := (hb2.frozen (p := ⟨g, k, none⟩) hg1).trans hf2)
      obtain ⟨hp1, hp2⟩ := OwnS.put (u := ⟨A2, tn, c2, txs⟩) hown hb2 hu hge (i := k)
      have hset : (part us n).set k ⟨A2, tn, c2, txs⟩ = part (us ++ [⟨A2, tn, c2, txs⟩]) n := by rw [← hul]; exact part_set _ (by omega)
      rw [hset] at hp1
      have hcon2 : con (us ++ [⟨A2, tn, c2, txs⟩]) = con (ts.take (k + 1)) := by
        have hkl : k < ts.length := by rw [HL.out]; exact hlt
        have hte : ts[k] = ⟨tA, tn, tc, txs⟩ := by
          have := HT.out
          rw [List.getElem?_eq_getElem hkl] at this
          exact Option.some.inj this
        have h5 := hcon.out
        rw [List.take_succ_eq_append_getElem hkl, hte]
        unfold con at h5 ⊢
        rw [List.map_append, List.map_append, h5]
        rfl
      have HC2 := hide hcon2
      have hb3 : Below g wr _ := (hb2.mono hge).grown hp2 (Nat.le_trans hge hb2.size) (fun j hj => by cases hj; exact Nat.le_refl _)
      clear hset hcon2 hp2 hown
      go_roundw
      case rel => exact ⟨k + 1, us ++ [Sl.mk A2 tn c2 txs], by omega, by go_num, by simp [hul], HC2, hp1, hb.trans hb3⟩
      case measure => simp [intOf]; omega
    · obtain rfl : k = n := by omega
      have h5 := hcon.out
      rw [List.take_of_length_le (by rw [HL.out]; omega)] at h5
      have H5 := hide h5
      clear h5
      go_wp2
      go_ret
      rw [part_full hul] at hown
      rw [HG.out]
      exact ⟨_, _, us, rfl, hown, H5.out, hb⟩

/-! ### measures -/
def szTo (ts : List Sl) (k : Nat) : Nat := ((ts.take k).map Sl.n).sum
theorem szTo_zero (ts : List Sl) : szTo ts 0 = 0 := by simp [szTo]
theorem szTo_at {ts : List Sl} {k : Nat} {t : Sl} (h : ts[k]? = some t) : szTo ts (k + 1) = szTo ts k + t.n := by
  have hk := (List.getElem?_eq_some_iff.1 h).1
  have he : ts[k] = t := (List.getElem?_eq_some_iff.1 h).2
  unfold szTo
  rw [List.take_succ_eq_append_getElem hk, he, List.map_append, List.sum_append]
  simp
def tot (ts : List Sl) : Nat := szTo ts ts.length
theorem tot_con (ts : List Sl) (h : ∀ t ∈ ts, t.xs.length = t.n) : tot ts = ((con ts).map List.length).sum := by
  unfold tot szTo con
  rw [List.take_length, List.map_map]
  congr 1
  exact List.map_congr_left fun t ht => (h t ht).symm
theorem szTo_le (ts : List Sl) (k : Nat) : szTo ts k ≤ tot ts := by
  unfold tot szTo
  rw [List.take_length]
  conv => rhs; rw [← List.take_append_drop k ts]
  rw [List.map_append, List.sum_append]
  omega
theorem le_tot {ts : List Sl} {t : Sl} (h : t ∈ ts) : t.n ≤ tot ts := by
  obtain ⟨k, hk⟩ := List.getElem?_of_mem h
  have := szTo_at hk
  have := szTo_le ts (k + 1)
  omega
theorem szInt64S_any (A : Option Addr) (n c : Nat) (l : Int) (w : World) (hn : n ≤ 9223372036854775807) (hl : 0 ≤ l) (hl2 : l ≤ 1048576) :
    Calls Try.prog 72 #[.slice A n c, .int .i64 l] w fun e w' => e = .returned (.int .i64 (if l < n then -1 else l - n)) ∧ w = w' := by
  by_cases h : l < n
  · rw [if_pos h]
    go_enter Try.func72, Try.ntmps72
    go_wp2
    go_ret
    exact ⟨rfl, rfl⟩
  · rw [if_neg h]
    go_enter Try.func72, Try.ntmps72
    go_wp2
    go_ret
    exact ⟨rfl, rfl⟩
set_option maxHeartbeats 1000000 in
theorem szInt64SS_any (A : Option Addr) (m c : Nat) (ts : List Sl) (w : World) (B : Nat) (hR : RdS w B A m ts) (hm : m ≤ 9223372036854775807) (hM : ∀ t ∈ ts, t.n ≤ 9223372036854775807) :
    Calls Try.prog 35 #[.slice A m c, .int .i64 1048576] w fun e w' => (∃ r : Int, e = .returned (.int .i64 r) ∧ (0 ≤ r → m + tot ts ≤ 1048576) ∧ (m + tot ts ≤ 1048576 → 0 ≤ r)) ∧ w = w' := by
  have HM := hide hM
  have HL := hide hR.len
  clear hM
  by_cases hbig : (1048576 : Int) < m
  · clear hR HM
    go_enter Try.func35, Try.ntmps35
    go_wp2
    go_ret
    exact ⟨⟨-1, rfl, fun h => by omega, fun h => by omega⟩, rfl⟩
  · go_enter Try.func35, Try.ntmps35
    go_wp2
    go_loop [1, 5] (fun l i => ∃ k : Nat, k ≤ m ∧ i = .int .i64 k ∧ m + szTo ts k ≤ 1048576 ∧ l = .int .i64 ((1048576 : Int) - m - (szTo ts k : Nat))) (fun _ i => m - (intOf i).toNat)
    case atStart => exact ⟨0, Nat.zero_le _, rfl, by rw [szTo_zero]; omega, int_congr (by rw [szTo_zero]; omega)⟩
    case round =>
      obtain ⟨k, hk, rfl, hle, rfl⟩ := hrel
      by_cases hlt : k < m
      · obtain ⟨b, o, t, rfl, hbB, ht, hc, hok⟩ := hR.at_ hlt
        have htn := HM.out t (List.mem_of_getElem? ht)
        have hS := szTo_at ht
        obtain ⟨tA, tn, tc, txs⟩ := t
        simp only at hc htn hS
        obtain ⟨z, hz⟩ := ex_eq (szTo ts k)
        rw [hz] at hle hS ⊢
        have HT1 := hide (show z + tn ≤ tot ts by rw [← hS]; exact szTo_le ts (k + 1))
        have HS := hide hS
        clear hz hS ht hok hR
        have hcall := szInt64S_any tA tn tc ((1048576 : Int) - m - (z : Nat)) w htn (by omega) (by omega)
        by_cases hneg : (1048576 : Int) - m - (z : Nat) < tn
        · rw [if_pos hneg] at hcall
          have HC := hide hcall
          clear hcall
          go_wp2_with (go_at_call 72; refine HC.out.mono ?_; rintro e w' ⟨rfl, rfl⟩)
          go_ret
          exact ⟨⟨-1, rfl, fun h => by omega, fun h => by have := HT1.out; omega⟩, rfl⟩
        · rw [if_neg hneg] at hcall
          have HC := hide hcall
          clear hcall
          go_wp2_with (go_at_call 72; refine HC.out.mono ?_; rintro e w' ⟨rfl, rfl⟩)
          go_round
          case rel => exact ⟨k + 1, by omega, by go_num, by rw [HS.out]; omega, int_congr (by rw [HS.out]; omega)⟩
          case measure => simp only [intOf]; omega
      · obtain rfl : k = m := by omega
        have htt : szTo ts k = tot ts := by unfold tot; rw [HL.out]
        rw [htt] at hle ⊢
        obtain ⟨z, hz⟩ := ex_eq (tot ts)
        have HZ := hide hz
        rw [hz] at hle ⊢
        clear hz htt
        go_wp2
        go_ret
        exact ⟨⟨_, rfl, fun _ => by rw [HZ.out]; exact hle, fun _ => by omega⟩, rfl⟩

/-! ### comparisons -/
theorem quiet_q {P : Program} {f : FuncId} {args : Array Value} {w : World} {n : Nat} {v : Value}
    (h : Calls P f args (w.drewN n) fun e w' => e = .returned v ∧ ∃ q, w' = (w.drewN n).drewN q) : Calls P f args (w.drewN n) fun e w'' => e = .returned v ∧ ∃ m, w'' = w.drewN m :=
  h.mono fun _ _ ⟨he, q, hm⟩ => ⟨he, n + q, by rw [hm, World.drewN_drewN]⟩
set_option maxHeartbeats 1000000 in
theorem eqInt64SS_true (A A' : Option Addr) (n c c' : Nat) (ts us : List Sl) (w : World) (B B' : Nat) (hR : RdS w B A n ts) (hS : RdS w B' A' n us) (hcon : con ts = con us) (hn : n ≤ 1048576) (hM : ∀ t ∈ ts, t.n ≤ 1048576) :
    Calls Try.prog 32 #[.slice A n c, .slice A' n c'] w fun e w' => e = .returned (.bool true) ∧ ∃ q, w' = w.drewN q := by
  have HM := hide hM
  have HC := hide hcon
  clear hM hcon
  go_enter Try.func32, Try.ntmps32
  go_wp2
  go_loopw [5] (fun i wr => ∃ k q : Nat, k ≤ n ∧ i = .int .i64 k ∧ Hid (wr = w.drewN q)) (fun i _ => n - (intOf i).toNat)
  case atStart => exact ⟨0, 0, Nat.zero_le _, rfl, rfl⟩
  case round =>
    obtain ⟨k, q, hk, rfl, hw⟩ := hrel
    by_cases hlt : k < n
    · have hR' : RdS wr B A n ts := by rw [hw.out]; exact hR
      have hS' : RdS wr B' A' n us := by rw [hw.out]; exact hS
      obtain ⟨b, o, t, rfl, hbB, ht, hc, hok⟩ := hR'.at_ hlt
      obtain ⟨b', o', u, rfl, hbB', hu, hc', hok'⟩ := hS'.at_ hlt
      have htn := HM.out t (List.mem_of_getElem? ht)
      have hxx : t.xs = u.xs := by
        have h1 := con_at ht
        have h2 := con_at hu
        rw [HC.out, h2] at h1
        exact (Option.some.inj h1).symm
      have hnn : u.n = t.n := by rw [← hok.1.len, ← hok'.1.len, hxx]
      have hE : ∀ q', Calls Try.prog 19 #[.slice t.A t.n t.c, .slice u.A t.n u.c] (wr.drewN q') fun e w' => e = .returned (.bool true) ∧ ∃ q, w' = (wr.drewN q').drewN q := fun q' =>
        (eqInt64S_any t.A u.A t.n t.n t.c u.c t.xs t.xs (wr.drewN q') B B' (hok.1.drewN q') (by rw [← hnn, hxx]; exact hok'.1.drewN q') (by omega) (by omega)).mono fun _ _ ⟨he, hq⟩ => ⟨by rw [he, eqL_self], hq⟩
      rw [hnn] at hc'
      have HE := hide hE
      have hlt' : (k : Int) < (n : Int) := by omega
      have h0 : (0 : Int) ≤ (k : Int) := by omega
      clear ht hu hok hok' hxx hnn hR hS hR' hS' hE htn
      obtain ⟨tA, tn, tc, txs⟩ := t
      obtain ⟨uA, un, uc, uxs⟩ := u
      simp only at hc hc' HE
      go_wp2
      go_quiet ((go_at_call 19; exact quiet_q (HE.out _)))
      go_wp2
      go_roundw
      case rel => exact ⟨k + 1, q + nq, by omega, by go_num, hide (by rw [hw.out, World.drewN_drewN])⟩
      case measure => simp [intOf]; omega
    · obtain rfl : k = n := by omega
      go_wp2
      go_ret
      exact ⟨rfl, q, hw.out⟩

/-! ### marks -/
def Marked (k : Nat) (ts : List Sl) (j : Nat) : Prop := ∀ i t, i < j → ts[i]? = some t → t.xs = marks (k + szTo ts i) t.n
theorem szTo_vals {ts us : List Sl} (h : vals ts = vals us) (k : Nat) : szTo ts k = szTo us k := by
  have h1 : ∀ l : List Sl, szTo l k = (((vals l).take k).map lenOf).sum := fun l => by
    unfold szTo vals
    rw [← List.map_take, List.map_map]
    rfl
  rw [h1, h1, h]
theorem OwnS.turn {w w' : World} {B : Nat} {A : Option Addr} {m c : Nat} {ts : List Sl} {t : Sl} {ys : List Int} {i : Nat} (h : OwnS w B A m c ts) (ht : ts[i]? = some t) (hu : Own w' B t.A t.n t.c ys) (hg : w.grownBy w' t.val.ownBlock) :
    OwnS w' B A m c (ts.set i (Sl.mk t.A t.n t.c ys)) ∧ vals (ts.set i (Sl.mk t.A t.n t.c ys)) = vals ts := by
  have hil := (List.getElem?_eq_some_iff.1 ht).1
  have hte : ts[i] = t := (List.getElem?_eq_some_iff.1 ht).2
  have hv : vals (ts.set i (Sl.mk t.A t.n t.c ys)) = vals ts := by
    rw [← vals_set]
    apply List.ext_getElem?
    intro j
    rw [List.getElem?_set]
    split
    · next e =>
      subst e
      rw [vals_len, if_pos hil, vals_at ht]
      rfl
    · rfl
  have hout : (Value.slice A m c).ownBlock = none ∨ (Value.slice A m c).ownBlock ≠ t.val.ownBlock := by
    rcases h.2.2.1 t (List.mem_of_getElem? ht) with e | e
    · cases hA : (Value.slice A m c).ownBlock with
      | none => exact .inl rfl
      | some k => exact .inr (by rw [e]; simp)
    · exact .inr (Ne.symm e)
  refine ⟨⟨by rw [hv]; exact World.ownsRow.kept h.1 hg hout, ?_, ?_, ?_⟩, hv⟩
  · intro s hs
    obtain ⟨j, hj⟩ := List.getElem?_of_mem hs
    rw [List.getElem?_set] at hj
    split at hj
    · next e =>
      injection hj with hj
      rw [← hj]
      exact hu
    · next e =>
      refine World.ownsRow.kept (h.2.1 s (List.mem_of_getElem? hj)) hg ?_
      rcases h.2.2.2 j i s t (fun e2 => e e2.symm) hj ht with e2 | e2
      · exact .inl e2
      · exact .inr e2
  · intro s hs
    rcases List.mem_or_eq_of_mem_set hs with h2 | rfl
    · exact h.2.2.1 s h2
    · exact h.2.2.1 t (List.mem_of_getElem? ht)
  · intro p q s r hpq hs hr
    have hget : ∀ (p : Nat) (s : Sl), (ts.set i (Sl.mk t.A t.n t.c ys))[p]? = some s → ∃ s' : Sl, ts[p]? = some s' ∧ s'.val = s.val := by
      intro p s hs
      rw [List.getElem?_set] at hs
      split at hs
      · next e =>
        subst e
        first | rw [if_pos hil] at hs | skip
        injection hs with hs
        exact ⟨t, ht, by rw [← hs]; rfl⟩
      · exact ⟨s, hs, rfl⟩
    obtain ⟨s', h1, e1⟩ := hget p s hs
    obtain ⟨r', h2, e2⟩ := hget q r hr
    rw [← e1, ← e2]
    exact h.2.2.2 p q s' r' hpq h1 h2
set_option maxHeartbeats 1000000 in
theorem markInt64SS_any (A : Option Addr) (n c : Nat) (ts : List Sl) (w : World) (B : Nat) (hR : OwnS w B A n c ts) (k : Nat) (hn : n ≤ 1048576) (hk : k + tot ts ≤ 100000000) :
    Calls Try.prog 33 #[.slice A n c, .int .i64 k] w fun e w' => e = .returned (.int .i64 ((k + tot ts : Nat) : Int)) ∧ (∃ us, OwnS w' B A n c us ∧ vals us = vals ts ∧ Marked k us n) ∧
      w'.heap.size = w.heap.size ∧ w'.os = w.os ∧ w'.tape = w.tape ∧ w'.output = w.output ∧ ∀ j, (∀ t ∈ ts, t.val.ownBlock ≠ some j) → w'.heap[j]? = w.heap[j]? := by
  have HL := hide hR.len
  go_enter Try.func33, Try.ntmps33
  go_wp2
  go_loopw [1, 5] (fun kk i wr => ∃ (j : Nat) (us : List Sl), j ≤ n ∧ i = .int .i64 j ∧ kk = .int .i64 ((k + szTo ts j : Nat) : Int) ∧ OwnS wr B A n c us ∧ Hid (vals us = vals ts) ∧ Hid (Marked k us j) ∧
    Hid (wr.heap.size = w.heap.size ∧ wr.os = w.os ∧ wr.tape = w.tape ∧ wr.output = w.output ∧ ∀ j, (∀ t ∈ ts, t.val.ownBlock ≠ some j) → wr.heap[j]? = w.heap[j]?)) (fun _ i _ => n - (intOf i).toNat)
  case atStart => exact ⟨0, ts, Nat.zero_le _, rfl, int_congr (by rw [szTo_zero]; rfl), hR, rfl, (fun i t h => by omega), ⟨rfl, rfl, rfl, rfl, fun _ _ => rfl⟩⟩
  case round =>
    obtain ⟨j, us, hj, rfl, rfl, hown, hv, hmk, hworld⟩ := hrel
    by_cases hlt : j < n
    · obtain ⟨g, t, rfl, hg1, hgB, ht, hc, ho, hf⟩ := own_cells hown hlt
      have hs1 := szTo_at ht
      rw [szTo_vals hv.out, szTo_vals hv.out] at hs1
      have hs2 := szTo_le ts (j + 1)
      obtain ⟨z, hz⟩ := ex_eq (szTo ts j)
      rw [hz] at hs1 ⊢
      have hmkc := markInt64S_any t.A t.n t.c t.xs wr B ho (k + z) (by omega) (by omega)
      have HMC := hide hmkc
      have HS1 := hide hs1
      have HZ := hide hz
      have HT := hide ht
      clear hR ho hmkc hs2 hs1 hz ht
      obtain ⟨t', ht'⟩ := ex_eq t
      have HTT := hide ht'
      rw [ht'] at hc HMC
      clear ht'
      go_wp2_with (go_at_call 21; refine HMC.out.mono ?_; rintro e w2 ⟨rfl, hu, hgr, hsz⟩)
      have HT2 := HT.out
      rw [HTT.out] at HT2
      obtain ⟨hp1, hp2⟩ := OwnS.turn hown HT2 hu hgr
      have hv2 : vals (us.set j (Sl.mk t'.A t'.n t'.c (marks (k + z) t'.n))) = vals ts := hp2.trans hv.out
      have hm2 : Marked k (us.set j (Sl.mk t'.A t'.n t'.c (marks (k + z) t'.n))) (j + 1) := by
        intro i s hi hs
        rw [szTo_vals hv2]
        rw [List.getElem?_set] at hs
        split at hs
        · next e =>
          subst e
          split at hs
          · injection hs with hs
            subst hs
            rw [HZ.out]
          · cases hs
        · next e =>
          have := hmk.out i s (by omega) hs
          rw [szTo_vals hv.out] at this
          exact this
      have hw2 : w2.heap.size = w.heap.size ∧ w2.os = w.os ∧ w2.tape = w.tape ∧ w2.output = w.output ∧ ∀ j, (∀ t ∈ ts, t.val.ownBlock ≠ some j) → w2.heap[j]? = w.heap[j]? := by
        obtain ⟨a1, a2, a3, a4, a5⟩ := hworld.out
        refine ⟨hsz.trans a1, hgr.os.trans a2, hgr.tape.trans a3, hgr.output.trans a4, fun q hq => ?_⟩
        have hne : t'.val.ownBlock ≠ some q := by
          have hmem : t'.val ∈ vals ts := by rw [← hv.out]; exact List.mem_map_of_mem (List.mem_of_getElem? HT2)
          obtain ⟨s, hs, he⟩ := List.mem_map.1 hmem
          rw [← he]
          exact hq s hs
        rcases Nat.lt_or_ge q wr.heap.size with hl | hl
        · rw [hgr.block q hl (fun e => hne e.symm), a5 q hq]
        · rw [← a5 q hq, Array.getElem?_eq_none hl, Array.getElem?_eq_none (by omega)]
      have HV2 := hide hv2
      have HM2 := hide hm2
      have HW2 := hide hw2
      have hnum : szTo ts (j + 1) = z + t'.n := by rw [HS1.out, HTT.out]
      have HNUM := hide hnum
      clear hv2 hm2 hw2 hp2 hgr hu hnum hown
      go_roundw
      case rel => exact ⟨j + 1, _, by omega, by go_num, int_congr (by rw [HNUM.out]; omega), hp1, HV2, HM2, HW2⟩
      case measure => simp [intOf]; omega
    · obtain rfl : j = n := by omega
      have htt : szTo ts j = tot ts := by unfold tot; rw [HL.out]
      rw [htt]
      clear htt
      go_wp2
      go_ret
      exact ⟨rfl, ⟨us, hown, hv.out, hmk.out⟩, hworld.out⟩

end Go.Proofs.Ytfncmgaeecjacaa.grid
