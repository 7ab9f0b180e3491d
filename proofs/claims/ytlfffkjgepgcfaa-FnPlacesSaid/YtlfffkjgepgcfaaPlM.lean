/-
  The memory of placesOf: the map of what is known, the rows of a set, and how both last. Conditions: those of each theorem.
-/
import Derived.Test.YtlfffkjgepgcfaaMemF
import Derived.Test.YtlfffkjgepgcfaaPlx
import Derived.Maps.OwnSet
import Derived.Maps.Views
import Derived.Maps.Keyed
import Derived.Maps.Range
import Derived.WalkSpells
namespace Go.Proofs.Ytlfffkjgepgcfaa.pl
open Go.RowKit
open base mem fl Go.Maps
open Ieee

/-! ### sets -/
def bitL (s : Nat) : Nat → Bool := fun k => s.testBit k
def clr (s j : Nat) : Nat := if s.testBit j then s - 2 ^ j else s
theorem clr_bit : ∀ s j k : Nat, s < 64 → j < 6 → k < 6 → (clr s j).testBit k = (s.testBit k && k != j) := by
  have h : ∀ (s : Fin 64) (j k : Fin 6), (clr s.1 j.1).testBit k.1 = (s.1.testBit k.1 && k.1 != j.1) := by decide +kernel
  exact fun s j k h1 h2 h3 => h ⟨s, h1⟩ ⟨j, h2⟩ ⟨k, h3⟩
theorem clr_high : ∀ s j k : Nat, s < 64 → 6 ≤ k → (clr s j).testBit k = (s.testBit k && k != j) := by
  intro s j k h1 h2
  have hs : ∀ t, t < 64 → t.testBit k = false := fun t ht => Nat.testBit_lt_two_pow (Nat.lt_of_lt_of_le ht (show 2 ^ 6 ≤ 2 ^ k from Nat.pow_le_pow_right (by omega) h2))
  have hc : clr s j < 64 := by
    unfold clr
    split
    · exact Nat.lt_of_le_of_lt (Nat.sub_le _ _) h1
    · exact h1
  rw [hs _ hc, hs _ h1]; rfl
theorem bit_clr {s j : Nat} (hs : s < 64) (hj : j < 6) : bitL (clr s j) = rm (bitL s) j := by
  funext k
  unfold bitL rm
  rcases Nat.lt_or_ge k 6 with h | h
  · exact clr_bit s j k hs hj h
  · exact clr_high s j k hs h
theorem clr_lt {s j : Nat} (h : s.testBit j = true) : clr s j < s := by
  unfold clr
  rw [if_pos h]
  have := Nat.ge_two_pow_of_testBit h
  have := Nat.two_pow_pos j
  omega

/-! ### the map -/
def R0 : Value → Option (DataW Value × List MemPlace) := fun v => some (.held v, [])
def ky (s : Nat) : Lit := .int .i64 (s : Int)
theorem ky_key (s : Nat) : WideAt.IsKeyLit (ky s) := trivial
theorem ky_ne {s t : Nat} (h : s ≠ t) : ky s ≠ ky t := by
  intro e
  unfold ky at e
  injection e with _ e2
  omega
def cntH (D : DataW Value) : Nat → Nat
  | 0 => 0
  | m + 1 => cntH D m + if Maps.has D (ky m) then 1 else 0
theorem cntH_le (D : DataW Value) : ∀ m, cntH D m ≤ m
  | 0 => Nat.le_refl _
  | m + 1 => by
    have := cntH_le D m
    unfold cntH
    split <;> omega
theorem cntH_put {D : DataW Value} (hD : Maps.IsMap D) (s : Nat) (d : DataW Value) : ∀ m, cntH (D.put (ky s) d) m = cntH D m + if s < m ∧ Maps.has D (ky s) = false then 1 else 0
  | 0 => by simp [cntH]
  | m + 1 => by
    have ih := cntH_put hD s d m
    unfold cntH
    rw [ih]
    by_cases h : s = m
    · subst h
      rw [Maps.has_put_same hD (ky_key s), if_pos rfl, if_neg (by omega)]
      cases hh : Maps.has D (ky s) <;> simp
    · rw [Maps.has_put_other (ky_ne (fun e => h e.symm))]
      by_cases h1 : s < m
      · have h2 : s < m + 1 := by omega
        simp only [h1, h2, true_and]; omega
      · have h2 : ¬ s < m + 1 := by omega
        simp only [h1, h2, false_and, if_false]; omega
/-- block mb is a map that reads as D, of sets below 64 -/
structure Mp (w : World) (mb : Nat) (D : DataW Value) : Prop where
  own : w.ownsMap Try.prog 3 R0 mb 64 D
  tidy : Maps.Tidy D
  few : Maps.size D ≤ cntH D 64
theorem Mp.lt {w : World} {mb : Nat} {D : DataW Value} (h : Mp w mb D) : mb < w.heap.size := h.own.lt
theorem Mp.kept {w w' : World} {mb : Nat} {D : DataW Value} {row : Option Nat} (h : Mp w mb D) (hg : w.grownBy w' row) (hne : some mb ≠ row) : Mp w' mb D := ⟨h.own.kept hg hne, h.tidy, h.few⟩
theorem Mp.made (w : World) : Mp (w.alloc (.map #[] 0)) w.heap.size (.map []) :=
  ⟨(World.ownsMap_made w Try.prog 3 R0).mono (by omega), Maps.tidy_empty, Nat.zero_le _⟩
theorem owns_tight {w : World} {b n : Nat} {D : DataW Value} (h : w.ownsMap Try.prog 3 R0 b n D) {m : Nat} (hm : Maps.size D ≤ m) : w.ownsMap Try.prog 3 R0 b m D := by
  obtain ⟨es, clock, hb, F, hs, rfl⟩ := h
  refine ⟨es, clock, hb, F, ?_, rfl⟩
  rw [Maps.size_eq, length_sorted] at hm
  simpa using hm
theorem Mp.put {w w' : World} {mb n : Nat} {D : DataW Value} (h : Mp w mb D) {s : Nat} (hs : s < 64) {d : DataW Value} (ho : w'.ownsMap Try.prog 3 R0 mb n (D.put (ky s) d)) : Mp w' mb (D.put (ky s) d) := by
  have h1 : Maps.size (D.put (ky s) d) ≤ cntH (D.put (ky s) d) 64 := by
    rw [Maps.size_put h.tidy, cntH_put h.tidy.isMap]
    have := h.few
    cases hh : Maps.has D (ky s) <;> simp [hs] <;> omega
  exact ⟨owns_tight ho (Nat.le_trans h1 (cntH_le _ _)), h.tidy.put (ky_key s) d, h1⟩
theorem keyInt : Keyed Try.prog 3 := int_keyed Try.underlying3

/-! ### the rows of a set -/
/-- the slice at A has the rows of a set; none of its blocks is in X -/
def Plc (w : World) (X : Nat → Prop) (xs : List Int) (n s : Nat) (A : Option Addr) : Prop :=
  ∃ g, A = some ⟨g, 0, none⟩ ∧ ¬ X g ∧ g < w.heap.size ∧ (∀ i, i < n → (w.cell? ⟨g, i, none⟩).isSome) ∧ ∀ i, i < n → bitL s i = true → ∃ r, ¬ X r ∧ r < w.heap.size ∧
    w.cell? ⟨g, i, none⟩ = some (.slice (some ⟨r, 0, none⟩) (cntL (bitL s) n) (cntL (bitL s) n)) ∧ ∀ k, k < cntL (bitL s) n → w.cell? ⟨r, k, none⟩ = some (.float .f32 (PL xs k (bitL s) i))
section
variable {w w' : World} {X Y : Nat → Prop} {xs : List Int} {n s : Nat} {A : Option Addr} {row : Option Nat}
theorem Plc.kept (h : Plc w X xs n s A) (hg : w.grownBy w' row) (hr : ∀ q, row = some q → X q ∨ w.heap.size ≤ q) : Plc w' X xs n s A := by
  obtain ⟨g, hA, h1, h2, h0, h3⟩ := h
  have ne : ∀ q, ¬ X q → q < w.heap.size → some q ≠ row := by
    intro q hq hlt e
    rcases hr q e.symm with h | h
    · exact hq h
    · omega
  refine ⟨g, hA, h1, Nat.lt_of_lt_of_le h2 hg.size, fun i hi => ?_, fun i hi hb => ?_⟩
  · obtain ⟨v, hv⟩ := Option.isSome_iff_exists.1 (h0 i hi)
    rw [hg.cell hv (ne g h1 h2)]; rfl
  · obtain ⟨r, r1, r2, r3, r4⟩ := h3 i hi hb
    exact ⟨r, r1, Nat.lt_of_lt_of_le r2 hg.size, hg.cell r3 (ne g h1 h2), fun k hk => hg.cell (r4 k hk) (ne r r1 r2)⟩
theorem Plc.turn (h : Plc w X xs n s A) (hY : ∀ b, Y b → X b ∨ w.heap.size ≤ b) : Plc w Y xs n s A := by
  obtain ⟨g, hA, h1, h2, h0, h3⟩ := h
  have ne : ∀ q, ¬ X q → q < w.heap.size → ¬ Y q := by
    intro q hq hlt e
    rcases hY q e with h | h
    · exact hq h
    · omega
  refine ⟨g, hA, ne g h1 h2, h2, h0, fun i hi hb => ?_⟩
  obtain ⟨r, r1, r2, r3⟩ := h3 i hi hb
  exact ⟨r, ne r r1 r2, r2, r3⟩
end
def nilD : DataW Value := .held (.slice none 0 0)
/-- each entry of the map is a slice with the rows of its set -/
def Ent (w : World) (X : Nat → Prop) (xs : List Int) (n : Nat) (D : DataW Value) : Prop :=
  ∀ s, s < 64 → Maps.has D (ky s) = true → ∃ A, D.atKey (ky s) nilD = .held (.slice A n n) ∧ Plc w X xs n s A
section
variable {w w' : World} {X Y : Nat → Prop} {xs : List Int} {n s : Nat} {A : Option Addr} {row : Option Nat} {D : DataW Value}
theorem Ent.kept (h : Ent w X xs n D) (hg : w.grownBy w' row) (hr : ∀ q, row = some q → X q ∨ w.heap.size ≤ q) : Ent w' X xs n D := by
  intro s hs hh
  obtain ⟨A, h1, h2⟩ := h s hs hh
  exact ⟨A, h1, h2.kept hg hr⟩
theorem Ent.turn (h : Ent w X xs n D) (hY : ∀ b, Y b → X b ∨ w.heap.size ≤ b) : Ent w Y xs n D := by
  intro s hs hh
  obtain ⟨A, h1, h2⟩ := h s hs hh
  exact ⟨A, h1, h2.turn hY⟩
theorem Ent.put (hD : Maps.IsMap D) (h : Ent w X xs n D) (hA : Plc w X xs n s A) : Ent w X xs n (D.put (ky s) (.held (.slice A n n))) := by
  intro t ht hh
  by_cases e : t = s
  · subst e
    exact ⟨A, Maps.atKey_put_same hD (ky_key t) _ _, hA⟩
  · rw [Maps.has_put_other (ky_ne e)] at hh
    rw [Maps.atKey_put_other (ky_ne e)]
    exact h t ht hh
theorem Ent.nil (w : World) (X : Nat → Prop) (xs : List Int) (n : Nat) : Ent w X xs n (.map []) := by
  intro s _ hh
  cases hh
end
theorem grown_but {a c : World} (h : a.grownBy c none) (row : Option Nat) : a.grownBy c row := ⟨h.os, h.tape, h.output, h.size, fun i hi _ => h.block i hi (by simp)⟩

/-! ### while the rows of a set are made -/
def in1 (X : Nat → Prop) (g : Nat) : Nat → Prop := fun b => X b ∨ b = g
/-- in block g the rows of the seats below i are made; what was there before, but for the map, is as it was -/
structure St (w : World) (mb : Nat) (X : Nat → Prop) (g : Nat) (xs : List Int) (n s i : Nat) (vs : List Value) (wr : World) : Prop where
  fr : w.grownBy wr (some mb)
  gb : w.heap.size ≤ g
  pl : wr.ownsRow w.heap.size 41 1 (.slice (some ⟨g, 0, none⟩) n n) n vs
  old : ∀ t, t < i → bitL s t = true → ∃ r, w.heap.size ≤ r ∧ r < wr.heap.size ∧ r ≠ g ∧ vs[t]? = some (.slice (some ⟨r, 0, none⟩) (cntL (bitL s) n) (cntL (bitL s) n)) ∧ ∀ k, k < cntL (bitL s) n → wr.cell? ⟨r, k, none⟩ = some (.float .f32 (PL xs k (bitL s) t))
  mp : ∃ D, Mp wr mb D ∧ Ent wr (in1 X g) xs n D
  mw : mb < w.heap.size
  xm : X mb
  xw : ∀ b, X b → b < w.heap.size
/-- and row r, that of seat i, is being made -/
structure Sr (w : World) (mb : Nat) (X : Nat → Prop) (g : Nat) (xs : List Int) (n s i r : Nat) (vs : List Value) (fs : List Nat) (wr : World) : Prop where
  fr : w.grownBy wr (some mb)
  gb : w.heap.size ≤ g
  pl : wr.ownsRow w.heap.size 41 1 (.slice (some ⟨g, 0, none⟩) n n) n vs
  old : ∀ t, t < i → bitL s t = true → ∃ q, w.heap.size ≤ q ∧ q < wr.heap.size ∧ q ≠ g ∧ q ≠ r ∧ vs[t]? = some (.slice (some ⟨q, 0, none⟩) (cntL (bitL s) n) (cntL (bitL s) n)) ∧ ∀ k, k < cntL (bitL s) n → wr.cell? ⟨q, k, none⟩ = some (.float .f32 (PL xs k (bitL s) t))
  mp : ∃ D, Mp wr mb D ∧ Ent wr (in1 (in1 X g) r) xs n D
  mw : mb < w.heap.size
  xm : X mb
  xw : ∀ b, X b → b < w.heap.size
  rb : w.heap.size ≤ r
  rg : r ≠ g
  own : OwnF wr w.heap.size (some ⟨r, 0, none⟩) (cntL (bitL s) n) (cntL (bitL s) n) fs
  at_ : vs[i]? = some (.slice (some ⟨r, 0, none⟩) (cntL (bitL s) n) (cntL (bitL s) n))
section
variable {w wr w' : World} {mb g n s i r : Nat} {X : Nat → Prop} {xs : List Int} {vs : List Value} {fs : List Nat} {D : DataW Value}
theorem St.glt (h : St w mb X g xs n s i vs wr) : g < wr.heap.size := (World.ownsRow.lt h.pl g rfl).2
/-- the block of all rows is made -/
theorem St.made (hX : ∀ b, X b → b < w.heap.size) (hm : X mb) (hM : Mp w mb D) (hE : Ent w X xs n D) (hg : w.grownBy wr none)
    (ho : wr.ownsRow w.heap.size 41 1 (.slice (some ⟨w.heap.size, 0, none⟩) n n) n vs) : St w mb X w.heap.size xs n s 0 vs wr :=
  ⟨grown_but hg _, Nat.le_refl _, ho, fun t ht => absurd ht (Nat.not_lt_zero t), ⟨D, hM.kept hg (by simp), (hE.turn (fun b hb => by
    rcases hb with h | h
    · exact .inl h
    · exact .inr (by rw [h]; exact Nat.le_refl _))).kept hg (fun q hq => by cases hq)⟩, hM.lt, hm, hX⟩
theorem St.skip (h : St w mb X g xs n s i vs wr) (hb : bitL s i = false) : St w mb X g xs n s (i + 1) vs wr :=
  ⟨h.fr, h.gb, h.pl, (fun t ht hbt => by
    rcases Nat.lt_succ_iff_lt_or_eq.1 ht with h1 | h1
    · exact h.old t h1 hbt
    · subst h1; rw [hb] at hbt; cases hbt), h.mp, h.mw, h.xm, h.xw⟩
/-- a row of seat i comes, and goes into its cell -/
theorem St.row (h : St w mb X g xs n s i vs wr) (hi : i < n) {w1 : World} (hg : wr.grownBy w1 none) (hr : wr.heap.size < w1.heap.size)
    (ho : OwnF w1 w.heap.size (some ⟨wr.heap.size, 0, none⟩) (cntL (bitL s) n) (cntL (bitL s) n) fs) :
    Sr w mb X g xs n s i wr.heap.size (vs.set i (.slice (some ⟨wr.heap.size, 0, none⟩) (cntL (bitL s) n) (cntL (bitL s) n))) fs (w1.setCell ⟨g, i, none⟩ (.slice (some ⟨wr.heap.size, 0, none⟩) (cntL (bitL s) n) (cntL (bitL s) n))) := by
  have hgl := h.glt
  have hgb := h.gb
  have hfz := h.fr.size
  have hmw := h.mw
  have hpl1 := h.pl.kept hg (.inr (by show some g ≠ none; simp))
  obtain ⟨hst, hsg⟩ := World.ownsRow.stored (h := hpl1) i (.slice (some ⟨wr.heap.size, 0, none⟩) (cntL (bitL s) n) (cntL (bitL s) n))
  have hlen : vs.length = n := by have := h.pl.1; simpa using this
  refine ⟨(h.fr.trans (grown_but hg _)).andThen hsg (fun j hj => by cases hj; exact .inl hgb), hgb, hst, fun t ht hbt => ?_, ?_, hmw, h.xm, h.xw, hfz, by omega, ?_, ?_⟩
  · obtain ⟨q, q1, q2, q3, q4, q5⟩ := h.old t ht hbt
    refine ⟨q, q1, by have := hsg.size; omega, q3, by omega, ?_, fun k hk => hsg.cell (hg.cell (q5 k hk) (by simp)) (by show some q ≠ some g; intro e; cases e; exact q3 rfl)⟩
    rw [List.getElem?_set_ne (by omega)]; exact q4
  · obtain ⟨D, h1, h2⟩ := h.mp
    refine ⟨D, (h1.kept hg (by simp)).kept hsg (by intro e; cases e; omega), ?_⟩
    refine Ent.kept ((h2.turn (fun b hb => ?_)).kept hg (fun q hq => by cases hq)) hsg (fun q hq => by cases hq; exact .inl (.inl (.inr rfl)))
    rcases hb with hb | hb
    · exact .inl hb
    · exact .inr (by rw [hb]; exact Nat.le_refl _)
  · exact World.ownsRow.kept ho hsg (.inr (by show some wr.heap.size ≠ some g; intro e; cases e; omega))
  · rw [List.getElem?_set_self (by omega)]
theorem Sr.lts (h : Sr w mb X g xs n s i r vs fs wr) : g < wr.heap.size ∧ r < wr.heap.size := ⟨(World.ownsRow.lt h.pl g rfl).2, (World.ownsRow.lt h.own r rfl).2⟩
theorem Sr.len (h : Sr w mb X g xs n s i r vs fs wr) : fs.length = cntL (bitL s) n := OwnF.len h.own
theorem St.cellg (h : St w mb X g xs n s i vs wr) {t : Nat} (ht : t < n) : (∃ v, wr.cell? ⟨g, t, none⟩ = some v) ∧ wr.frozen? ⟨g, t, none⟩ = false := by
  refine ⟨?_, World.ownsRow.frozenAt (h := h.pl) t⟩
  have hlen : vs.length = n := by have := h.pl.1; simpa using this
  exact ⟨vs[t]'(by omega), by rw [World.ownsRow.cellAt (h := h.pl) t (by omega), List.getElem?_eq_getElem]⟩
theorem Sr.cellg (h : Sr w mb X g xs n s i r vs fs wr) (hi : i < n) : wr.cell? ⟨g, i, none⟩ = some (.slice (some ⟨r, 0, none⟩) (cntL (bitL s) n) (cntL (bitL s) n)) := by
  rw [World.ownsRow.cellAt (h := h.pl) i (by omega)]; exact h.at_
theorem Sr.cellr (h : Sr w mb X g xs n s i r vs fs wr) {k : Nat} (hk : k < cntL (bitL s) n) : wr.cell? ⟨r, k, none⟩ = some (.float .f32 (fs.getD k 0)) := by
  rw [World.ownsRow.cellAt (h := h.own) k (by omega), fvs_at _ _ (by rw [h.len]; exact hk)]
theorem Sr.sto (h : Sr w mb X g xs n s i r vs fs wr) {k : Nat} (hk : k < cntL (bitL s) n) (v : Nat) : (store ⟨r, k, none⟩ (.float .f32 v)).run Try.prog wr = .ok () (wr.setCell ⟨r, k, none⟩ (.float .f32 v)) :=
  store_f (h.cellr hk) (World.ownsRow.frozenAt (h := h.own) k)
/-- a number goes into the row -/
theorem Sr.put (h : Sr w mb X g xs n s i r vs fs wr) (k v : Nat) : Sr w mb X g xs n s i r vs (fs.set k v) (wr.setCell ⟨r, k, none⟩ (.float .f32 v)) := by
  have hl := h.lts
  have hrg := h.rg
  have hrb := h.rb
  have hmw := h.mw
  obtain ⟨hst, hsg⟩ := World.ownsRow.stored (h := h.own) k (.float .f32 v)
  rw [fvs_set] at hst
  refine ⟨h.fr.andThen hsg (fun j hj => by cases hj; exact .inl hrb), h.gb, h.pl.kept hsg (.inr (by show some g ≠ some r; intro e; cases e; exact hrg rfl)), fun t ht hbt => ?_, ?_, hmw, h.xm, h.xw, hrb, hrg, hst, h.at_⟩
  · obtain ⟨q, q1, q2, q3, q4, q5, q6⟩ := h.old t ht hbt
    exact ⟨q, q1, by have := hsg.size; omega, q3, q4, q5, fun k hk => hsg.cell (q6 k hk) (by show some q ≠ some r; intro e; cases e; exact q4 rfl)⟩
  · obtain ⟨D, h1, h2⟩ := h.mp
    exact ⟨D, h1.kept hsg (by intro e; cases e; omega), h2.kept hsg (fun q hq => by cases hq; exact .inl (.inr rfl))⟩
/-- another set is asked for: the map may turn, new blocks come -/
theorem Sr.call (h : Sr w mb X g xs n s i r vs fs wr) (hg : wr.grownBy w' (some mb)) (hm : ∃ D, Mp w' mb D ∧ Ent w' (in1 (in1 X g) r) xs n D) : Sr w mb X g xs n s i r vs fs w' := by
  have hl := h.lts
  have hgb := h.gb
  have hrb := h.rb
  have hmw := h.mw
  refine ⟨h.fr.trans hg, hgb, h.pl.kept hg (.inr (by show some g ≠ some mb; intro e; cases e; omega)), fun t ht hbt => ?_, hm, hmw, h.xm, h.xw, hrb, h.rg, World.ownsRow.kept h.own hg (.inr (by show some r ≠ some mb; intro e; cases e; omega)), h.at_⟩
  obtain ⟨q, q1, q2, q3, q4, q5, q6⟩ := h.old t ht hbt
  exact ⟨q, q1, Nat.lt_of_lt_of_le q2 hg.size, q3, q4, q5, fun k hk => hg.cell (q6 k hk) (by show some q ≠ some mb; intro e; cases e; omega)⟩
theorem Sr.drew (h : Sr w mb X g xs n s i r vs fs wr) : Sr w mb X g xs n s i r vs fs wr.drew := by
  have hg : wr.grownBy wr.drew none := ⟨rfl, rfl, rfl, Nat.le_refl _, fun _ _ _ => rfl⟩
  obtain ⟨D, h1, h2⟩ := h.mp
  exact h.call (grown_but hg _) ⟨D, h1.kept hg (by simp), h2.kept hg (fun q hq => by cases hq)⟩
/-- the row is made -/
theorem Sr.done (h : Sr w mb X g xs n s i r vs fs wr) (hf : ∀ k, k < cntL (bitL s) n → fs.getD k 0 = PL xs k (bitL s) i) : St w mb X g xs n s (i + 1) vs wr := by
  have hl := h.lts
  refine ⟨h.fr, h.gb, h.pl, fun t ht hbt => ?_, ?_, h.mw, h.xm, h.xw⟩
  · rcases Nat.lt_succ_iff_lt_or_eq.1 ht with h1 | h1
    · obtain ⟨q, q1, q2, q3, q4, q5, q6⟩ := h.old t h1 hbt
      exact ⟨q, q1, q2, q3, q5, q6⟩
    · subst h1
      refine ⟨r, h.rb, hl.2, h.rg, h.at_, fun k hk => ?_⟩
      have hc := World.ownsRow.cellAt (h := h.own) k (by omega)
      rw [hc, fvs_at _ _ (by rw [h.len]; exact hk), hf k hk]
  · obtain ⟨D, h1, h2⟩ := h.mp
    exact ⟨D, h1, h2.turn (fun b hb => .inl (.inl hb))⟩
/-- all rows are made -/
theorem St.all (h : St w mb X g xs n s n vs wr) : Plc wr X xs n s (some ⟨g, 0, none⟩) := by
  have hgb := h.gb
  refine ⟨g, rfl, fun e => by have := h.xw g e; omega, h.glt, fun i hi => ?_, fun i hi hb => ?_⟩
  · rw [World.ownsRow.cellAt (h := h.pl) i (by omega)]
    have hlen : vs.length = n := by have := h.pl.1; simpa using this
    rw [List.getElem?_eq_getElem (by omega)]; rfl
  · obtain ⟨q, q1, q2, q3, q4, q5⟩ := h.old i hi hb
    refine ⟨q, fun e => by have := h.xw q e; omega, q2, ?_, q5⟩
    rw [World.ownsRow.cellAt (h := h.pl) i (by omega)]; exact q4
end
end Go.Proofs.Ytlfffkjgepgcfaa.pl
