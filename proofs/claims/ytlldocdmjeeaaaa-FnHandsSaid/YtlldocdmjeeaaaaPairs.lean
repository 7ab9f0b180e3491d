/-
  Rows of a call's own in a list that grows; hands dealt from cards. Conditions: those of each theorem.
-/
import Derived.Test.YtlldocdmjeeaaaaAppS
import Derived.Test.YtlldocdmjeeaaaaBestP
import Derived.Test.YtlldocdmjeeaaaaDrwP
namespace Go.Proofs.Ytlldocdmjeeaaaa.grid
open Go.RowKit
open base mem

theorem step_appS {w : World} {ops : Array Oper} {o : Oper} {a : Act} {K : Act → World → Prop} {Q : Exit → Act → World → Prop} {E : Prop} (hgd : o.guard = none) (s x : Operand)
    (ho : o.op = .call { callee := .builtin .append, args := #[s, x], argTypes := #[32, 32] }) (B : Nat) (v : Value) (ts us : List Sl) (hs : a.eval s = v) (hown : LstS w B v ts)
    (A : Option Addr) (m c : Nat) (hx : a.eval x = .slice A m c) (hR : RdS w w.heap.size A m us) (hnone : A = none → c = 0) (hlen : ts.length + m ≤ 1000000000) (hB : B ≤ w.heap.size)
    (h : ∀ v' w', LstS w' B v' (ts ++ us) → w.grownBy w' v.ownBlock → (v'.ownBlock = v.ownBlock ∨ v'.ownBlock = some w.heap.size) → K (a.put o.dst v') w') :
    if Region.wanted o (yielded ops a.tmps) = true then Oper.wp Try.prog o a w K Q else E := by
  have hw : Region.wanted o (yielded ops a.tmps) = true := by simp [Region.wanted, hgd]
  rw [if_pos hw]
  obtain ⟨v', w', hr, h2, h3, h5⟩ := run_appS (w := w) o.type B v ts us hown A m c hR hnone hlen hB
  unfold Oper.wp execOp
  simp only [ho, resolve, invoke, builtin, Sem.run_bind, Sem.run_pure, Result.andThen_ok, List.map_toArray, List.map_cons, List.map_nil, hs, hx, hr]
  exact h v' w' h2 h3 h5
/-- a list of rows of the call's own -/
structure PR (w0 w : World) (v : Value) (ts : List Sl) : Prop where
  lst : LstS w w0.heap.size v ts
  rows : ∀ t ∈ ts, Own w w0.heap.size t.A t.n t.c t.xs ∧ (t.val.ownBlock = none ∨ t.val.ownBlock ≠ v.ownBlock)
  below : Below w0.heap.size w0 w
theorem PR.new (w : World) : PR w (w.alloc (.cells #[] 22)) (.slice (some ⟨w.heap.size, 0, none⟩) 0 0) [] :=
  ⟨LstS.new w, fun t h => by simp at h, (Below.refl _ _).alloc (Nat.le_refl _) _⟩
theorem PR.kept {w0 w w' : World} {v : Value} {ts : List Sl} (h : PR w0 w v ts) (hb : Below w.heap.size w w') : PR w0 w' v ts :=
  ⟨World.ownsRow.kept (row := none) h.lst ⟨hb.os, hb.tape, hb.output, hb.size, fun k hk _ => hb.block k hk⟩ (by cases v.ownBlock <;> simp), fun t ht => ⟨(h.rows t ht).1.below hb (Nat.le_refl _), (h.rows t ht).2⟩, h.below.trans (hb.mono h.below.size)⟩
theorem PR.rd {w0 w : World} {A : Option Addr} {n c : Nat} {ts : List Sl} (h : PR w0 w (.slice A n c) ts) (hn : ts.length = n) : RdS w w.heap.size A n ts := by
  subst hn
  exact LstS.rd h.lst fun t ht => own_ok (h.rows t ht).1
/-- a row is appended: it came after the list -/
theorem PR.push {w0 w W w6 : World} {v v' : Value} {ts : List Sl} {u : Sl} (h : PR w0 w v ts) (hb : Below w.heap.size w W) (hu : Own W w.heap.size u.A u.n u.c u.xs)
    (hl : LstS w6 w0.heap.size v' (ts ++ [u])) (hg : W.grownBy w6 v.ownBlock) (hk : v'.ownBlock = v.ownBlock ∨ v'.ownBlock = some W.heap.size) : PR w0 w6 v' (ts ++ [u]) := by
  have h5 := h.kept hb
  have key : ∀ t : Sl, Own W w0.heap.size t.A t.n t.c t.xs → (t.val.ownBlock = none ∨ t.val.ownBlock ≠ v.ownBlock) → Own w6 w0.heap.size t.A t.n t.c t.xs ∧ (t.val.ownBlock = none ∨ t.val.ownBlock ≠ v'.ownBlock) := by
    intro t ht hn
    refine ⟨World.ownsRow.kept ht hg hn, ?_⟩
    rcases hk with e | e
    · rw [e]; exact hn
    · rw [e]
      cases hb2 : t.val.ownBlock with
      | none => exact .inl rfl
      | some k =>
        refine .inr fun e2 => ?_
        have h1 := (World.ownsRow.lt ht k hb2).2
        have := Option.some.inj e2
        omega
  refine ⟨hl, ?_, ?_⟩
  · intro t ht
    rcases List.mem_append.1 ht with ht | ht
    · exact key t (h5.rows t ht).1 (h5.rows t ht).2
    · simp at ht
      subst ht
      refine key t (hu.mono h.below.size) ?_
      cases hb2 : t.val.ownBlock with
      | none => exact .inl rfl
      | some k =>
        refine .inr fun e2 => ?_
        have h1 := (World.ownsRow.lt hu k hb2).1
        have h2 := (LstS.blk h.lst k e2.symm).2
        omega
  · exact h5.below.grown hg h5.below.size (fun k hk => (LstS.blk h5.lst k hk).1)
theorem own_pair (w : World) (x y : Int) (B : Nat) (hB : B ≤ w.heap.size) : Own (w.alloc (.cells #[.int .i64 x, .int .i64 y] 2)) B (some ⟨w.heap.size, 0, none⟩) 2 2 [x, y] := Lst.made w hB [x, y] 2 rfl (by omega) _ rfl
theorem rdS_new (w : World) (t : Sl) (h : t.ok w w.heap.size) : RdS (w.alloc (.cells #[t.val] 22)) (w.alloc (.cells #[t.val] 22)).heap.size (some ⟨w.heap.size, 0, none⟩) 1 [t] := by
  refine ⟨rfl, fun t' ht => ?_, fun _ => ⟨w.heap.size, 0, rfl, by simp, fun i t' ht => ?_⟩⟩
  · simp at ht
    subst ht
    exact (h.keep fun p hp => World.cell?_alloc_lt w _ p (by omega)).more (by simp)
  · have hi : i < 1 := by have := (List.getElem?_eq_some_iff.1 ht).1; simpa using this
    have hh := cell_of_row (w.alloc (.cells #[t.val] 22)) w.heap.size i #[t.val] 22 (0, 0) (heap_alloc_new w _)
    rw [Nat.zero_add, hh]
    obtain rfl : i = 0 := by omega
    simp at ht
    subst ht
    rfl

end Go.Proofs.Ytlldocdmjeeaaaa.grid
namespace Go.Proofs.Ytlldocdmjeeaaaa.hand
open Go.RowKit
open base mem grid

/-! ### hands dealt from different cards -/
def pairT (cs : List Int) (k : Nat) : List (List Int) := (List.range k).map fun i => [cs.getD (2 * i) 0, cs.getD (2 * i + 1) 0]
theorem pairT_step (cs : List Int) (k : Nat) : pairT cs (k + 1) = pairT cs k ++ [[cs.getD (2 * k) 0, cs.getD (2 * k + 1) 0]] := by unfold pairT; rw [List.range_succ, List.map_append]; rfl
theorem pairT_len (cs : List Int) (k : Nat) : (pairT cs k).length = k := by simp [pairT]
theorem pairT_two (cs : List Int) (k : Nat) : ∀ p ∈ pairT cs k, p.length = 2 := by
  intro p hp
  unfold pairT at hp
  obtain ⟨i, _, rfl⟩ := List.mem_map.1 hp
  rfl
theorem pairT_flat (cs : List Int) : ∀ k, 2 * k ≤ cs.length → (pairT cs k).flatten = cs.take (2 * k)
  | 0, _ => by simp [pairT]
  | k + 1, h => by
    have h1 : cs.getD (2 * k) 0 = cs[2 * k] := by simp [List.getD, show 2 * k < cs.length by omega]
    have h2 : cs.getD (2 * k + 1) 0 = cs[2 * k + 1] := by simp [List.getD, show 2 * k + 1 < cs.length by omega]
    rw [pairT_step, List.flatten_append, pairT_flat cs k (by omega), h1, h2, show 2 * (k + 1) = 2 * k + 1 + 1 by omega, List.take_succ_eq_append_getElem (show 2 * k + 1 < cs.length by omega), List.take_succ_eq_append_getElem (show 2 * k < cs.length by omega), List.append_assoc]
    rfl
theorem fine_perm {xs ys : List Int} (h : xs.Perm ys) (hf : Fine xs) : Fine ys := ⟨h.nodup_iff.1 hf.1, fun x hx => hf.2 x (h.mem_iff.2 hx)⟩
theorem cards_of_fine {xs : List Int} (h : Fine xs) : cardsB xs = true := by
  refine cards_yes fun j hj => ?_
  have e : xs.getD j 0 = xs[j] := by simp [List.getD, hj]
  have hr := h.2 _ (List.getElem_mem hj)
  unfold goodC
  rw [e, Bool.and_eq_true]
  refine ⟨inB_mk (by omega) (by omega), ?_⟩
  rw [Bool.not_eq_true']
  refine decide_eq_false fun hm => ?_
  obtain ⟨i, hi, he⟩ := List.mem_iff_getElem.1 hm
  rw [List.length_take] at hi
  rw [List.getElem_take] at he
  have hp := List.pairwise_iff_getElem.1 (List.nodup_iff_pairwise_ne.1 h.1) i j (by omega) hj (by omega)
  exact hp he
/-- hands and a board, or the first cards of it, are fit -/
theorem can_dealt {cs : List Int} {s : Nat} (hf : Fine cs) (h2 : 2 ≤ s) (h4 : s ≤ 4) (hl : 2 * s ≤ cs.length) {bs : List Int} {least : Nat} (hb : bs.Sublist (cs.drop (2 * s))) (h5 : bs.length ≤ 5) (hle : least ≤ bs.length) : canB (pairT cs s) bs least = true := by
  have hpl := pairT_len cs s
  have h1 : Fine (bs ++ (pairT cs s).flatten) := by
    rw [pairT_flat cs s hl]
    have h3 : Fine (cs.drop (2 * s) ++ cs.take (2 * s)) := fine_perm (by
      have := List.perm_append_comm (l₁ := cs.take (2 * s)) (l₂ := cs.drop (2 * s))
      rwa [List.take_append_drop] at this) hf
    exact h3.sub (List.Sublist.append_right hb _)
  unfold canB
  rw [cards_of_fine h1, hpl]
  have e1 : ((pairT cs s).all fun p => p.length == 2) = true := by
    rw [List.all_eq_true]
    intro p hp
    simpa using pairT_two cs s p hp
  rw [e1, decide_eq_true (show 2 ≤ s ∧ s ≤ 4 from ⟨h2, h4⟩), decide_eq_true (show least ≤ bs.length ∧ bs.length ≤ 5 from ⟨hle, h5⟩)]
  rfl

end Go.Proofs.Ytlldocdmjeeaaaa.hand
