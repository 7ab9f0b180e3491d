/-
  Words for lists of float32 words in memory, and the contracts of the functions by which a statement compares, marks and asks them. Conditions: those of each theorem.
-/
import Derived.Test.YtlfffkjgepgcfaaLawB
import Derived.Test.YtlfffkjgepgcfaaApp
import Derived.Test.YtlfffkjgepgcfaaPl
namespace Go.Proofs.Ytlfffkjgepgcfaa.mem
open Go.RowKit
open base fl pl
open Ieee

def fvs (xs : List Nat) : List Value := xs.map (Value.float .f32)
theorem fvs_len (xs : List Nat) : (fvs xs).length = xs.length := by simp [fvs]
theorem fvs_at (xs : List Nat) (k : Nat) (h : k < xs.length) : (fvs xs)[k]? = some (.float .f32 (xs.getD k 0)) := by
  simp [fvs, List.getElem?_map, List.getElem?_eq_getElem h, List.getD]
theorem fvs_set (xs : List Nat) (k : Nat) (x : Nat) : (fvs xs).set k (.float .f32 x) = fvs (xs.set k x) := by simp [fvs, List.map_set]
theorem fvs_app (xs ys : List Nat) : fvs xs ++ fvs ys = fvs (xs ++ ys) := by simp [fvs]
theorem fvs_one (xs : List Nat) : ∀ u ∈ fvs xs, u.oneCell' = true := by
  intro u hu
  simp only [fvs, List.mem_map] at hu
  obtain ⟨x, _, rfl⟩ := hu
  rfl

/-- the slice '.slice A n c' reads as xs, from blocks below B -/
def RdF (w : World) (B : Nat) (A : Option Addr) (n : Nat) (xs : List Nat) : Prop :=
  xs.length = n ∧ (0 < n → ∃ b o, A = some ⟨b, o, none⟩ ∧ b < B ∧ ∀ k, k < n → w.cell? ⟨b, o + k, none⟩ = some (.float .f32 (xs.getD k 0)))

section
variable {w w' : World} {B B' : Nat} {A : Option Addr} {n c : Nat} {xs : List Nat}
theorem RdF.len (h : RdF w B A n xs) : xs.length = n := h.1
theorem RdF.at_ (h : RdF w B A n xs) {k : Nat} (hk : k < n) : ∃ b o, A = some ⟨b, o, none⟩ ∧ b < B ∧ w.cell? ⟨b, o + k, none⟩ = some (.float .f32 (xs.getD k 0)) := by
  obtain ⟨b, o, e, hb, hc⟩ := h.2 (by omega)
  exact ⟨b, o, e, hb, hc k hk⟩
theorem RdF.keep (h : RdF w B A n xs) (hk : ∀ p : Addr, p.block < B → w'.cell? p = w.cell? p) : RdF w' B A n xs :=
  ⟨h.1, fun hn => by
    obtain ⟨b, o, e, hb, hc⟩ := h.2 hn
    exact ⟨b, o, e, hb, fun k hk' => (hk _ hb).trans (hc k hk')⟩⟩
theorem RdF.more (h : RdF w B A n xs) (hB : B ≤ B') : RdF w B' A n xs :=
  ⟨h.1, fun hn => by
    obtain ⟨b, o, e, hb, hc⟩ := h.2 hn
    exact ⟨b, o, e, by omega, hc⟩⟩
theorem RdF.below (h : RdF w B A n xs) (hb : Below B w w') : RdF w' B A n xs := h.keep fun _ hp => hb.cell hp
theorem RdF.drewN (h : RdF w B A n xs) (k : Nat) : RdF (w.drewN k) B A n xs := h
theorem RdF.alloc (h : RdF w B A n xs) (hB : B ≤ w.heap.size) (o : Obj) : RdF (w.alloc o) B A n xs := h.keep fun p hp => World.cell?_alloc_lt w o p (by omega)
theorem RdF.nil : RdF w B A 0 [] := ⟨rfl, fun h => absurd h (by omega)⟩
end

/-- '.slice A n c' lies in a block of its own, from B on, and holds xs -/
def OwnF (w : World) (B : Nat) (A : Option Addr) (n c : Nat) (xs : List Nat) : Prop := w.ownsRow B 25 1 (.slice A n c) n (fvs xs)

section
variable {w w' : World} {B B' : Nat} {A : Option Addr} {n c : Nat} {xs : List Nat}
theorem OwnF.nil (w : World) (B : Nat) : OwnF w B none 0 0 [] := World.ownsRow_nil w B 25 1
theorem OwnF.len (h : OwnF w B A n c xs) : xs.length = n := by have := h.1; simpa [fvs] using this
theorem OwnF.form (h : OwnF w B A n c xs) (hn : 0 < n) : ∃ g, A = some ⟨g, 0, none⟩ ∧ B ≤ g ∧ g < w.heap.size := by
  rcases h.2 with ⟨_, h0⟩ | ⟨g, cap, cur, hv, hb, hg, _⟩
  · omega
  · refine ⟨g, ?_, hb, (Array.getElem?_eq_some_iff.1 hg).1⟩
    injection hv
theorem OwnF.rd (h : OwnF w B A n c xs) : RdF w w.heap.size A n xs := by
  refine ⟨h.len, fun hn => ?_⟩
  obtain ⟨g, rfl, _, hlt⟩ := h.form hn
  refine ⟨g, 0, rfl, hlt, fun k hk => ?_⟩
  have := World.ownsRow.cellAt (h := h) k (by omega)
  rw [Nat.zero_add, this, fvs_at _ _ (by rw [h.len]; exact hk)]
theorem ownF_of_row {v : Value} (h : w.ownsRow B 25 1 v n (fvs xs)) : ∃ A c, v = .slice A n c ∧ OwnF w B A n c xs := by
  rcases h.2 with ⟨rfl, rfl⟩ | ⟨g, cap, cur, rfl, _⟩
  · exact ⟨none, 0, rfl, h⟩
  · exact ⟨some ⟨g, 0, none⟩, cap, rfl, h⟩
theorem OwnF.ownBlock (h : OwnF w B A n c xs) : ∀ k, (Value.slice A n c).ownBlock = some k → B ≤ k ∧ k < w.heap.size := World.ownsRow.lt h
theorem OwnF.below (h : OwnF w B A n c xs) (hb : Below B' w w') (hB : w.heap.size ≤ B') : OwnF w' B A n c xs := by
  refine World.ownsRow.kept (row := none) h ⟨hb.os, hb.tape, hb.output, hb.size, fun k hk _ => hb.block k (by omega)⟩ ?_
  cases (Value.slice A n c).ownBlock <;> simp
theorem OwnF.drewN (h : OwnF w B A n c xs) (k : Nat) : OwnF (w.drewN k) B A n c xs := h
theorem OwnF.mono (h : OwnF w B A n c xs) (hB : B' ≤ B) : OwnF w B' A n c xs := by
  refine ⟨h.1, ?_⟩
  rcases h.2 with h0 | ⟨g, cap, cur, hv, hb, r⟩
  · exact .inl h0
  · exact .inr ⟨g, cap, cur, hv, by omega, r⟩
/-- blocks from 'lo' to below 'hi' may have turned, and new ones come -/
theorem OwnF.kept (h : OwnF w B A n c xs) {row : Option Nat} (hg : w.grownBy w' row) (hr : ∀ k, row = some k → k < B ∨ w.heap.size ≤ k) : OwnF w' B A n c xs := by
  refine World.ownsRow.kept h hg ?_
  cases hv : (Value.slice A n c).ownBlock with
  | none => exact .inl rfl
  | some k =>
    refine .inr fun e => ?_
    have h1 := h.ownBlock k hv
    rcases hr k e.symm with h2 | h2 <;> omega
end

/-- the list lies in a block of its own, from lo on and below hi -/
def SegF (w : World) (lo hi : Nat) (A : Option Addr) (n c : Nat) (xs : List Nat) : Prop := OwnF w lo A n c xs ∧ ∀ k, (Value.slice A n c).ownBlock = some k → k < hi
section
variable {w w' : World} {lo hi B : Nat} {A : Option Addr} {n c : Nat} {xs : List Nat}
theorem SegF.of (h : OwnF w lo A n c xs) : SegF w lo w.heap.size A n c xs := ⟨h, fun k hk => (h.ownBlock k hk).2⟩
theorem SegF.len (h : SegF w lo hi A n c xs) : xs.length = n := h.1.len
theorem SegF.cap (h : SegF w lo hi A n c xs) : n ≤ c := by
  rcases h.1.2 with ⟨hv, h0⟩ | ⟨g, cap, cur, hv, _, _, hnc, _⟩
  · omega
  · injection hv with _ _ hc; omega
theorem SegF.rd (h : SegF w lo hi A n c xs) (hB : hi ≤ B) : RdF w B A n xs := by
  refine ⟨h.1.len, fun hn => ?_⟩
  obtain ⟨b, o, rfl, _, hc⟩ := h.1.rd.2 hn
  exact ⟨b, o, rfl, Nat.lt_of_lt_of_le (h.2 b rfl) hB, hc⟩
theorem SegF.below (h : SegF w lo hi A n c xs) (hb : Below B w w') (hB : hi ≤ B) : SegF w' lo hi A n c xs := by
  refine ⟨⟨h.1.1, ?_⟩, h.2⟩
  rcases h.1.2 with h0 | ⟨g, cap, cur, hv, hlo, hg, r⟩
  · exact .inl h0
  · refine .inr ⟨g, cap, cur, hv, hlo, ?_, r⟩
    have hgh : g < hi := h.2 g (by rw [hv]; rfl)
    rw [hb.block g (by omega)]
    exact hg
theorem SegF.grown (h : SegF w lo hi A n c xs) {row : Option Nat} (hg : w.grownBy w' row) (hr : ∀ k, row = some k → k < lo ∨ hi ≤ k) : SegF w' lo hi A n c xs := by
  refine ⟨World.ownsRow.kept h.1 hg ?_, h.2⟩
  cases hv : (Value.slice A n c).ownBlock with
  | none => exact .inl rfl
  | some k =>
    refine .inr fun e => ?_
    have h1 := h.1.ownBlock k hv
    have h2 := h.2 k hv
    rcases hr k e.symm with h3 | h3 <;> omega
end

/-- the value v is a list of the call's own, from block B on, and holds xs -/
def LstF (w : World) (B : Nat) (v : Value) (xs : List Nat) : Prop := w.ownsRow B 25 1 v xs.length (fvs xs)
section
variable {w w' : World} {B B' : Nat} {v : Value} {xs : List Nat}
theorem LstF.form (h : LstF w B v xs) : ∃ A c, v = .slice A xs.length c ∧ OwnF w B A xs.length c xs := ownF_of_row h
theorem LstF.of {A : Option Addr} {n c : Nat} (h : OwnF w B A n c xs) : LstF w B (.slice A n c) xs := by
  unfold LstF
  rw [h.len]
  exact h
theorem LstF.nil (w : World) (B : Nat) : LstF w B (.slice none 0 0) [] := World.ownsRow_nil w B 25 1
theorem LstF.new (w : World) (hB : B ≤ w.heap.size) : LstF (w.alloc (.cells #[] 25)) B (.slice (some ⟨w.heap.size, 0, none⟩) 0 0) [] :=
  World.ownsRow_made w #[] 0 hB (Nat.zero_le _) rfl
theorem LstF.new' (w : World) (hB : B ≤ w.heap.size) {g : Nat} (hg : w.heap.size = g) : LstF (w.alloc (.cells #[] 25)) B (.slice (some ⟨g, 0, none⟩) 0 0) [] := by subst hg; exact LstF.new w hB
theorem LstF.made (w : World) (hB : B ≤ w.heap.size) (xs : List Nat) (n : Nat) (hn : xs.length = n) (hm : n ≤ 1000000) (cs : Array Value) (hc : cs = (fvs xs).toArray) : LstF (w.alloc (.cells cs 25)) B (.slice (some ⟨w.heap.size, 0, none⟩) n n) xs := by
  subst hn hc
  exact ⟨by simp [fvs], .inr ⟨w.heap.size, xs.length, _, rfl, hB, heap_alloc_new w _, Nat.le_refl _, by unfold maxLen; omega, by simp [fvs], by rw [List.take_of_length_le (by simp [fvs])]⟩⟩
theorem LstF.one (w : World) (hB : B ≤ w.heap.size) (x : Nat) : LstF (w.alloc (.cells #[.float .f32 x] 25)) B (.slice (some ⟨w.heap.size, 0, none⟩) 1 1) [x] :=
  LstF.made w hB [x] 1 rfl (by omega) _ rfl
theorem LstF.formn {n : Nat} (h : LstF w B v xs) (hl : xs.length = n) : ∃ A c, v = .slice A n c ∧ OwnF w B A n c xs := by subst hl; exact ownF_of_row h
theorem LstF.alloc (h : LstF w B v xs) (o : Obj) : LstF (w.alloc o) B v xs := World.ownsRow.alloc h o
theorem LstF.drewN (h : LstF w B v xs) (k : Nat) : LstF (w.drewN k) B v xs := h
theorem LstF.below (h : LstF w B v xs) (hb : Below w.heap.size w w') : LstF w' B v xs := by
  obtain ⟨A, c, rfl, ho⟩ := h.form
  exact LstF.of (ho.below hb (Nat.le_refl _))
theorem LstF.blk (h : LstF w B v xs) : ∀ k, v.ownBlock = some k → B ≤ k ∧ k < w.heap.size := World.ownsRow.lt h
theorem LstF.kept (h : LstF w B v xs) {row : Option Nat} (hg : w.grownBy w' row) (hne : v.ownBlock = none ∨ v.ownBlock ≠ row) : LstF w' B v xs := World.ownsRow.kept h hg hne
theorem LstF.grown (h : LstF w B v xs) (hg : w.grownBy w' v.ownBlock) (hB : B ≤ w.heap.size) : Below B w w' := grown_below hg hB fun k hk => (h.blk k hk).1
end


theorem info_f32 : (Try.prog.info? 25).map (fun i => (i.zero, i.size, i.bytes)) = some (some (.float .f32 0), 1, 4) := by kernel_rfl
section
variable {w : World}
theorem rdF_one (w : World) (x : Nat) (t : TypeId) : RdF (w.alloc (.cells #[.float .f32 x] t)) (w.alloc (.cells #[.float .f32 x] t)).heap.size (some ⟨w.heap.size, 0, none⟩) 1 [x] := by
  refine ⟨rfl, fun _ => ⟨w.heap.size, 0, rfl, by simp, fun k hk => ?_⟩⟩
  obtain rfl : k = 0 := by omega
  exact cell_one_new w (.float .f32 x) t 0 _ rfl
theorem run_appF (t : TypeId) (B : Nat) (v : Value) (xs ys : List Nat) (hown : LstF w B v xs) (A : Option Addr) (m c : Nat) (hR : RdF w w.heap.size A m ys) (hnone : A = none → c = 0) (hlen : xs.length + m ≤ 1000000000000) (hB : B ≤ w.heap.size) :
    ∃ v' w', (Builtin.append_ #[41, 41] t #[v, .slice A m c]).run Try.prog w = .ok v' w' ∧ LstF w' B v' (xs ++ ys) ∧ w.grownBy w' v.ownBlock ∧ (v'.ownBlock = v.ownBlock ∨ v'.ownBlock = some w.heap.size) := by
  obtain ⟨i0, hi, hz0, hz1, hz2⟩ := info_parts info_f32
  cases A with
  | none =>
    have hm : m = 0 := by
      rcases Nat.eq_zero_or_pos m with h0 | h0
      · exact h0
      · obtain ⟨b, o', hA, _⟩ := hR.2 h0
        cases hA
    subst hm
    have hc := hnone rfl
    subst hc
    have hy : ys = [] := List.eq_nil_of_length_eq_zero hR.len
    subst hy
    exact ⟨v, w, run_append_owned_none (P := Try.prog) w B 41 t 25 i0 1 Try.underlying41 hi v xs.length (fvs xs) hown, by rw [List.append_nil]; exact hown, World.grownBy.refl w _, .inl rfl⟩
  | some ad =>
    obtain ⟨v', w', hr, h2, h3, _, h5⟩ := run_append_own_at (P := Try.prog) w B 41 t 25 i0 (.float .f32 0) 1 4 Try.underlying41 hi hz0 hz1 hz2 rfl (by omega) v xs.length (fvs xs) hown ad m c (fvs ys)
      (by rw [fvs_len, hR.len]; omega) (by
        intro j u hj
        have hjm : j < m := by
          have := (List.getElem?_eq_some_iff.1 hj).1
          rw [fvs_len, hR.len] at this
          exact this
        obtain ⟨b, off, hA, _, hc⟩ := hR.at_ hjm
        obtain rfl : ad = ⟨b, off, none⟩ := Option.some.inj hA
        rw [Go.WideShapes.add_plain, hc]
        rw [fvs_at _ _ (by rw [hR.len]; exact hjm)] at hj
        exact hj) (fvs_one ys) (by unfold maxLen; omega) (by omega) hB
    refine ⟨v', w', hr, ?_, h3, h5⟩
    unfold LstF
    rw [List.length_append, hR.len, ← fvs_app]
    exact h2

theorem wp_appF {o : Oper} {a : Act} {K : Act → World → Prop} {Q : Exit → Act → World → Prop} (s x : Operand)
    (ho : o.op = .call { callee := .builtin .append, args := #[s, x], argTypes := #[41, 41] }) (B : Nat) (v : Value) (xs ys : List Nat) (hs : a.eval s = v) (hown : LstF w B v xs)
    (A : Option Addr) (m c : Nat) (hx : a.eval x = .slice A m c) (hR : RdF w w.heap.size A m ys) (hnone : A = none → c = 0) (hlen : xs.length + m ≤ 1000000000000) (hB : B ≤ w.heap.size)
    (h : ∀ v' w', LstF w' B v' (xs ++ ys) → w.grownBy w' v.ownBlock → (v'.ownBlock = v.ownBlock ∨ v'.ownBlock = some w.heap.size) → K (a.put o.dst v') w') : o.wp Try.prog a w K Q := by
  obtain ⟨v', w', hr, h2, h3, h5⟩ := run_appF (w := w) o.type B v xs ys hown A m c hR hnone hlen hB
  unfold Oper.wp execOp
  simp only [ho, resolve, invoke, builtin, Sem.run_bind, Sem.run_pure, Result.andThen_ok, List.map_toArray, List.map_cons, List.map_nil, hs, hx, hr]
  exact h v' w' h2 h3 h5

theorem wpList_appF {ops : Array Oper} {rest : List Oper} {o : Oper} {a : Act} {Q : Exit → Act → World → Prop} (hgd : o.guard = none) (s x : Operand)
    (ho : o.op = .call { callee := .builtin .append, args := #[s, x], argTypes := #[41, 41] }) (B : Nat) (v : Value) (xs ys : List Nat) (hs : a.eval s = v) (hown : LstF w B v xs)
    (A : Option Addr) (m c : Nat) (hx : a.eval x = .slice A m c) (hR : RdF w w.heap.size A m ys) (hnone : A = none → c = 0) (hlen : xs.length + m ≤ 1000000000000) (hB : B ≤ w.heap.size)
    (h : ∀ v' w', LstF w' B v' (xs ++ ys) → w.grownBy w' v.ownBlock → (v'.ownBlock = v.ownBlock ∨ v'.ownBlock = some w.heap.size) → wpList Try.prog ops Q rest (a.put o.dst v') w') :
    wpList Try.prog ops Q (o :: rest) a w :=
  wpList_plain hgd fun _ hK => wp_appF s x ho B v xs ys hs hown A m c hx hR hnone hlen hB fun v' w' h2 h3 h4 => hK _ _ (h v' w' h2 h3 h4)

theorem step_appF {ops : Array Oper} {o : Oper} {a : Act} {K : Act → World → Prop} {Q : Exit → Act → World → Prop} {E : Prop} (hgd : o.guard = none) (s x : Operand)
    (ho : o.op = .call { callee := .builtin .append, args := #[s, x], argTypes := #[41, 41] }) (B : Nat) (v : Value) (xs ys : List Nat) (hs : a.eval s = v) (hown : LstF w B v xs)
    (A : Option Addr) (m c : Nat) (hx : a.eval x = .slice A m c) (hR : RdF w w.heap.size A m ys) (hnone : A = none → c = 0) (hlen : xs.length + m ≤ 1000000000000) (hB : B ≤ w.heap.size)
    (h : ∀ v' w', LstF w' B v' (xs ++ ys) → w.grownBy w' v.ownBlock → (v'.ownBlock = v.ownBlock ∨ v'.ownBlock = some w.heap.size) → K (a.put o.dst v') w') :
    if Region.wanted o (yielded ops a.tmps) = true then Oper.wp Try.prog o a w K Q else E := by
  have hw : Region.wanted o (yielded ops a.tmps) = true := by simp [Region.wanted, hgd]
  rw [if_pos hw]
  exact wp_appF s x ho B v xs ys hs hown A m c hx hR hnone hlen hB h
end

/-! ### comparisons -/
theorem wide_same {c : Nat} {x : Rat} (h : V single c x) : ∃ b2 z, (∀ w, (convert 25 29 (.float .f32 c)).run Try.prog w = .ok (.float .f64 b2) w) ∧ V double b2 z := by
  obtain ⟨b2, z, hw, hz, _⟩ := wide_V h
  exact ⟨b2, z, fun w => run_convert_float_float (P := Try.prog) w 25 29 .f32 .f64 _ _ (by rw [Try.underlying25]; rfl) Try.underlying29 hw, hz⟩
/-- all words stand for numbers -/
def NumF (xs : List Nat) : Prop := ∀ k, k < xs.length → ∃ x, V single (xs.getD k 0) x

set_option maxHeartbeats 1000000 in
theorem eqFloat32S_any (A A' : Option Addr) (n c c' : Nat) (xs : List Nat) (w : World) (B B' : Nat) (hR : RdF w B A n xs) (hS : RdF w B' A' n xs) (hN : NumF xs) (hn : n ≤ 9223372036854775807) :
    Calls Try.prog 31 #[.slice A n c, .slice A' n c'] w fun e w' => e = .returned (.bool true) ∧ ∃ q, w' = w.drewN q := by
  have HX := hide hR.len
  have HN := hide hN
  clear hN
  go_enter Try.func31, Try.ntmps31
  go_wp2
  go_loopw [5] (fun i wr => ∃ k q : Nat, k ≤ n ∧ i = .int .i64 k ∧ Hid (wr = w.drewN q)) (fun i _ => n - (intOf i).toNat)
  case atStart => exact ⟨0, 0, Nat.zero_le _, rfl, rfl⟩
  case round =>
    obtain ⟨k, q, hk, rfl, hw⟩ := hrel
    by_cases hlt : k < n
    · have hR' : RdF wr B A n xs := by rw [hw.out]; exact hR
      have hS' : RdF wr B' A' n xs := by rw [hw.out]; exact hS
      obtain ⟨b, o, rfl, hbB, hc⟩ := hR'.at_ hlt
      obtain ⟨b', o', rfl, hbB', hc'⟩ := hS'.at_ hlt
      obtain ⟨x, hx⟩ := HN.out k (by rw [HX.out]; exact hlt)
      obtain ⟨b2, z, hC, hz⟩ := wide_same hx
      have HW := hide (fun W => sameFloat_V hz W)
      have hlt' : (k : Int) < (n : Int) := by omega
      have h0 : (0 : Int) ≤ (k : Int) := by omega
      clear hR' hS' hx hz HN hR hS hbB hbB'
      generalize xs.getD k 0 = y at *
      go_wp2
      go_quiet (first | (go_at_call 18; exact quiet_eq2 (HW.out _)))
      go_wp2
      go_roundw
      case rel => exact ⟨k + 1, q + nq, by omega, by go_num, hide (by rw [hw.out, World.drewN_drewN])⟩
      case measure => simp [intOf]; omega
    · obtain rfl : k = n := by omega
      go_wp2
      go_ret
      exact ⟨rfl, q, hw.out⟩

/-! ### marks -/
def marksF (k n : Nat) : List Nat := (List.range n).map fun i => FloatKind.f32.nearest ((k + i : Nat) : Int)
theorem marksF_len (k n : Nat) : (marksF k n).length = n := by simp [marksF]
def markedF (xs : List Nat) (k i : Nat) : List Nat := marksF k i ++ xs.drop i
theorem markedF_zero (xs : List Nat) (k : Nat) : markedF xs k 0 = xs := by simp [markedF, marksF]
theorem markedF_all (xs : List Nat) (k : Nat) (n : Nat) (h : xs.length = n) : markedF xs k n = marksF k n := by subst h; simp [markedF]
theorem marksF_succ (k i : Nat) : marksF k (i + 1) = marksF k i ++ [FloatKind.f32.nearest ((k + i : Nat) : Int)] := by simp [marksF, List.range_succ]
theorem markedF_step (xs : List Nat) (k i : Nat) (h : i < xs.length) : (markedF xs k i).set i (FloatKind.f32.nearest ((k + i : Nat) : Int)) = markedF xs k (i + 1) := by
  unfold markedF
  rw [List.set_append_right _ _ (by rw [marksF_len]; omega), marksF_len, Nat.sub_self, List.drop_eq_getElem_cons h, List.set_cons_zero, marksF_succ, List.append_assoc]
  rfl
theorem marksF_getD (k n i : Nat) (h : i < n) : (marksF k n).getD i 0 = FloatKind.f32.nearest ((k + i : Nat) : Int) := by
  simp [marksF, List.getD, h]
theorem marksF_num {k n : Nat} (h : k + n ≤ 16777216) : NumF (marksF k n) := by
  intro i hi
  rw [marksF_len] at hi
  rw [marksF_getD k n i hi]
  exact ⟨_, int_exact (by omega) (by omega)⟩

theorem store_f {w : World} {a : Addr} {u : Value} {v : Nat} (hc : w.cell? a = some u) (hf : w.frozen? a = false) : (store a (.float .f32 v)).run Try.prog w = .ok () (w.setCell a (.float .f32 v)) := by
  rw [run_store _ _ _ _ _ rfl, hc]
  simp [hf]
set_option maxHeartbeats 1000000 in
theorem markFloat32S_any (A : Option Addr) (n c : Nat) (xs : List Nat) (w : World) (B : Nat) (hR : OwnF w B A n c xs) (k : Nat) (hn : n ≤ 9000000000000000000) (hk : k ≤ 200000000000000000) :
    Calls Try.prog 32 #[.slice A n c, .int .i64 k] w fun e w' => e = .returned (.int .i64 ((k + n : Nat) : Int)) ∧ OwnF w' B A n c (marksF k n) ∧ w.grownBy w' (Value.slice A n c).ownBlock ∧ w'.heap.size = w.heap.size := by
  have HL := hide hR.len
  have hR0 : OwnF w B A n c (markedF xs k 0) := by rw [markedF_zero]; exact hR
  go_enter Try.func32, Try.ntmps32
  go_wp2
  go_loopw [1, 5] (fun kk i wr => ∃ j : Nat, j ≤ n ∧ i = .int .i64 j ∧ kk = .int .i64 ((k + j : Nat) : Int) ∧ OwnF wr B A n c (markedF xs k j) ∧ w.grownBy wr (Value.slice A n c).ownBlock ∧ Hid (wr.heap.size = w.heap.size)) (fun _ i _ => n - (intOf i).toNat)
  case atStart => exact ⟨0, Nat.zero_le _, rfl, rfl, hR0, World.grownBy.refl w _, rfl⟩
  case round =>
    obtain ⟨j, hj, rfl, rfl, hown, hg, hs⟩ := hrel
    by_cases hlt : j < n
    · obtain ⟨g, rfl, hB, hgs⟩ := hown.form (by omega)
      have hc2 := World.ownsRow.cellAt (h := hown) j (by omega)
      rw [fvs_at _ _ (by rw [hown.len]; exact hlt)] at hc2
      have hf2 := World.ownsRow.frozenAt (h := hown) j
      have hst := World.ownsRow.stored (h := hown) j (.float .f32 (FloatKind.f32.nearest ((k + j : Nat) : Int)))
      rw [fvs_set, markedF_step xs k j (by rw [HL.out]; exact hlt)] at hst
      have en : FloatKind.f32.nearest ((k + j : Nat) : Int) = floatOfInt .f32 ((k : Int) + (j : Int)) := rfl
      rw [en] at hst
      clear en
      have hsf := store_f (v := floatOfInt .f32 ((k : Int) + (j : Int))) hc2 hf2
      generalize (markedF xs k j).getD j 0 = y at *
      have HS := hide hst
      have HG := hide hg
      clear hst hown hg
      go_wp2
      go_roundw
      case rel => exact ⟨j + 1, by omega, by go_num, by go_num, HS.out.1, grown_trans HG.out HS.out.2, hide (by rw [← hs.out]; simp [World.setCell])⟩
      case measure => simp [intOf]; omega
    · obtain rfl : j = n := by omega
      go_wp2
      go_ret
      rw [markedF_all xs k j HL.out] at hown
      exact ⟨rfl, hown, hg, hs.out⟩

set_option maxHeartbeats 1000000 in
theorem heldFloat32S_any (A : Option Addr) (n c : Nat) (w : World) (B : Nat) (k : Nat) (hR : RdF w B A n (marksF k n)) (hn : k + n ≤ 16777216) :
    Calls Try.prog 33 #[.slice A n c, .int .i64 k] w fun e w' => e = .returned (.int .i64 ((k + n : Nat) : Int)) ∧ w = w' := by
  go_enter Try.func33, Try.ntmps33
  go_wp2
  go_loop [1, 5] (fun kk i => ∃ j : Nat, j ≤ n ∧ i = .int .i64 j ∧ kk = .int .i64 ((k + j : Nat) : Int)) (fun _ i => n - (intOf i).toNat)
  case atStart => exact ⟨0, Nat.zero_le _, rfl, rfl⟩
  case round =>
    obtain ⟨j, hj, rfl, rfl⟩ := hrel
    by_cases hlt : j < n
    · obtain ⟨b, o, rfl, hB, hc⟩ := hR.at_ hlt
      rw [marksF_getD k n j hlt] at hc
      have ho : FloatKind.f32.format.order (FloatKind.f32.nearest ((k + j : Nat) : Int)) (FloatKind.f32.nearest ((k + j : Nat) : Int)) = some .eq := order_self (int_exact (by omega) (by omega))
      have en : FloatKind.f32.nearest ((k + j : Nat) : Int) = floatOfInt .f32 ((k : Int) + (j : Int)) := rfl
      rw [en] at ho hc
      clear hR en
      go_wp2
      go_round
      case rel => exact ⟨j + 1, by omega, by go_num, by go_num⟩
      case measure => simp [intOf]; omega
    · obtain rfl : j = n := by omega
      go_wp2
      go_ret
      exact ⟨rfl, rfl⟩

theorem eqF (A A' : Option Addr) (n c c' : Nat) (xs : List Nat) (w : World) (hR : RdF w w.heap.size A n xs) (hS : RdF w w.heap.size A' n xs) (hN : NumF xs) (hn : n ≤ 1048576) :
    Calls Try.prog 31 #[.slice A n c, .slice A' n c'] w fun e w' => e = .returned (.bool true) ∧ Below w.heap.size w w' :=
  (eqFloat32S_any A A' n c c' xs w _ _ hR hS hN (by omega)).mono fun _ _ ⟨he, q, hq⟩ => ⟨he, by rw [hq]; exact below_drewN (Below.refl _ _) q⟩
theorem markF (A : Option Addr) (n c : Nat) (xs : List Nat) (w : World) (lo hi : Nat) (h : SegF w lo hi A n c xs) (hlo : lo ≤ w.heap.size) (k : Nat) (hn : n ≤ 1048576) (hk : k ≤ 100000000) :
    Calls Try.prog 32 #[.slice A n c, .int .i64 k] w fun e w' => e = .returned (.int .i64 ((k + n : Nat) : Int)) ∧ SegF w' lo hi A n c (marksF k n) ∧
      (∃ row, w.grownBy w' row ∧ ∀ k, row = some k → lo ≤ k ∧ k < hi) ∧ Below lo w w' :=
  (markFloat32S_any A n c xs w lo h.1 k (by omega) (by omega)).mono fun _ w' ⟨he, ho, hg, hs⟩ =>
    ⟨he, ⟨ho, h.2⟩, ⟨_, hg, fun k hk => ⟨(h.1.ownBlock k hk).1, h.2 k hk⟩⟩,
      ⟨hg.os, hg.tape, hg.output, hg.size, fun k hk => hg.block k (by omega) (fun e => by have := (h.1.ownBlock k e.symm).1; omega)⟩⟩
theorem heldF (A : Option Addr) (n c : Nat) (w : World) (B : Nat) (k : Nat) (hR : RdF w B A n (marksF k n)) (hn : n ≤ 1048576) (hk : k ≤ 10000000) :
    Calls Try.prog 33 #[.slice A n c, .int .i64 k] w fun e w' => e = .returned (.int .i64 ((k + n : Nat) : Int)) ∧ w = w' :=
  heldFloat32S_any A n c w B k hR (by omega)
end Go.Proofs.Ytlfffkjgepgcfaa.mem
