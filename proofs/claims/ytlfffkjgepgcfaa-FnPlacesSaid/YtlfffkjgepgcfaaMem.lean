/-
  Words for lists of numbers in memory, and the contracts of the four functions by which a statement copies, compares, marks and asks such lists. Conditions: those of each theorem.
-/
import Derived.Test.YtlfffkjgepgcfaaBase
import Derived.Laws.OwnMore
import Derived.OwnWalk
import Derived.WalkSmall
namespace Go.Proofs.Ytlfffkjgepgcfaa.mem
open Go.RowKit
open base

def ivs (xs : List Int) : List Value := xs.map (Value.int .i64)
theorem ivs_len (xs : List Int) : (ivs xs).length = xs.length := by simp [ivs]
theorem ivs_at (xs : List Int) (k : Nat) (h : k < xs.length) : (ivs xs)[k]? = some (.int .i64 (xs.getD k 0)) := by
  simp [ivs, List.getElem?_map, List.getElem?_eq_getElem h, List.getD]
theorem ivs_set (xs : List Int) (k : Nat) (x : Int) : (ivs xs).set k (.int .i64 x) = ivs (xs.set k x) := by simp [ivs, List.map_set]
theorem ivs_app (xs ys : List Int) : ivs xs ++ ivs ys = ivs (xs ++ ys) := by simp [ivs]
theorem ivs_one (xs : List Int) : ∀ u ∈ ivs xs, u.oneCell' = true := by
  intro u hu
  simp only [ivs, List.mem_map] at hu
  obtain ⟨x, _, rfl⟩ := hu
  rfl

/-- the slice '.slice A n c' reads as xs, from blocks below B -/
def Rd (w : World) (B : Nat) (A : Option Addr) (n : Nat) (xs : List Int) : Prop :=
  xs.length = n ∧ (0 < n → ∃ b o, A = some ⟨b, o, none⟩ ∧ b < B ∧ ∀ k, k < n → w.cell? ⟨b, o + k, none⟩ = some (.int .i64 (xs.getD k 0)))

section
variable {w w' : World} {B B' : Nat} {A : Option Addr} {n c : Nat} {xs : List Int}
theorem Rd.len (h : Rd w B A n xs) : xs.length = n := h.1
theorem Rd.at_ (h : Rd w B A n xs) {k : Nat} (hk : k < n) : ∃ b o, A = some ⟨b, o, none⟩ ∧ b < B ∧ w.cell? ⟨b, o + k, none⟩ = some (.int .i64 (xs.getD k 0)) := by
  obtain ⟨b, o, e, hb, hc⟩ := h.2 (by omega)
  exact ⟨b, o, e, hb, hc k hk⟩
theorem Rd.keep (h : Rd w B A n xs) (hk : ∀ p : Addr, p.block < B → w'.cell? p = w.cell? p) : Rd w' B A n xs :=
  ⟨h.1, fun hn => by
    obtain ⟨b, o, e, hb, hc⟩ := h.2 hn
    exact ⟨b, o, e, hb, fun k hk' => (hk _ hb).trans (hc k hk')⟩⟩
theorem Rd.more (h : Rd w B A n xs) (hB : B ≤ B') : Rd w B' A n xs :=
  ⟨h.1, fun hn => by
    obtain ⟨b, o, e, hb, hc⟩ := h.2 hn
    exact ⟨b, o, e, by omega, hc⟩⟩
theorem Rd.below (h : Rd w B A n xs) (hb : Below B w w') : Rd w' B A n xs := h.keep fun _ hp => hb.cell hp
theorem Rd.drewN (h : Rd w B A n xs) (k : Nat) : Rd (w.drewN k) B A n xs := h
theorem Rd.alloc (h : Rd w B A n xs) (hB : B ≤ w.heap.size) (o : Obj) : Rd (w.alloc o) B A n xs := h.keep fun p hp => World.cell?_alloc_lt w o p (by omega)
theorem Rd.nil : Rd w B A 0 [] := ⟨rfl, fun h => absurd h (by omega)⟩
end

/-- '.slice A n c' lies in a block of its own, from B on, and holds xs -/
def Own (w : World) (B : Nat) (A : Option Addr) (n c : Nat) (xs : List Int) : Prop := w.ownsRow B 2 1 (.slice A n c) n (ivs xs)

section
variable {w w' : World} {B B' : Nat} {A : Option Addr} {n c : Nat} {xs : List Int}
theorem Own.nil (w : World) (B : Nat) : Own w B none 0 0 [] := World.ownsRow_nil w B 2 1
theorem Own.len (h : Own w B A n c xs) : xs.length = n := by have := h.1; simpa [ivs] using this
theorem Own.form (h : Own w B A n c xs) (hn : 0 < n) : ∃ g, A = some ⟨g, 0, none⟩ ∧ B ≤ g ∧ g < w.heap.size := by
  rcases h.2 with ⟨_, h0⟩ | ⟨g, cap, cur, hv, hb, hg, _⟩
  · omega
  · refine ⟨g, ?_, hb, (Array.getElem?_eq_some_iff.1 hg).1⟩
    injection hv
theorem Own.rd (h : Own w B A n c xs) : Rd w w.heap.size A n xs := by
  refine ⟨h.len, fun hn => ?_⟩
  obtain ⟨g, rfl, _, hlt⟩ := h.form hn
  refine ⟨g, 0, rfl, hlt, fun k hk => ?_⟩
  have := World.ownsRow.cellAt (h := h) k (by omega)
  rw [Nat.zero_add, this, ivs_at _ _ (by rw [h.len]; exact hk)]
theorem own_of_row {v : Value} (h : w.ownsRow B 2 1 v n (ivs xs)) : ∃ A c, v = .slice A n c ∧ Own w B A n c xs := by
  rcases h.2 with ⟨rfl, rfl⟩ | ⟨g, cap, cur, rfl, _⟩
  · exact ⟨none, 0, rfl, h⟩
  · exact ⟨some ⟨g, 0, none⟩, cap, rfl, h⟩
theorem Own.ownBlock (h : Own w B A n c xs) : ∀ k, (Value.slice A n c).ownBlock = some k → B ≤ k ∧ k < w.heap.size := World.ownsRow.lt h
theorem Own.below (h : Own w B A n c xs) (hb : Below B' w w') (hB : w.heap.size ≤ B') : Own w' B A n c xs := by
  refine World.ownsRow.kept (row := none) h ⟨hb.os, hb.tape, hb.output, hb.size, fun k hk _ => hb.block k (by omega)⟩ ?_
  cases (Value.slice A n c).ownBlock <;> simp
theorem Own.drewN (h : Own w B A n c xs) (k : Nat) : Own (w.drewN k) B A n c xs := h
theorem Own.mono (h : Own w B A n c xs) (hB : B' ≤ B) : Own w B' A n c xs := by
  refine ⟨h.1, ?_⟩
  rcases h.2 with h0 | ⟨g, cap, cur, hv, hb, r⟩
  · exact .inl h0
  · exact .inr ⟨g, cap, cur, hv, by omega, r⟩
/-- blocks from 'lo' to below 'hi' may have turned, and new ones come -/
theorem Own.kept (h : Own w B A n c xs) {row : Option Nat} (hg : w.grownBy w' row) (hr : ∀ k, row = some k → k < B ∨ w.heap.size ≤ k) : Own w' B A n c xs := by
  refine World.ownsRow.kept h hg ?_
  cases hv : (Value.slice A n c).ownBlock with
  | none => exact .inl rfl
  | some k =>
    refine .inr fun e => ?_
    have h1 := h.ownBlock k hv
    rcases hr k e.symm with h2 | h2 <;> omega
end

/-! ### copies -/
theorem info_int64 : (Try.prog.info? 2).map (fun i => (i.zero, i.size, i.bytes)) = some (some (.int .i64 0), 1, 8) := by kernel_rfl
def padded (xs : List Int) (k n : Nat) : List Int := xs.take k ++ List.replicate (n - k) 0
theorem padded_zero (xs : List Int) (n : Nat) : padded xs 0 n = List.replicate n 0 := by simp [padded]
theorem padded_all (xs : List Int) (n : Nat) (h : xs.length = n) : padded xs n n = xs := by subst h; simp [padded]
theorem padded_step (xs : List Int) (k n : Nat) (h : xs.length = n) (hk : k < n) : (padded xs k n).set k (xs.getD k 0) = padded xs (k + 1) n := by
  obtain ⟨m, hm⟩ : ∃ m, n - k = m + 1 := ⟨n - k - 1, by omega⟩
  have hx : k < xs.length := by omega
  have h1 : (xs.take k).length = k := by rw [List.length_take]; omega
  unfold padded
  rw [List.set_append_right _ _ (by omega), h1, Nat.sub_self, hm, show n - (k + 1) = m from by omega, List.replicate_succ, List.set_cons_zero,
    List.take_succ_eq_append_getElem hx, List.append_assoc]
  simp [List.getD, hx]

set_option maxHeartbeats 400000 in
theorem toInt64S_any (A : Option Addr) (n c : Nat) (xs : List Int) (w : World) (hR : Rd w w.heap.size A n xs) (hn : n ≤ 1048576) :
    Calls Try.prog 29 #[.slice A n c] w fun e w' => ∃ A' c', e = .returned (.slice A' n c') ∧ Own w' w.heap.size A' n c' xs ∧ Below w.heap.size w w' := by
  obtain ⟨i0, hi, hz0, hz1, hz2⟩ := info_parts info_int64
  have hz2' : i0.bytes * n ≤ 281474976710656 := by rw [hz2]; omega
  have HZ2 := hide hz2
  have HL := hide hR.len
  clear hz2
  go_enter Try.func29, Try.ntmps29
  go_wp2_with (at_make; refine wpList_make_full _ rfl (.tmp 6) (.tmp 6) 35 rfl w.heap.size 2 i0 (.int .i64 0) 1 Try.underlying35 hi hz0 hz1 .i64 .i64 _ _ n rfl rfl rfl rfl hz2' (by unfold maxLen; omega) (Nat.le_refl _) ?_; intro w1 hown hgr)
  have hb1 : Below w.heap.size w w1 := (Below.refl _ _).grown hgr (Nat.le_refl _) (fun _ h => by cases h)
  have hown1 : Own w1 w.heap.size (some ⟨w.heap.size, 0, none⟩) n n (padded xs 0 n) := by
    unfold Own
    rw [padded_zero]
    simpa [Value.cells, toList_madeCells_one, ivs] using hown
  have hsz := hgr.size
  clear hown hgr hz2' hi hz0 hz1
  generalize hg : w.heap.size = g at *
  have HG := hide hg
  clear hg
  go_loopw [4] (fun i wr => ∃ k : Nat, k ≤ n ∧ i = .int .i64 k ∧ Own wr g (some ⟨g, 0, none⟩) n n (padded xs k n) ∧ Below g w wr) (fun i _ => n - (intOf i).toNat)
  case atStart => exact ⟨0, Nat.zero_le _, rfl, hown1, hb1⟩
  case round =>
    obtain ⟨k, hk, rfl, hown, hb⟩ := hrel
    by_cases hlt : k < n
    · obtain ⟨b, o, rfl, hbB, hc⟩ := (hR.below hb).at_ hlt
      have hc2 := World.ownsRow.cellAt (h := hown) k (by omega)
      rw [ivs_at _ _ (by rw [hown.len]; exact hlt)] at hc2
      have hf2 := World.ownsRow.frozenAt (h := hown) k
      have hst := World.ownsRow.stored (h := hown) k (.int .i64 (xs.getD k 0))
      rw [ivs_set, padded_step xs k n HL.out hlt] at hst
      generalize xs.getD k 0 = x at *
      generalize (padded xs k n).getD k 0 = y at *
      have HS := hide hst
      have hge : g ≤ wr.heap.size := by have := hb.size; rw [HG.out] at this; exact this
      clear hst hown
      go_wp2
      go_roundw
      case rel => exact ⟨k + 1, by omega, by go_num, HS.out.1, hb.grown HS.out.2 hge (fun j hj => by cases hj; exact Nat.le_refl _)⟩
      case measure => simp [intOf]; omega
    · obtain rfl : k = n := by omega
      go_wp2
      go_ret
      rw [padded_all xs k HL.out] at hown
      rw [HG.out]
      exact ⟨_, _, rfl, hown, hb⟩

/-! ### comparisons -/
def eqL (xs ys : List Int) : Bool := decide (xs = ys)
theorem eqL_self (xs : List Int) : eqL xs xs = true := by simp [eqL]
theorem eqL_len {xs ys : List Int} (h : xs.length ≠ ys.length) : eqL xs ys = false := by
  unfold eqL
  exact decide_eq_false (fun e => h (by rw [e]))
theorem eqL_ne {xs ys : List Int} {k : Nat} (h : xs.getD k 0 ≠ ys.getD k 0) : eqL xs ys = false := by
  unfold eqL
  exact decide_eq_false (fun e => h (by rw [e]))
theorem take_step {xs ys : List Int} {k : Nat} (hx : k < xs.length) (hy : k < ys.length) (h : xs.take k = ys.take k) (he : xs.getD k 0 = ys.getD k 0) : xs.take (k + 1) = ys.take (k + 1) := by
  rw [List.take_succ_eq_append_getElem hx, List.take_succ_eq_append_getElem hy, h]
  simp [List.getD, hx, hy] at he
  rw [he]
theorem eqL_all {xs ys : List Int} {n : Nat} (hx : xs.length = n) (hy : ys.length = n) (h : xs.take n = ys.take n) : eqL xs ys = true := by
  rw [List.take_of_length_le (by omega), List.take_of_length_le (by omega)] at h
  simp [eqL, h]

set_option maxHeartbeats 400000 in
theorem eqInt64S_any (A A' : Option Addr) (n m c c' : Nat) (xs ys : List Int) (w : World) (B B' : Nat) (hR : Rd w B A n xs) (hS : Rd w B' A' m ys) (hn : n ≤ 9223372036854775807) (hm : m ≤ 9223372036854775807) :
    Calls Try.prog 25 #[.slice A n c, .slice A' m c'] w fun e w' => e = .returned (.bool (eqL xs ys)) ∧ ∃ q, w' = w.drewN q := by
  by_cases hne : n = m
  · subst hne
    have HX := hide hR.len
    have HY := hide hS.len
    generalize hE : eqL xs ys = E
    have HE := hide hE
    clear hE
    go_enter Try.func25, Try.ntmps25
    go_wp2
    go_loopw [5] (fun i wr => ∃ k q : Nat, k ≤ n ∧ i = .int .i64 k ∧ Hid (xs.take k = ys.take k) ∧ Hid (wr = w.drewN q)) (fun i _ => n - (intOf i).toNat)
    case atStart => exact ⟨0, 0, Nat.zero_le _, rfl, rfl, rfl⟩
    case round =>
      obtain ⟨k, q, hk, rfl, ht, hw⟩ := hrel
      by_cases hlt : k < n
      · have hR' : Rd wr B A n xs := by rw [hw.out]; exact hR
        have hS' : Rd wr B' A' n ys := by rw [hw.out]; exact hS
        obtain ⟨b, o, rfl, hbB, hc⟩ := hR'.at_ hlt
        obtain ⟨b', o', rfl, hbB', hc'⟩ := hS'.at_ hlt
        have hlt' : (k : Int) < (n : Int) := by omega
        have h0 : (0 : Int) ≤ (k : Int) := by omega
        clear hR' hS'
        generalize hx : xs.getD k 0 = x at *
        generalize hy : ys.getD k 0 = y at *
        have HX' := hide hx
        have HY' := hide hy
        clear hx hy hR hS hbB hbB'
        by_cases hxy : x = y
        · subst hxy
          go_wp2
          go_quiet (fail)
          go_wp2
          go_roundw
          case rel => exact ⟨k + 1, q + nq, by omega, by go_num, hide (take_step (by rw [HX.out]; exact hlt) (by rw [HY.out]; exact hlt) ht.out (HX'.out.trans HY'.out.symm)), hide (by rw [hw.out, World.drewN_drewN])⟩
          case measure => simp [intOf]; omega
        · have hb : (x != y) = true := by simpa using hxy
          have HF := hide (eqL_ne (k := k) (xs := xs) (ys := ys) (by rw [HX'.out, HY'.out]; exact hxy))
          clear hxy
          go_wp2
          go_quiet (fail)
          go_wp2
          go_ret
          exact ⟨by rw [← HE.out, HF.out]; rfl, q + nq, by rw [hw.out, World.drewN_drewN]⟩
      · obtain rfl : k = n := by omega
        go_wp2
        go_ret
        exact ⟨by rw [← HE.out, eqL_all HX.out HY.out ht.out]; rfl, q, hw.out⟩
  · have hl : eqL xs ys = false := eqL_len (by rw [hR.len, hS.len]; exact hne)
    rw [hl]
    have hb : ((n : Int) != (m : Int)) = true := by rw [bne_iff_ne]; omega
    clear hR hS hl hne
    go_enter Try.func25, Try.ntmps25
    go_wp2
    go_ret
    exact ⟨rfl, 0, rfl⟩

/-! ### marks -/
theorem grown_trans {w w1 w2 : World} {row : Option Nat} (h : w.grownBy w1 row) (k : w1.grownBy w2 row) : w.grownBy w2 row :=
  ⟨k.os.trans h.os, k.tape.trans h.tape, k.output.trans h.output, Nat.le_trans h.size k.size, fun i hi hne => (k.block i (by have := h.size; omega) hne).trans (h.block i hi hne)⟩
def marks (k n : Nat) : List Int := (List.range n).map fun i => ((k + i : Nat) : Int)
theorem marks_len (k n : Nat) : (marks k n).length = n := by simp [marks]
def marked (xs : List Int) (k i : Nat) : List Int := marks k i ++ xs.drop i
theorem marked_zero (xs : List Int) (k : Nat) : marked xs k 0 = xs := by simp [marked, marks]
theorem marked_all (xs : List Int) (k : Nat) (n : Nat) (h : xs.length = n) : marked xs k n = marks k n := by subst h; simp [marked]
theorem marks_succ (k i : Nat) : marks k (i + 1) = marks k i ++ [((k + i : Nat) : Int)] := by simp [marks, List.range_succ]
theorem marked_step (xs : List Int) (k i : Nat) (h : i < xs.length) : (marked xs k i).set i ((k + i : Nat) : Int) = marked xs k (i + 1) := by
  unfold marked
  rw [List.set_append_right _ _ (by rw [marks_len]; omega), marks_len, Nat.sub_self, List.drop_eq_getElem_cons h, List.set_cons_zero, marks_succ, List.append_assoc]
  rfl
theorem marks_getD (k n i : Nat) (h : i < n) : (marks k n).getD i 0 = ((k + i : Nat) : Int) := by
  simp [marks, List.getD, h]

set_option maxHeartbeats 400000 in
theorem markInt64S_any (A : Option Addr) (n c : Nat) (xs : List Int) (w : World) (B : Nat) (hR : Own w B A n c xs) (k : Nat) (hn : n ≤ 9000000000000000000) (hk : k ≤ 200000000000000000) :
    Calls Try.prog 26 #[.slice A n c, .int .i64 k] w fun e w' => e = .returned (.int .i64 ((k + n : Nat) : Int)) ∧ Own w' B A n c (marks k n) ∧ w.grownBy w' (Value.slice A n c).ownBlock ∧ w'.heap.size = w.heap.size := by
  have HL := hide hR.len
  have hR0 : Own w B A n c (marked xs k 0) := by rw [marked_zero]; exact hR
  go_enter Try.func26, Try.ntmps26
  go_wp2
  go_loopw [1, 5] (fun kk i wr => ∃ j : Nat, j ≤ n ∧ i = .int .i64 j ∧ kk = .int .i64 ((k + j : Nat) : Int) ∧ Own wr B A n c (marked xs k j) ∧ w.grownBy wr (Value.slice A n c).ownBlock ∧ Hid (wr.heap.size = w.heap.size)) (fun _ i _ => n - (intOf i).toNat)
  case atStart => exact ⟨0, Nat.zero_le _, rfl, rfl, hR0, World.grownBy.refl w _, rfl⟩
  case round =>
    obtain ⟨j, hj, rfl, rfl, hown, hg, hs⟩ := hrel
    by_cases hlt : j < n
    · obtain ⟨g, rfl, hB, hgs⟩ := hown.form (by omega)
      have hc2 := World.ownsRow.cellAt (h := hown) j (by omega)
      rw [ivs_at _ _ (by rw [hown.len]; exact hlt)] at hc2
      have hf2 := World.ownsRow.frozenAt (h := hown) j
      have hst := World.ownsRow.stored (h := hown) j (.int .i64 ((k + j : Nat) : Int))
      rw [ivs_set, marked_step xs k j (by rw [HL.out]; exact hlt)] at hst
      generalize (marked xs k j).getD j 0 = y at *
      have HS := hide hst
      have HG := hide hg
      clear hst hown hg
      go_wp2
      go_roundw
      case rel => exact ⟨j + 1, by omega, by go_num, by go_num, HS.out.1, grown_trans HG.out HS.out.2, hide (by rw [← hs.out]; simp [World.setCell])⟩
      case measure => simp [intOf]; omega
    · obtain rfl : j = n := by omega
      go_wp2
      go_ret
      rw [marked_all xs k j HL.out] at hown
      exact ⟨rfl, hown, hg, hs.out⟩

set_option maxHeartbeats 400000 in
theorem heldInt64S_any (A : Option Addr) (n c : Nat) (w : World) (B : Nat) (k : Nat) (hR : Rd w B A n (marks k n)) (hn : n ≤ 9000000000000000000) (hk : k ≤ 200000000000000000) :
    Calls Try.prog 27 #[.slice A n c, .int .i64 k] w fun e w' => e = .returned (.int .i64 ((k + n : Nat) : Int)) ∧ w = w' := by
  go_enter Try.func27, Try.ntmps27
  go_wp2
  go_loop [1, 5] (fun kk i => ∃ j : Nat, j ≤ n ∧ i = .int .i64 j ∧ kk = .int .i64 ((k + j : Nat) : Int)) (fun _ i => n - (intOf i).toNat)
  case atStart => exact ⟨0, Nat.zero_le _, rfl, rfl⟩
  case round =>
    obtain ⟨j, hj, rfl, rfl⟩ := hrel
    by_cases hlt : j < n
    · obtain ⟨b, o, rfl, hB, hc⟩ := hR.at_ hlt
      rw [marks_getD k n j hlt] at hc
      clear hR
      go_wp2
      go_round
      case rel => exact ⟨j + 1, by omega, by go_num, by go_num⟩
      case measure => simp [intOf]; omega
    · obtain rfl : j = n := by omega
      go_wp2
      go_ret
      exact ⟨rfl, rfl⟩
end Go.Proofs.Ytlfffkjgepgcfaa.mem
