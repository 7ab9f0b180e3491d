/-
  slices.Insert at the head of a row of the call's own, one value. Conditions: those of each theorem.
-/
import Derived.Test.YtfncmgaeecjacaaApp
import Derived.Test.YtfncmgaeecjacaaMem2
import Derived.Shelf.Spec.SlicesInsertGrow
namespace Go.Proofs.Ytfncmgaeecjacaa.mem
open Go.RowKit
open base Go.Shelf Go.Lib

theorem below_setCells {B : Nat} {a : World} (b : Nat) (hb : B ≤ b) : ∀ (vs : List Value) (o : Nat) {w : World}, Below B a w → Below B a (w.setCells b o vs)
  | [], _, _, h => h
  | v :: r, o, _, h => below_setCells b hb r (o + 1) (h.setCell (p := ⟨b, o, none⟩) hb v)
theorem heap_setCells (g : Nat) (T : TypeId) (fl : Nat × Nat) : ∀ (vs : List Value) (o : Nat) (w : World) (cur : Array Value), w.heap[g]? = some (.cells cur T fl) → ∃ cur', (w.setCells g o vs).heap[g]? = some (.cells cur' T fl) ∧ cur'.size = cur.size
  | [], _, _, cur, h => ⟨cur, h, rfl⟩
  | v :: r, o, w, cur, h => by
    have h1 : (w.setCell ⟨g, o, none⟩ v).heap[g]? = some (.cells (cur.setIfInBounds o v) T fl) := by
      simp [World.setCell, Array.getElem?_modify, h]
    obtain ⟨cur', h2, h3⟩ := heap_setCells g T fl r (o + 1) _ _ h1
    exact ⟨cur', h2, by rw [h3]; simp⟩
theorem own_of_cells {w : World} {B g n c : Nat} {cur : Array Value} {xs : List Int} (h : w.heap[g]? = some (.cells cur 2 (0, 0))) (hB : B ≤ g) (hnc : n ≤ c) (hc : c ≤ maxLen) (hs : cur.size = c) (hx : xs.length = n)
    (hcell : ∀ k, k < n → w.cell? ⟨g, k, none⟩ = some (.int .i64 (xs.getD k 0))) : Own w B (some ⟨g, 0, none⟩) n c xs := by
  refine ⟨by rw [ivs_len, hx, Nat.mul_one], .inr ⟨g, c, cur, rfl, hB, h, hnc, hc, by rw [hs, Nat.mul_one], ?_⟩⟩
  rw [Nat.mul_one]
  apply List.ext_getElem?
  intro k
  by_cases hk : k < n
  · rw [List.getElem?_take_of_lt hk, ivs_at _ _ (by omega), ← hcell k hk, cell_of_row w g k cur 2 (0, 0) h]
    simp
  · rw [List.getElem?_eq_none (by simp [hs]; omega), List.getElem?_eq_none (by rw [ivs_len]; omega)]

set_option maxHeartbeats 4000000 in
set_option maxRecDepth 100000 in
theorem ins_shift (b n c vb : Nat) (cs : List Value) (x : Value) (w : World) (cur : Array Value) (hb : w.heap[b]? = some (.cells cur 2 (0, 0))) (hcur : cur.size = c) (hv : w.heap[vb]? = some (.cells #[x] 2 (0, 0)))
    (hn : 0 < n) (hroom : n + 1 ≤ c) (hc63 : c ≤ 9223372036854775807) (hvb : vb ≠ b) (hcl : cs.length = n) (hcs : ∀ j v, cs[j]? = some v → w.cell? ⟨b, j, none⟩ = some v) (h1c : ∀ v ∈ cs, v.oneCell' = true) (h1x : x.oneCell' = true) :
    Calls Try.prog 71 #[.slice (some ⟨b, 0, none⟩) n c, .int .i64 0, .slice (some ⟨vb, 0, none⟩) 1 1] w fun e w' =>
      e = .returned (.slice (some ⟨b, 0, none⟩) (n + 1) c) ∧ w' = (w.drew.setCells b 1 cs).setCells b 0 [x] := by
  have hz2 : ¬ ((0 : Int) = (n : Int)) := by omega
  have hsz : (Try.prog.info? 2).map (·.size) = some 1 := by kernel_rfl
  have hov : ∀ lb cb, (callFunc 93 #[.slice (some ⟨vb, 0, none⟩) 1 1, .slice (some ⟨b, 1, none⟩) lb cb]).run Try.prog w = .ok (.value (.bool false)) w := fun lb cb => by
    rw [run_callFunc_extern Try.func93 (by kernel_rfl) (by kernel_rfl) (by kernel_rfl) (e := Extern.SlicesOverlaps.overlaps #[22, 22] #[4]) (by kernel_rfl),
      Lib.run_overlaps_apart w 22 4 2 Try.underlying22 1 Try.sizeOf2 ⟨vb, 0, none⟩ ⟨b, 1, none⟩ 1 1 lb cb hvb 2 2 1 c (by simp [World.shape?, hv]) (by simp [World.shape?, hb, hcur]) (by omega) (by simp [World.frozen?, hv]) (by simp [World.frozen?, hv])]
    rfl
  have hisb : ∀ j, j < n + 1 → (w.cell? ⟨b, j, none⟩).isSome = true := fun j hj => by rw [cell_of_row w b j cur 2 (0, 0) hb, Array.getElem?_eq_getElem (by omega)]; rfl
  have hfb : ∀ j, w.frozen? ⟨b, j, none⟩ = false := fun j => by simp [World.frozen?, hb]
  have hcx : w.cell? ⟨vb, 0, none⟩ = some x := by rw [cell_of_row w vb 0 #[x] 2 (0, 0) hv]; rfl
  have hw1 : IntKind.i64.wrap ((n : Int) + 1) = (n : Int) + 1 := by rw [IntKind.wrap_i64]; omega
  have htn : ((n : Int) + 1).toNat = n + 1 := by omega
  have hw0 : IntKind.i64.wrap 1 = 1 := by decide
  have ht1 : (1 : Int).toNat = 1 := rfl
  have hb2 : ¬ (c = 1) := by omega
  have hb3 : (0 : Int) ≤ (n : Int) + 1 := by omega
  have hb4 : ¬ (c = 0) := by omega
  have hb5 : (1 : Int) ≤ (n : Int) + 1 := by omega
  have hcp1 : ∀ ty dc sc, (Builtin.copy_ #[22, 22] ty #[.slice (some ⟨b, 1, none⟩) n dc, .slice (some ⟨b, 0, none⟩) (n + 1) sc]).run Try.prog w.drew = .ok (goInt cs.length) (w.drew.setCells b 1 cs) := fun ty dc sc =>
    run_copy_cells w.drew _ _ ty 2 b 1 n dc ⟨b, 0, none⟩ (n + 1) sc cs Try.underlying22 hsz (by rw [hcl]; simp only [Nat.min_def]; split <;> omega)
      (fun j v hj => by rw [Addr.add_lit, Nat.zero_add]; exact hcs j v hj)
      (fun j hj => hisb _ (by omega)) (fun j hj => hfb _) h1c
  obtain ⟨W1, hW1⟩ : ∃ W1, W1 = w.drew.setCells b 1 cs := ⟨_, rfl⟩
  have hcp2 : ∀ (W : World), (∀ x, W.cell? x = W1.cell? x) → (∀ x, W.frozen? x = W1.frozen? x) → ∀ ty dc, (Builtin.copy_ #[22, 22] ty #[.slice (some ⟨b, 0, none⟩) (n + 1) dc, .slice (some ⟨vb, 0, none⟩) 1 1]).run Try.prog W = .ok (goInt 1) (W.setCells b 0 [x]) := fun W hWc hWf ty dc =>
    run_copy_cells W _ _ ty 2 b 0 (n + 1) dc ⟨vb, 0, none⟩ 1 1 [x] Try.underlying22 hsz (by simp only [Nat.min_def, List.length_singleton]; split <;> omega)
      (fun j v hj => by
        rw [Addr.add_lit, hWc, hW1, World.cell?_setCells_out b _ _ _ _ (fun h _ => absurd h hvb)]
        obtain rfl : j = 0 := by
          have := (List.getElem?_eq_some_iff.1 hj).1
          simpa using this
        have h2 : x = v := by simpa using hj
        rw [← h2]
        exact hcx)
      (fun j hj => by
        rw [hWc, hW1]
        exact isSome_setCells b cs 1 w.drew (fun t ht => hisb (1 + t) (by omega)) (0 + j) (hisb (0 + j) (by simp at hj; omega)))
      (fun j hj => by rw [hWf, hW1, World.frozen?_setCells]; exact hfb _) (fun v hv => by simp at hv; rw [hv]; exact h1x)
  rw [← hW1] at hcp1
  clear hb hv hisb hfb hcx hcs h1c h1x
  go_enter Try.func71, Try.ntmps71
  go_wp2_with (simp only [hov])
  go_region_law (refine step_copy_runI rfl _ _ 22 22 rfl _ _ (by simp [Act.eval, Act.put]) (by simp [Act.eval, Act.put]) (hcp1 _ _ _) ?_)
  go_wp2_with (at_builtin; refine wpList_copy_runI _ rfl _ _ 22 22 rfl _ _ rfl rfl (hcp2 _ (fun _ => rfl) (fun _ => rfl) _ _) ?_)
  go_ret
  first | exact ⟨rfl, rfl⟩ | exact ⟨rfl, by rw [hW1]⟩

set_option maxHeartbeats 4000000 in
set_option maxRecDepth 100000 in
theorem ins_grow (b n c vb : Nat) (cs : List Value) (x : Value) (w : World) (cur : Array Value) (hb : w.heap[b]? = some (.cells cur 2 (0, 0))) (hv : w.heap[vb]? = some (.cells #[x] 2 (0, 0)))
    (hn : 0 < n) (hnc : n ≤ c) (hroom : c < n + 1) (hbig : n ≤ 1000000) (hcl : cs.length = n) (hcs : ∀ j v, cs[j]? = some v → w.cell? ⟨b, j, none⟩ = some v) (h1c : ∀ v ∈ cs, v.oneCell' = true) (h1x : x.oneCell' = true) :
    Calls Try.prog 71 #[.slice (some ⟨b, 0, none⟩) n c, .int .i64 0, .slice (some ⟨vb, 0, none⟩) 1 1] w fun e w' => ∃ (G : Nat) (ROW : Array Value), ROW.size = G ∧ n + 1 ≤ G ∧ G ≤ maxLen ∧
      e = .returned (.slice (some ⟨w.heap.size, 0, none⟩) (n + 1) G) ∧ w' = (((w.alloc (.cells ROW 2)).drew.setCells w.heap.size 0 [x]).drew).setCells w.heap.size 1 cs := by
  have hz2 : ¬ ((0 : Int) = (n : Int)) := by omega
  have hz3 : (c : Int) < (n : Int) + 1 := by omega
  obtain ⟨i0, hi0, hz0, hzs, hzb⟩ := info_parts info_int64
  have hsz : (Try.prog.info? 2).map (·.size) = some 1 := by kernel_rfl
  have hbw : b < w.heap.size := (Array.getElem?_eq_some_iff.1 hb).1
  have hvw : vb < w.heap.size := (Array.getElem?_eq_some_iff.1 hv).1
  have hcx : w.cell? ⟨vb, 0, none⟩ = some x := by rw [cell_of_row w vb 0 #[x] 2 (0, 0) hv]; rfl
  have hw1 : IntKind.i64.wrap ((n : Int) + 1) = (n : Int) + 1 := by rw [IntKind.wrap_i64]; omega
  have hw0 : IntKind.i64.wrap 1 = 1 := by decide
  have htn : ((n : Int) + 1).toNat = n + 1 := by omega
  have ht1 : (1 : Int).toNat = 1 := rfl
  have hkk : (n : Int) + 1 = ((n + 1 : Nat) : Int) := by omega
  have hold : (Builtin.firstCells i0.size 0 (.slice (some ⟨b, 0, none⟩) 0 c)).run Try.prog w.drew = .ok ([] : List Value).toArray w.drew := by
    rw [hzs]
    exact run_firstCells_some w.drew 1 0 ⟨b, 0, none⟩ 0 c [] rfl (fun j v hj => by cases hj)
  obtain ⟨G, hG⟩ : ∃ G, G = grownCap w (n + 1) c 2 := ⟨_, rfl⟩
  obtain ⟨ROW, hROW⟩ : ∃ ROW : Array Value, ROW = ([] : List Value).toArray ++ Builtin.zeroCells (Value.int .i64 0).cells (n + 1) ++ Builtin.zeroCells (Value.int .i64 0).cells (G - (n + 1)) := ⟨_, rfl⟩
  have hGn : n + 1 ≤ G := by rw [hG]; exact grownCap_ge w _ _ _
  have hGm : G ≤ maxLen := by rw [hG]; exact grownCap_le_maxLen w (n + 1) c 2 (by unfold maxLen; omega)
  have hG63 : G ≤ 9223372036854775807 := by unfold maxLen at hGm; omega
  have hRs : ROW.size = G := by
    rw [hROW]
    simp [Builtin.zeroCells, Value.cells]
    omega
  have hrz : ∀ ty, (Builtin.append_ #[22, 3] ty #[.slice (some ⟨b, 0, none⟩) 0 c, .int .i64 ((n : Int) + 1)]).run Try.prog w = .ok (.slice (some ⟨w.heap.size, 0, none⟩) (n + 1) G) (w.drew.alloc (.cells ROW 2)) := fun ty => by
    have h := Lib.run_append_grow_zeros w 22 3 ty 2 i0 _ .i64 .i64 Try.underlying22 Try.underlying3 hi0 hz0 (some ⟨b, 0, none⟩) 0 c [] hold (n + 1) (by omega) (by omega) (by omega) (by omega) (by rw [hzb]; omega) (by rw [hzb, Nat.zero_add]; exact growslice_fits hroom (by omega))
    rw [Nat.zero_add, ← hG, ← hROW] at h
    rw [hkk]
    exact h
  obtain ⟨W1, hW1⟩ : ∃ W1, W1 = w.drew.alloc (.cells ROW 2) := ⟨_, rfl⟩
  rw [← hW1] at hrz
  have hN : ∀ j, j < n + 1 → (W1.cell? ⟨w.heap.size, j, none⟩).isSome = true := fun j hj => by
    rw [hW1, World.cell?_alloc_at (w := w.drew) ROW _ w.heap.size j rfl, Array.getElem?_eq_getElem (by omega)]; rfl
  have hNf : ∀ j, W1.frozen? ⟨w.heap.size, j, none⟩ = false := fun j => by rw [hW1]; exact World.frozen?_alloc_at (w := w.drew) ROW _ w.heap.size j rfl
  have hOb : ∀ j v, w.cell? ⟨b, j, none⟩ = some v → W1.cell? ⟨b, j, none⟩ = some v := fun j v h => by rw [hW1, World.cell?_alloc_past (w := w.drew) _ b j hbw]; exact h
  have hOv : ∀ j v, w.cell? ⟨vb, j, none⟩ = some v → W1.cell? ⟨vb, j, none⟩ = some v := fun j v h => by rw [hW1, World.cell?_alloc_past (w := w.drew) _ vb j hvw]; exact h
  have hcpA : ∀ (W : World), (∀ x, W.cell? x = W1.cell? x) → (∀ x, W.frozen? x = W1.frozen? x) → ∀ ty dc, (Builtin.copy_ #[22, 22] ty #[.slice (some ⟨w.heap.size, 0, none⟩) (n + 1) dc, .slice (some ⟨vb, 0, none⟩) 1 1]).run Try.prog W = .ok (goInt 1) (W.setCells w.heap.size 0 [x]) := fun W hWc hWf ty dc =>
    run_copy_cells W _ _ ty 2 w.heap.size 0 (n + 1) dc ⟨vb, 0, none⟩ 1 1 [x] Try.underlying22 hsz (by simp only [Nat.min_def, List.length_singleton]; split <;> omega)
      (fun j v hj => by
        rw [Addr.add_lit, hWc]
        obtain rfl : j = 0 := by
          have := (List.getElem?_eq_some_iff.1 hj).1
          simpa using this
        have h2 : x = v := by simpa using hj
        rw [← h2]
        exact hOv _ _ hcx)
      (fun j hj => by rw [hWc]; exact hN _ (by simp at hj; omega)) (fun j hj => by rw [hWf]; exact hNf _) (fun v hv => by simp at hv; rw [hv]; exact h1x)
  have hGi : ¬ (G = 0) := by omega
  have hGim : ¬ (G = 1) := by omega
  have hci : ¬ (c = 0) := by omega
  have hbN : b ≠ w.heap.size := by omega
  have hcpB : ∀ (W : World), (∀ y, W.cell? y = (W1.setCells w.heap.size 0 [x]).cell? y) → (∀ y, W.frozen? y = (W1.setCells w.heap.size 0 [x]).frozen? y) → ∀ ty dc sc, (Builtin.copy_ #[22, 22] ty #[.slice (some ⟨w.heap.size, 1, none⟩) n dc, .slice (some ⟨b, 0, none⟩) n sc]).run Try.prog W = .ok (goInt cs.length) (W.setCells w.heap.size 1 cs) := fun W hWc hWf ty dc sc =>
    run_copy_cells W _ _ ty 2 w.heap.size 1 n dc ⟨b, 0, none⟩ n sc cs Try.underlying22 hsz (by rw [hcl]; simp only [Nat.min_def]; split <;> omega)
      (fun j v hj => by
        rw [Addr.add_lit, hWc, World.cell?_setCells_out _ _ _ _ _ (fun h _ => absurd h hbN), Nat.zero_add]
        exact hOb _ v (hcs j v hj))
      (fun j hj => by rw [hWc]; exact isSome_setCells w.heap.size [x] 0 W1 (fun t ht => hN _ (by simp at ht; omega)) _ (hN _ (by omega)))
      (fun j hj => by rw [hWf, World.frozen?_setCells]; exact hNf _) h1c
  subst hW1
  have hE1 : ∀ x, ((w.alloc (.cells ROW 2)).drew).cell? x = (w.drew.alloc (.cells ROW 2)).cell? x := fun x => rfl
  have hE2 : ∀ x, ((w.alloc (.cells ROW 2)).drew).frozen? x = (w.drew.alloc (.cells ROW 2)).frozen? x := fun x => rfl
  have hF1 : ∀ y, (((w.alloc (.cells ROW 2)).drew.setCells w.heap.size 0 [x]).drew).cell? y = ((w.drew.alloc (.cells ROW 2)).setCells w.heap.size 0 [x]).cell? y := fun x => rfl
  have hF2 : ∀ y, (((w.alloc (.cells ROW 2)).drew.setCells w.heap.size 0 [x]).drew).frozen? y = ((w.drew.alloc (.cells ROW 2)).setCells w.heap.size 0 [x]).frozen? y := fun x => rfl
  have hb3 : (0 : Int) ≤ (n : Int) + 1 := by omega
  have hb5 : (1 : Int) ≤ (n : Int) + 1 := by omega
  have hnn : n + 1 - 1 = n := rfl
  clear hkk hold hROW hG hb hv hN hNf hOb hOv hcx hcs h1c h1x
  go_enter Try.func71, Try.ntmps71
  go_wp2_with (first | (at_builtin; refine Lib.wpList_append_run _ rfl _ _ _ _ rfl _ _ rfl rfl _ _ (hrz _) ?_) | (at_builtin; refine wpList_copy_runI _ rfl _ _ 22 22 rfl _ _ rfl rfl (hcpA _ hE1 hE2 _ _) ?_) | (at_builtin; refine wpList_copy_runI _ rfl _ _ 22 22 rfl _ _ rfl rfl (hcpB _ (fun _ => rfl) (fun _ => rfl) _ _ _) ?_))
  go_region_law (refine step_copy_runI rfl _ _ 22 22 rfl (.slice (some ⟨w.heap.size, 1, none⟩) n (G - 1)) (.slice (some ⟨b, 0, none⟩) n c) (by simp [Act.eval, Act.put]) (by simp [Act.eval, Act.put]) (hcpB _ hF1 hF2 3 (G - 1) c) ?_)
  go_wp2
  go_ret
  exact ⟨G, ROW, hRs, hGn, hGm, rfl, rfl⟩

set_option maxHeartbeats 1000000 in
theorem Insert_any (v : Value) (xs : List Int) (x : Int) (g vb : Nat) (w : World) (hL : Lst w g v xs) (hn : 0 < xs.length) (hle : xs.length ≤ 1000000) (hv : w.heap[vb]? = some (.cells #[.int .i64 x] 2 (0, 0))) (hvg : v.ownBlock ≠ some vb) (hg : g ≤ w.heap.size) :
    Calls Try.prog 71 #[v, .int .i64 0, .slice (some ⟨vb, 0, none⟩) 1 1] w fun e w' => ∃ v', e = .returned v' ∧ Lst w' g v' (x :: xs) ∧ Below g w w' := by
  obtain ⟨A, c, rfl, ho⟩ := hL.form
  have hrd := ho.rd
  rcases ho.2 with ⟨_, h0⟩ | ⟨b, cap, cur, hvv, hb, hheap, hnc, hcm, hcs, _⟩
  · omega
  obtain ⟨rfl, rfl⟩ : A = some ⟨b, 0, none⟩ ∧ c = cap := by
    injection hvv with h1 h2 h3
    exact ⟨h1, h3⟩
  rw [Nat.mul_one] at hcs
  have hne : vb ≠ b := fun e => hvg (by rw [e]; rfl)
  have hcells : ∀ j u, (ivs xs)[j]? = some u → w.cell? ⟨b, j, none⟩ = some u := by
    intro j u hj
    have hjx : j < xs.length := by
      have := (List.getElem?_eq_some_iff.1 hj).1
      rwa [ivs_len] at this
    obtain ⟨b', o', hA, _, hc'⟩ := hrd.at_ hjx
    obtain ⟨rfl, rfl⟩ : b = b' ∧ 0 = o' := by simpa using hA
    rw [Nat.zero_add] at hc'
    rw [hc', ← ivs_at xs j hjx, hj]
  have hbz : b < w.heap.size := (Array.getElem?_eq_some_iff.1 hheap).1
  have hvz : vb < w.heap.size := (Array.getElem?_eq_some_iff.1 hv).1
  by_cases hroom : xs.length + 1 ≤ c
  · refine (ins_shift b xs.length c vb (ivs xs) (.int .i64 x) w cur hheap hcs hv hn hroom (by unfold maxLen at hcm; omega) hne (ivs_len xs) hcells (ivs_one xs) rfl).mono ?_
    rintro e w' ⟨rfl, rfl⟩
    obtain ⟨cur1, h1, s1⟩ := heap_setCells b _ _ (ivs xs) 1 w.drew cur hheap
    obtain ⟨cur2, h2, s2⟩ := heap_setCells b _ _ [.int .i64 x] 0 _ cur1 h1
    refine ⟨_, rfl, Lst.of (own_of_cells (xs := x :: xs) h2 hb hroom hcm (by omega) rfl ?_), ?_⟩
    · intro k hk
      have his : ∀ t, t < xs.length + 1 → (w.drew.cell? ⟨b, t, none⟩).isSome = true := fun t ht => by
        show (w.cell? _).isSome = true
        rw [cell_of_row w b t cur 2 (0, 0) hheap, Array.getElem?_eq_getElem (by omega)]; rfl
      cases k with
      | zero =>
        have := World.cell?_setCells_in b [.int .i64 x] 0 (w.drew.setCells b 1 (ivs xs)) (fun j hj => isSome_setCells b _ _ _ (fun t ht => his _ (by rw [ivs_len] at ht; omega)) _ (his _ (by simp at hj; omega))) 0 (by simp)
        simpa using this
      | succ k =>
        rw [World.cell?_setCells_out b _ _ _ _ (fun _ _ => .inr (by simp))]
        have := World.cell?_setCells_in b (ivs xs) 1 w.drew (fun j hj => his _ (by rw [ivs_len] at hj; omega)) k (by rw [ivs_len]; omega)
        rw [Nat.add_comm k 1, this, ← List.getElem?_eq_getElem, ivs_at xs k (by omega)]
        rw [Nat.add_comm 1 k]
        rfl
    · exact below_setCells b hb _ _ (below_setCells b hb _ _ ((Below.refl _ _).drew))
  · refine (ins_grow b xs.length c vb (ivs xs) (.int .i64 x) w cur hheap hv hn hnc (by omega) hle (ivs_len xs) hcells (ivs_one xs) rfl).mono ?_
    rintro e w' ⟨G, ROW, hRs, hGn, hGm, rfl, rfl⟩
    obtain ⟨W, hW⟩ : ∃ W : World, W = (w.alloc (.cells ROW 2)).drew := ⟨_, rfl⟩
    have hh : W.heap[w.heap.size]? = some (.cells ROW 2 (0, 0)) := by rw [hW]; exact heap_alloc_new w _
    rw [← hW]
    have his : ∀ t, t < xs.length + 1 → (W.cell? ⟨w.heap.size, t, none⟩).isSome = true := fun t ht => by
      rw [cell_of_row W w.heap.size t ROW 2 (0, 0) hh, Array.getElem?_eq_getElem (by omega)]; rfl
    obtain ⟨cur1, h1, s1⟩ := heap_setCells w.heap.size _ _ [.int .i64 x] 0 W ROW hh
    obtain ⟨cur2, h2, s2⟩ := heap_setCells w.heap.size _ _ (ivs xs) 1 (W.setCells w.heap.size 0 [.int .i64 x]).drew cur1 h1
    refine ⟨_, rfl, Lst.of (own_of_cells (xs := x :: xs) h2 hg hGn hGm (by omega) rfl ?_), ?_⟩
    · intro k hk
      cases k with
      | zero =>
        rw [World.cell?_setCells_out _ _ _ _ _ (fun _ _ => .inl (by simp))]
        have := World.cell?_setCells_in w.heap.size [.int .i64 x] 0 W (fun j hj => his _ (by simp at hj; omega)) 0 (by simp)
        simpa using this
      | succ k =>
        have := World.cell?_setCells_in w.heap.size (ivs xs) 1 (W.setCells w.heap.size 0 [.int .i64 x]).drew (fun j hj => isSome_setCells w.heap.size [.int .i64 x] 0 W (fun t ht => his _ (by simp at ht; omega)) _ (his _ (by rw [ivs_len] at hj; omega))) k (by rw [ivs_len]; omega)
        rw [Nat.add_comm k 1, this, ← List.getElem?_eq_getElem, ivs_at xs k (by omega)]
        rw [Nat.add_comm 1 k]
        rfl
    · have hbW : Below g w W := by rw [hW]; exact ((Below.refl _ _).alloc hg _).drew
      exact below_setCells _ hg _ _ ((below_setCells _ hg _ _ hbW).drew)

end Go.Proofs.Ytfncmgaeecjacaa.mem
