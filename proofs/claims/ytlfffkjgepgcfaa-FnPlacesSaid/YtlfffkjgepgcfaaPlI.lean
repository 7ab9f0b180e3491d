/-
  placesOf answers what Pl tells. Conditions: those of each theorem.
-/
import Derived.Test.YtlfffkjgepgcfaaPlM
import Derived.Deep.RegionHeld3
import Derived.Deep.CutRange
import Derived.Deep.CutBlock
import Derived.Maps.OwnOps
namespace Go.Proofs.Ytlfffkjgepgcfaa.pl
open Go.RowKit
open base mem fl Go.Maps
open Ieee

theorem info_row : (Try.prog.info? 41).map (fun i => (i.zero, i.size, i.bytes)) = some (some (.slice none 0 0), 1, 24) := by kernel_rfl
theorem zero_places (w : World) : (zeroValue 72).run Try.prog w = .ok (.slice none 0 0) w := by kernel_rfl
theorem wf_small {s : Nat} (hs : s < 64) : (Lit.int .i64 (s : Int)).wf = true := by
  have : ∀ t : Fin 64, (Lit.int .i64 (t.1 : Int)).wf = true := by decide +kernel
  exact this ⟨s, hs⟩
theorem and_bit (k : Nat) (hk : k < 6) (s : Nat) (hs : s < 64) : bits BinOp.and IntKind.i64 ((s : Int) / 2 ^ k) 1 = if bitL s k then 1 else 0 := by
  have h : ∀ (k : Fin 6) (s : Fin 64), bits BinOp.and IntKind.i64 ((s.1 : Int) / 2 ^ k.1) 1 = if s.1.testBit k.1 then 1 else 0 := by decide +kernel
  exact h ⟨k, hk⟩ ⟨s, hs⟩
theorem sum_step (xs : List Int) (L : Nat → Bool) (m : Nat) : sumL xs L (m + 1) = sumL xs L m + if L m then xs.getD m 0 else 0 := rfl
theorem getD_same {fs : List Nat} {k v : Nat} (h : k < fs.length) : (fs.set k v).getD k 0 = v := by simp [List.getD, h]
theorem getD_other {fs : List Nat} {k l v : Nat} (h : k ≠ l) : (fs.set k v).getD l 0 = fs.getD l 0 := by simp [List.getD, List.getElem?_set_ne h]
theorem acc_skip {L : Nat → Bool} {i t : Nat} (q p : Nat → Nat) (h : L t = false ∨ t = i) : accL L i q p (t + 1) = accL L i q p t := by
  show (if _ then _ else _) = _
  rw [if_neg]
  rcases h with h | h <;> simp [h]
theorem made_row {w wr w2 : World} {mb g n s i M : Nat} {X : Nat → Prop} {xs : List Int} {vs : List Value} (h : St w mb X g xs n s i vs wr) (hM : cntL (bitL s) n = M) (hi : i < n) (hg : wr.grownBy w2 none)
    (ho : w2.ownsRow w.heap.size 25 1 (.slice (some ⟨wr.heap.size, 0, none⟩) M M) M (madeCells (Value.float .f32 0).cells (M * 1)).toList) :
    Sr w mb X g xs n s i wr.heap.size (vs.set i (.slice (some ⟨wr.heap.size, 0, none⟩) M M)) (List.replicate M 0) (w2.setCell ⟨g, i, none⟩ (.slice (some ⟨wr.heap.size, 0, none⟩) M M)) := by
  have ho' : OwnF w2 w.heap.size (some ⟨wr.heap.size, 0, none⟩) M M (List.replicate M 0) := by
    unfold OwnF
    simpa [Value.cells, toList_madeCells_one, fvs] using ho
  subst hM
  exact h.row hi hg (World.ownsRow.lt ho _ rfl).2 ho'
theorem made_frozen {w wr w2 : World} {mb g n s i : Nat} {X : Nat → Prop} {xs : List Int} {vs : List Value} (h : St w mb X g xs n s i vs wr) (hg : wr.grownBy w2 none) (t : Nat) : w2.frozen? ⟨g, t, none⟩ = false :=
  World.ownsRow.frozenAt (h := h.pl.kept hg (.inr (by show some g ≠ none; simp))) t
def PlacesC (xs : List Int) (mb b o n c s : Nat) : Prop := ∀ (w : World) (X : Nat → Prop) (D : DataW Value), (∀ q, X q → q < w.heap.size) → X mb → b < w.heap.size → b ≠ mb →
    (∀ k, k < n → w.cell? ⟨b, o + k, none⟩ = some (.int .i64 (xs.getD k 0))) → Mp w mb D → Ent w X xs n D →
    Calls Try.prog 66 #[.slice (some ⟨b, o, none⟩) n c, .int .i64 s, .map (some mb)] w fun e w' => ∃ A D', e = .returned (.slice A n n) ∧ Plc w' X xs n s A ∧ w.grownBy w' (some mb) ∧ Mp w' mb D' ∧ Ent w' X xs n D'

theorem wrap_small {k : Nat} (hk : k < 8) : IntKind.i64.wrap (k : Int) = (k : Int) := by
  have h : ∀ t : Fin 8, IntKind.i64.wrap (t.1 : Int) = (t.1 : Int) := by decide +kernel
  exact h ⟨k, hk⟩
theorem shl_and (k : Nat) (hk : k < 6) (s : Nat) (hs : s < 64) : bits BinOp.andNot IntKind.i64 (s : Int) (IntKind.i64.wrap (2 ^ k)) = ((clr s k : Nat) : Int) := by
  have h : ∀ (k : Fin 6) (s : Fin 64), bits BinOp.andNot IntKind.i64 (s.1 : Int) (IntKind.i64.wrap (2 ^ k.1)) = ((clr s.1 k.1 : Nat) : Int) := by decide +kernel
  exact h ⟨k, hk⟩ ⟨s, hs⟩
theorem call26 {w W : World} {mb G t s u r z k' b o c : Nat} {X : Nat → Prop} {xs : List Int} {vs : List Value} {fs : List Nat} (h : Sr w mb X G xs t s u r vs fs W) (hP : PlacesC xs mb b o t c z) (hX : ∀ q, X q → q < w.heap.size)
    (hC : ∀ k, k < t → w.cell? ⟨b, o + k, none⟩ = some (.int .i64 (xs.getD k 0))) (hb : b < w.heap.size) (hbm : b ≠ mb) (hu : u < t) (hk : k' < cntL (bitL z) t) (hbu : bitL z u = true) :
    Calls Try.prog 66 #[.slice (some ⟨b, o, none⟩) t c, .int .i64 z, .map (some mb)] W fun e w' => ∃ g2 r2 m2, e = .returned (.slice (some ⟨g2, 0, none⟩) t t) ∧ w'.cell? ⟨g2, u, none⟩ = some (.slice (some ⟨r2, 0, none⟩) m2 m2) ∧
      k' < m2 ∧ w'.cell? ⟨r2, k', none⟩ = some (.float .f32 (PL xs k' (bitL z) u)) ∧ Sr w mb X G xs t s u r vs fs w' := by
  obtain ⟨D, h1, h2⟩ := h.mp
  have hl := h.lts
  have hsz := h.fr.size
  refine (hP W (in1 (in1 X G) r) D ?_ (.inl (.inl h.xm)) (by omega) hbm ?_ h1 h2).mono ?_
  · rintro q ((hq | hq) | hq)
    · have := hX q hq; omega
    · omega
    · omega
  · exact fun k hk => h.fr.cell (hC k hk) (by show some b ≠ some mb; intro e; cases e; exact hbm rfl)
  · rintro e w' ⟨A, D', he, hPl, hg, hM, hE⟩
    obtain ⟨g2, rfl, _, _, _, hr⟩ := hPl
    obtain ⟨r2, _, _, c1, c2⟩ := hr u hu hbu
    exact ⟨g2, r2, _, he, c1, hk, c2 k' hk, h.call hg ⟨D', hM, hE⟩⟩

set_option maxRecDepth 10000 in
set_option maxHeartbeats 8000000 in
theorem places_step (xs : List Int) (g : Good xs) (mb b o n c : Nat) (hn : xs.length = n) (s : Nat) (hs : s < 64) (ih : ∀ t, t < s → PlacesC xs mb b o n c t) : PlacesC xs mb b o n c s := by
  intro w X D hX hXm hb hbm hc hM hE
  have IH := hide ih
  clear ih
  have hf := g.few
  rw [hn] at hf
  have HK := hide (show keyOf Try.prog 3 (.int .i64 (s : Int)) = some (ky s) from keyOf_int_mk Try.underlying3 (wf_small hs))
  have HC := hide hc
  have HM := hide hM
  have HE := hide hE
  have HX := hide hX
  clear hc hM hE hX
  cases hh : Maps.has D (ky s)
  rotate_left
  · obtain ⟨A, hA1, hA2⟩ := HE.out s hs hh
    have HA1 := hide hA1
    have HA2 := hide hA2
    clear hA1 hA2 HC IH
    go_enter Try.func66, Try.ntmps66
    go_wp2_with (at_lookup; refine wpList_lookup_own_ok _ rfl _ _ 74 rfl 3 72 keyInt Try.underlying74 R0 (zero_places _) nilD [] rfl mb 64 D rfl HM.out.own _ (ky s) rfl HK.out ?_; intro v ps hv)
    go_ret
    have hv1 : v = .slice A n n := by
      rw [HA1.out] at hv
      have h2 : v = .slice A n n ∧ ps = [] := by simpa [R0] using hv
      exact h2.1
    exact ⟨A, D, by rw [hv1]; rfl, HA2.out, World.grownBy.refl w _, HM.out, HE.out⟩
  go_enter Try.func66, Try.ntmps66
  go_wp2_with (at_lookup; refine wpList_lookup_own_ok _ rfl _ _ 74 rfl 3 72 keyInt Try.underlying74 R0 (zero_places _) nilD [] rfl mb 64 D rfl HM.out.own _ (ky s) rfl HK.out ?_; intro v ps hv)
  clear hv
  obtain ⟨v0, hv0⟩ := ex_eq v
  clear hv0
  go_loop [9, 10, 29] (fun a m i => ∃ t : Nat, t ≤ n ∧ i = .int .i64 t ∧ a = .int .i64 (sumL xs (bitL s) t) ∧ m = .int .i64 (cntL (bitL s) t : Nat)) (fun _ _ i => n - (intOf i).toNat)
  case atStart => exact ⟨0, Nat.zero_le _, rfl, rfl, rfl⟩
  case round =>
    obtain ⟨t, ht, rfl, rfl, rfl⟩ := hrel
    by_cases hlt : t < n
    · have hct := HC.out t hlt
      have hab := and_bit t (by omega) s hs
      have b1 := sumL_bd g t (by omega) (L := bitL s)
      have b2 := g.lo t (by omega)
      have b3 := g.hi t (by omega)
      have b4 := cntL_le (bitL s) t
      have hst := sum_step xs (bitL s) t
      have hcn : cntL (bitL s) (t + 1) = cntL (bitL s) t + if bitL s t then 1 else 0 := rfl
      obtain ⟨x, hx⟩ := ex_eq (xs.getD t 0)
      obtain ⟨S, hS⟩ := ex_eq (sumL xs (bitL s) t)
      obtain ⟨M, hM⟩ := ex_eq (cntL (bitL s) t)
      rw [hx] at hct b2 b3 hst
      rw [hS] at b1 hst ⊢
      rw [hM] at b4 hcn ⊢
      have h0 : (0 : Int) ≤ (t : Int) := by omega
      have h1 : (t : Int) < (n : Int) := by omega
      cases hl : bitL s t
      all_goals
        rw [hl] at hst hcn hab
        have HST := hide hst
        have HCN := hide hcn
        clear hx hS hl hst hcn hM HC IH
        go_wp2
        go_round
        case rel => exact ⟨t + 1, by omega, by go_num, int_congr (by rw [HST.out]; simp), int_congr (by rw [HCN.out]; simp)⟩
        case measure => simp [intOf]; omega
    · obtain rfl : t = n := by omega
      have b1 := sumL_bd g t (by omega) (L := bitL s)
      have b4 := cntL_le (bitL s) t
      obtain ⟨S, hS⟩ := ex_eq (sumL xs (bitL s) t)
      obtain ⟨M, hM⟩ := ex_eq (cntL (bitL s) t)
      have HS := hide hS
      have HCM := hide hM
      rw [hS] at b1 ⊢
      rw [hM] at b4 ⊢
      obtain ⟨i0, hi, hz0, hz1, hz2⟩ := info_parts info_row
      have hz2' : i0.bytes * t ≤ 281474976710656 := by rw [hz2]; omega
      clear hS hM hz2 hlt
      go_wp2_with (at_make; refine wpList_make_full _ rfl (.tmp 46) (.tmp 46) 72 rfl w.heap.size 41 i0 (.slice none 0 0) 1 Try.underlying72 hi hz0 hz1 .i64 .i64 _ _ t rfl rfl rfl rfl hz2' (by unfold maxLen; omega) (Nat.le_refl _) ?_; intro w1 hown hgr)
      have HST := hide (St.made (s := s) HX.out hXm HM.out HE.out hgr hown)
      clear hown hgr hz2' hi hz0 hz1 HE
      generalize hG : w.heap.size = G at *
      have HG := hide hG
      clear hG
      go_loopw [50] (fun i wr => ∃ (u : Nat) (vs : List Value), u ≤ t ∧ i = .int .i64 u ∧ Hid (St w mb X G xs t s u vs wr)) (fun i _ => t - (intOf i).toNat)
      case atStart => exact ⟨0, _, Nat.zero_le _, rfl, HST⟩
      case round =>
        clear HST
        obtain ⟨u, vs, hu, rfl, HST⟩ := hrel
        by_cases hlt : u < t
        · have hcu := HST.out.fr.cell (HC.out u hlt) (by show some b ≠ some mb; intro e; cases e; exact hbm rfl)
          have hab := and_bit u (by omega) s hs
          obtain ⟨x, hx⟩ := ex_eq (xs.getD u 0)
          rw [hx] at hcu
          have h0 : (0 : Int) ≤ (u : Int) := by omega
          have h1 : (u : Int) < (t : Int) := by omega
          cases hl : bitL s u
          · have HST2 := hide (HST.out.skip hl)
            rw [hl] at hab
            clear HST IH hl hx
            go_wp2
            go_roundw
            case rel => exact ⟨u + 1, vs, by omega, by go_num, HST2⟩
            case measure => simp [intOf]; omega
          · rw [hl] at hab
            obtain ⟨i1, hi1, hy0, hy1, hy2⟩ := info_parts info_f32
            have hy2' : i1.bytes * M ≤ 281474976710656 := by rw [hy2]; omega
            have hM1 : 1 ≤ M := by rw [← HCM.out]; exact cnt_of t hlt hl
            obtain ⟨q1, q2⟩ := qL_ok g (show u < xs.length by omega) hl (show u < xs.length by omega) hl
            obtain ⟨q, hq⟩ := ex_eq (qL xs (bitL s) u)
            rw [hn, HS.out, hx, hq] at q1
            have HQ := hide hq
            have HL := hide hl
            have HXU := hide hx
            have r1 : ∀ w, (binOp .quo 25 (.float .f32 (floatOfInt .f32 x)) (.float .f32 (floatOfInt .f32 S))).run Try.prog w = .ok (.float .f32 q) w := fun w => run_float_arith (P := Try.prog) w .quo 25 .f32 _ _ _ q1
            obtain ⟨⟨vo, hvo⟩, hfo⟩ := HST.out.cellg hlt
            have hGs : G ≤ wr.heap.size := by rw [← HG.out]; exact HST.out.fr.size
            clear q1 q2 hq hl hx hy2
            go_wp2_with (at_make; refine wpList_make_full _ rfl (.tmp 62) (.tmp 62) 41 rfl w.heap.size 25 i1 (.float .f32 0) 1 Try.underlying41 hi1 hy0 hy1 .i64 .i64 _ _ M rfl rfl rfl rfl hy2' (by unfold maxLen; omega) (by rw [HG.out]; exact hGs) ?_; intro w2 ho2 hg2; have HR := hide (made_row HST.out HCM.out hlt hg2 ho2); have hc1 := hg2.cell hvo (by simp); have hf1 := made_frozen HST.out hg2 u; have hc2 := HR.out.cellg hlt; have hc3 := HR.out.sto (k := 0) (by rw [HCM.out]; omega) q; rw [HCM.out] at hc2; clear ho2 hg2 HST)
            generalize wr.heap.size = r at *
            have HR2 := hide (HR.out.put 0 q)
            have hlr : M = (List.replicate M 0).length := by simp
            have HD0 := hide (show ∀ j, j < 1 → ((List.replicate M 0).set 0 q).getD j 0 = PL xs j (bitL s) u from fun j hj => by
              obtain rfl : j = 0 := by omega
              rw [getD_same (by omega)]
              exact HQ.out.symm)
            have HZ0 := hide (show ∀ j, 1 ≤ j → j < M → ((List.replicate M 0).set 0 q).getD j 0 = 0 from fun j hj hj2 => by
              rw [getD_other (by omega)]
              simp [List.getD, hj2])
            clear hvo hfo hc1 hf1 hc2 hc3 HR hlr hcu hab r1
            go_loopw [16] (fun kk wz => ∃ (k : Nat) (vs2 : List Value) (fs : List Nat), 1 ≤ k ∧ k ≤ M ∧ kk = .int .i64 k ∧ Hid (Sr w mb X G xs t s u r vs2 fs wz) ∧ Hid (∀ j, j < k → fs.getD j 0 = PL xs j (bitL s) u) ∧ Hid (∀ j, k ≤ j → j < M → fs.getD j 0 = 0)) (fun kk _ => M - (intOf kk).toNat)
            case atStart => exact ⟨1, _, _, by omega, hM1, rfl, HR2, HD0, HZ0⟩
            case round =>
              clear HR2 HD0 HZ0
              obtain ⟨k, vs2, fs, hk1, hk, rfl, HR, HD, HZ⟩ := hrel
              by_cases hlk : k < M
              · obtain ⟨k', hkk⟩ : ∃ k', k = k' + 1 := ⟨k - 1, by omega⟩
                have HKK := hide hkk
                clear hkk
                have HZ1 := hide (show fs.getD k 0 = accL (bitL s) u (qL xs (bitL s)) (fun j => PL xs k' (rm (bitL s) j) u) 0 from HZ.out k (Nat.le_refl _) hlk)
                have HZ2 := hide (show ∀ l, k < l → l < M → fs.getD l 0 = 0 from fun l h1 h2 => HZ.out l (Nat.le_of_lt h1) h2)
                clear HZ
                go_wp2
                go_loopw [82] (fun jj wz => ∃ (j : Nat) (vs2 : List Value) (fs : List Nat), j ≤ t ∧ jj = .int .i64 j ∧ Hid (Sr w mb X G xs t s u r vs2 fs wz) ∧ Hid (∀ l, l < k → fs.getD l 0 = PL xs l (bitL s) u) ∧
                  Hid (fs.getD k 0 = accL (bitL s) u (qL xs (bitL s)) (fun j => PL xs k' (rm (bitL s) j) u) j) ∧ Hid (∀ l, k < l → l < M → fs.getD l 0 = 0)) (fun jj _ => t - (intOf jj).toNat)
                case atStart => exact ⟨0, vs2, fs, Nat.zero_le _, rfl, HR, HD, HZ1, HZ2⟩
                case round =>
                  clear HR HD HZ1 HZ2 vs2 fs
                  obtain ⟨j, vs2, fs, hj, rfl, HR, HD, HA, HZ⟩ := hrel
                  by_cases hlj : j < t
                  · have hcj := HR.out.fr.cell (HC.out j hlj) (by show some b ≠ some mb; intro e; cases e; exact hbm rfl)
                    have hab := and_bit j (by omega) s hs
                    have h2 : (0 : Int) ≤ (j : Int) := by omega
                    have h3 : (j : Int) < (t : Int) := by omega
                    by_cases hju : j = u
                    · have HA2 := hide (HA.out.trans (acc_skip (qL xs (bitL s)) (fun j => PL xs k' (rm (bitL s) j) u) (.inr hju)).symm)
                      subst hju
                      clear HA hab
                      go_wp2
                      go_roundw
                      case rel => exact ⟨j + 1, vs2, fs, by omega, by go_num, HR, HD, HA2, HZ⟩
                      case measure => simp [intOf]; omega
                    · have hne : ((j : Int) != (u : Int)) = true := by simp; omega
                      cases hl2 : bitL s j
                      · have HA2 := hide (HA.out.trans (acc_skip (qL xs (bitL s)) (fun j => PL xs k' (rm (bitL s) j) u) (.inl hl2)).symm)
                        rw [hl2] at hab
                        clear HA hl2
                        go_wp2
                        go_roundw
                        case rel => exact ⟨j + 1, vs2, fs, by omega, by go_num, HR, HD, HA2, HZ⟩
                        case measure => simp [intOf]; omega
                      · rw [hl2] at hab
                        have hcl := clr_lt hl2
                        have hbc := bit_clr hs (show j < 6 by omega)
                        obtain ⟨o1, o2, o3⟩ := PL_ops g (k := k') (by have := HKK.out; omega) (show u < xs.length by omega) HL.out (show j < xs.length by omega) hl2 hju
                        have hcr := HR.out.drew.cellr (k := k) (by rw [HCM.out]; exact hlk)
                        have hcg := HR.out.drew.cellg hlt
                        have hcn := cntL_rm (bitL s) j t
                        rw [if_pos ⟨hlj, hl2⟩, ← hbc, HCM.out] at hcn
                        have hbu : bitL (clr s j) u = true := by rw [hbc, rm_ne (fun e => hju e.symm)]; exact HL.out
                        have HCALL := hide (fun (W : World) (h : Sr w mb X G xs t s u r vs2 fs W) => call26 h (IH.out (clr s j) hcl) (by rw [HG.out]; exact HX.out) HC.out (by rw [HG.out]; exact hb) hbm hlt (k' := k') (by have := HKK.out; omega) hbu)
                        have hsh := shl_and j (by omega) s hs
                        rw [HCM.out] at hcg
                        rw [HA.out] at hcr
                        rw [hbc] at HCALL
                        obtain ⟨y, hy⟩ := ex_eq (xs.getD j 0)
                        rw [hy] at hcj o1
                        rw [hn, HS.out] at o1
                        obtain ⟨q2, hq2⟩ := ex_eq (qL xs (bitL s) j)
                        rw [hq2] at o1 o2 o3
                        obtain ⟨p, hp⟩ := ex_eq (PL xs k' (rm (bitL s) j) u)
                        rw [hp] at o2 o3 HCALL
                        obtain ⟨m, hm⟩ := ex_eq (mulW q2 p)
                        rw [hm] at o2 o3
                        obtain ⟨a, ha⟩ := ex_eq (accL (bitL s) u (qL xs (bitL s)) (fun j => PL xs k' (rm (bitL s) j) u) j)
                        have HAa := hide (HA.out.trans ha)
                        rw [ha] at o3 hcr
                        obtain ⟨a2, ha2⟩ := ex_eq (accL (bitL s) u (qL xs (bitL s)) (fun j => PL xs k' (rm (bitL s) j) u) (j + 1))
                        have HA2 := hide ha2
                        rw [ha2] at o3
                        have r1 : ∀ w, (binOp .quo 25 (.float .f32 (floatOfInt .f32 y)) (.float .f32 (floatOfInt .f32 S))).run Try.prog w = .ok (.float .f32 q2) w := fun w => run_float_arith (P := Try.prog) w .quo 25 .f32 _ _ _ o1
                        have r2 : ∀ w, (binOp .mul 25 (.float .f32 q2) (.float .f32 p)).run Try.prog w = .ok (.float .f32 m) w := fun w => run_float_arith (P := Try.prog) w .mul 25 .f32 _ _ _ o2
                        have r3 : ∀ w, (binOp .add 25 (.float .f32 a) (.float .f32 m)).run Try.prog w = .ok (.float .f32 a2) w := fun w => run_float_arith (P := Try.prog) w .add 25 .f32 _ _ _ o3
                        obtain ⟨z, hz⟩ := ex_eq (clr s j)
                        rw [hz] at hsh HCALL
                        have h4 : (0 : Int) ≤ (k : Int) := by omega
                        have h5 : (k : Int) < (M : Int) := by omega
                        have h6 : (k' : Int) < (M : Int) := by have := HKK.out; omega
                        have h7 : (0 : Int) ≤ (k' : Int) := by omega
                        have h8 : IntKind.i64.wrap (k' : Int) = (k' : Int) := wrap_small (by have := HKK.out; omega)
                        have h9 : IntKind.i64.wrap ((k : Int) - 1) = (k' : Int) := by rw [show (k : Int) - 1 = (k' : Int) by have := HKK.out; omega]; exact h8
                        clear hl2 hcl hbc o1 o2 o3 hcn hbu hy hq2 hp hm ha ha2 hz HC HX IH
                        go_upto_block 7 with fail
                        have HD5 := hide (show ∀ l, l < k → (fs.set k a2).getD l 0 = PL xs l (bitL s) u from fun l hl => by
                          rw [getD_other (by omega)]; exact HD.out l hl)
                        have HA5 := hide (show (fs.set k a2).getD k 0 = accL (bitL s) u (qL xs (bitL s)) (fun j => PL xs k' (rm (bitL s) j) u) (j + 1) by
                          rw [getD_same (by rw [HR.out.len, HCM.out]; omega)]; exact HA2.out.symm)
                        have HZ5 := hide (show ∀ l, k < l → l < M → (fs.set k a2).getD l 0 = 0 from fun l h1 h2 => by
                          rw [getD_other (by omega)]; exact HZ.out l h1 h2)
                        clear HD HA HZ HA2
                        go_cut [17, 18] from 84 to 125 (fun _ _ wx => Hid (Sr w mb X G xs t s u r vs2 (fs.set k a2) wx))
                        case first =>
                          clear HD5 HA5 HZ5
                          go_wp2
                          go_region_with (first | (go_at_call 66; refine (HCALL.out _ HR.out.drew).mono ?_; rintro e w3 ⟨g2, r3, m2, rfl, hd1, hd2, hd3, hd4⟩; have hcg3 := hd4.cellg hlt; have hcr3 := hd4.cellr (k := k) (by rw [HCM.out]; exact hlk); rw [HCM.out] at hcg3; rw [HAa.out] at hcr3; have hsto := hd4.sto (k := k) (by rw [HCM.out]; exact hlk) a2; have HPUT := hide (hd4.put k a2); clear hd4))
                          all_goals (go_wp2_with fail; go_meet; exact HPUT)
                        case rest =>
                          have HPUT := hcut
                          clear hcut HR hcg hcr r1 r2 r3 hsh h8 h9 HCALL HAa
                          go_wp2
                          go_roundw
                          case rel => exact ⟨j + 1, vs2, _, by omega, by go_num, HPUT, HD5, HA5, HZ5⟩
                          case measure => simp [intOf]; omega
                  · obtain rfl : j = t := by omega
                    have HD2 := hide (show ∀ l, l < k + 1 → fs.getD l 0 = PL xs l (bitL s) u from fun l hl => by
                      rcases Nat.lt_succ_iff_lt_or_eq.1 hl with h | h
                      · exact HD.out l h
                      · rw [h, HA.out, HKK.out]
                        show _ = accL (bitL s) u (qL xs (bitL s)) (fun j => PL xs k' (rm (bitL s) j) u) xs.length
                        rw [hn])
                    have HZ2 := hide (show ∀ l, k + 1 ≤ l → l < M → fs.getD l 0 = 0 from fun l h1 h2 => HZ.out l h1 h2)
                    clear HD HZ HA
                    go_wp2
                    go_roundw
                    case rel => exact ⟨k + 1, vs2, fs, by omega, by omega, by go_num, HR, HD2, HZ2⟩
                    case measure => simp [intOf]; omega
              · obtain rfl : k = M := by omega
                have HST2 := hide (HR.out.done (fun l hl => HD.out l (by rw [HCM.out] at hl; exact hl)))
                clear HR HD HZ
                go_wp2
                go_roundw
                case rel => exact ⟨u + 1, vs2, by omega, by go_num, HST2⟩
                case measure => simp [intOf]; omega
        · obtain rfl : u = t := by omega
          obtain ⟨D2, hM2, hE2⟩ := HST.out.mp
          have HPL := hide HST.out.all
          have HE2 := hide (hE2.turn (Y := X) (fun b hb => .inl (.inl hb)))
          have HM2 := hide hM2
          have HFR := hide HST.out.fr
          clear hE2 hM2 HST IH HC
          go_wp2_with (at_mapUpdate; refine wpList_mapUpdate_own _ rfl _ _ _ 74 rfl 3 72 keyInt Try.underlying74 R0 mb 64 D2 rfl HM2.out.own (by unfold maxLen; omega) _ _ (ky s) rfl rfl HK.out (.held (.slice (some ⟨G, 0, none⟩) u u)) [] rfl ?_; intro w3 ho3 hg3)
          go_ret
          have hP3 := HPL.out.kept hg3 (fun q hq => by cases hq; exact .inl hXm)
          exact ⟨some ⟨G, 0, none⟩, _, rfl, hP3, HFR.out.trans hg3, HM2.out.put hs ho3, (HE2.out.kept hg3 (fun q hq => by cases hq; exact .inl hXm)).put HM2.out.tidy.isMap hP3⟩
end Go.Proofs.Ytlfffkjgepgcfaa.pl
