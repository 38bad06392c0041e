/- The document's Set. -/
import Derived.Test.YtdbceafejbnebaaGreatDoorM26
import Derived.Deep.CutBlock
namespace Go.Proofs.YtdbceafejbnebaaGreatDoor
open Go Go.RowKit
theorem rangeAt_keep {w w' : World} {g o : Nat} {k : K} (h : w.rangeAt g o (keyCells k)) (hu : Upd [] w w') : w'.rangeAt g o (keyCells k) := by
  intro j v hj
  have q := h j v hj
  rw [cell_same (hu.block g (World.block_lt_of_cell? w ⟨g, o + j, none⟩ q) (by simp))]
  exact q
theorem range_of_cells {w : World} {g o : Nat} {l : List K} (h : ∀ j u, (l.flatMap keyCells)[j]? = some u → w.cell? ⟨g, o + j, none⟩ = some u) (i : Nat) (hi : i < l.length) : w.rangeAt g (o + i * 32) (keyCells l[i]) := by
  intro j v hj
  have hj32 : j < 32 := by have := (List.getElem?_eq_some_iff.1 hj).1; rwa [keyCells_len] at this
  rw [Nat.add_assoc]
  refine h _ v ?_
  rw [flat_at l i j hi hj32, hj]
theorem owns_range {w : World} {B : Nat} {v : Value} {R : List K} (h : w.ownsRow B 31 32 v R.length (R.flatMap keyCells)) (i : Nat) (hi : i < R.length) : ∃ g c, v = .slice (some ⟨g, 0, none⟩) R.length c ∧ w.rangeAt g (i * 32) (keyCells R[i]) := by
  have h0 := h
  obtain ⟨hl, ⟨rfl, hz⟩ | ⟨g, cap, cur, rfl, hb, hg, hc, hm, hs, ht⟩⟩ := h
  · omega
  · refine ⟨g, cap, rfl, ?_⟩
    have := range_of_cells (w := w) (g := g) (o := 0) (l := R) (by
      intro j u hj
      rw [cell_of_heap hg, Nat.zero_add]
      have : (cur.toList.take (R.length * 32))[j]? = some u := by rw [ht]; exact hj
      rw [List.getElem?_take] at this
      split at this
      · simpa using this
      · cases this) i hi
    rwa [Nat.zero_add] at this
set_option maxHeartbeats 1000000 in
set_option maxRecDepth 100000 in
theorem rset59 {w : World} (g off cap : Nat) (l : List K) (hx : ∀ j u, (l.flatMap keyCells)[j]? = some u → w.cell? ⟨g, off + j, none⟩ = some u) (hl : l.length ≤ 100) :
    Calls Tryz.prog 59 #[.slice (some ⟨g, off, none⟩) l.length cap] w fun e w' => ∃ v, e = .returned v ∧ w'.ownsRow w.heap.size 31 32 v (rsetF l).length ((rsetF l).flatMap keyCells) ∧ Upd [] w w' := by
  have HX := Lib.hid (show _ ∧ _ from ⟨hx, hl⟩)
  clear hx hl
  go_enter Tryz.func59, Tryz.ntmps59
  go_wp2
  go_loopw [4, 3] (fun i v wr => ∃ k : Nat, i = .int .i64 (k : Int) ∧ k ≤ l.length ∧ IsSl v ∧ Hid (wr.ownsRow w.heap.size 31 32 v (rsetF (l.take k)).length ((rsetF (l.take k)).flatMap keyCells) ∧ Upd [] w wr)) (fun i _ _ => l.length - (intOf i).toNat)
  case atStart => exact ⟨0, rfl, by omega, ⟨none, 0, 0, rfl⟩, Lib.hid ⟨World.ownsRow_nil w _ 31 32, Upd.refl _ _⟩⟩
  case round =>
    obtain ⟨wz, hwz⟩ : ∃ wz, wz = wr := ⟨_, rfl⟩
    rw [← hwz] at hrel ⊢
    clear hwz
    obtain ⟨k, rfl, hk, ⟨va, vn, vc, rfl⟩, hR⟩ := hrel
    by_cases hlt : k < l.length
    · have hltI : (k : Int) < (l.length : Int) := by omega
      have hk0 : (0 : Int) ≤ (k : Int) := by omega
      obtain ⟨R, hRe⟩ : ∃ R, R = rsetF (l.take k) := ⟨_, rfl⟩
      obtain ⟨x, hxe⟩ : ∃ x, x = l[k] := ⟨_, rfl⟩
      rw [← hRe] at hR
      have hRl : R.length ≤ k := by
        have := (rsetF_both (l.take k)).2.2
        rw [← hRe, List.length_take] at this
        omega
      have hvn : vn = R.length := by
        rcases hR.out.1.2 with ⟨h1, h2⟩ | ⟨g', c', cur, h1, _⟩
        · cases h1; exact h2.symm
        · cases h1; rfl
      subst hvn
      have hnext : rsetF (l.take (k + 1)) = insK R x := by rw [← List.take_append_getElem hlt, rsetF_snoc, ← hRe, ← hxe]
      have hxr : wz.rangeAt g (off + k * 32) (keyCells x) := by
        rw [hxe]
        exact range_of_cells (fun j u hj => by rw [cell_same (hR.out.2.block g (World.block_lt_of_cell? w ⟨g, off + j, none⟩ (HX.out.1 j u hj)) (by simp))]; exact HX.out.1 j u hj) k hlt
      have HS := Lib.hid (show _ ∧ _ ∧ _ ∧ _ ∧ _ from ⟨hnext, hxr, hlt, hRl, hR.out⟩)
      clear hRe hxe hRl hnext hxr hR hlt hk
      go_upto_block 2 with fail
      go_cut [5] from 6 to 58 (fun s5 we => s5 = .int .i64 (posK R x : Int) ∧ Upd [] wz we)
      case first =>
        go_wp2_with fail
        go_loopw [5] (fun s5 wr => ∃ j : Nat, s5 = .int .i64 (j : Int) ∧ j ≤ R.length ∧ Hid ((∀ (i : Nat) (hi : i < R.length), i < j → R[i].1 < x.1) ∧ Upd [] wz wr)) (fun s5 _ => R.length - (intOf s5).toNat)
        case atStart => exact ⟨0, rfl, by omega, Lib.hid ⟨fun i hi h => by omega, Upd.refl _ _⟩⟩
        case round =>
          obtain ⟨wy, hwy⟩ : ∃ wy, wy = wr := ⟨_, rfl⟩
          rw [← hwy] at hrel ⊢
          clear hwy
          obtain ⟨j, rfl, hj, hJ⟩ := hrel
          by_cases hjl : j < R.length
          · have hjI : decide ((j : Int) < (R.length : Int)) = true := by simp; omega
            have hjI2 : (j : Int) < (R.length : Int) := by omega
            have hj0 : (0 : Int) ≤ (j : Int) := by omega
            obtain ⟨gR, cR, hv, hrr⟩ := owns_range (owns_upd HS.out.2.2.2.2.1 hJ.out.2 (by simp)) j hjl
            cases hv
            obtain ⟨y, hyr, hy⟩ : ∃ y, wy.rangeAt gR (j * 32) (keyCells y) ∧ ∀ h : j < R.length, R[j] = y := ⟨_, hrr, fun _ => rfl⟩
            have hx2 := rangeAt_keep HS.out.2.1 hJ.out.2
            obtain ⟨b, hb⟩ : ∃ b, b = decide (y.1 < x.1) := ⟨_, rfl⟩
            have hless : ∀ w', Calls Tryz.prog 78 #[.agg (keyCells y).toArray, .agg (keyCells x).toArray] w' fun e w'' => e = .returned (.bool b) ∧ Upd [] w' w'' := by
              intro w'
              rw [hb]
              exact less78 y x w'
            have HJ := Lib.hid (show _ ∧ _ ∧ _ ∧ _ ∧ _ ∧ _ from ⟨hy, hyr, hx2, hb, hless, hjl⟩)
            have z0 : IntKind.i64.wrap ((j : Int) + 1) = (j : Int) + 1 := IntWalk.i64_in _ (by have := HS.out.2.2.2.1; have := HS.out.2.2.1; have := HX.out.2; omega)
            clear hy hrr hyr hx2 hb hless hjl hj
            go_upto_region 6 with fail
            refine region_E (Upd [] wy) (fun _ => false) (by kernel_rfl) ?_
            have s0 : Upd [] wy wy.drew := (Upd.refl [] wy).drew
            refine takeE 0 (some 12) (.int .i64 (j : Int)) rfl rfl (by kernel_rfl) (by kernel_rfl) (by kernel_rfl) (by kernel_rfl) (fun _ _ _ h => h) (by kernel_rfl) (fun w' hw' => by go_simp) s0 ?_
            simp only [Act.put, List.setIfInBounds_toArray, List.set_cons_zero, List.set_cons_succ]
            refine takeE 1 (some 13) (.slice (some ⟨gR, 0, none⟩) R.length vc) rfl rfl (by kernel_rfl) (by kernel_rfl) (by kernel_rfl) (by kernel_rfl) (fun _ _ _ h => h) (by kernel_rfl) (fun w' hw' => by go_simp) s0 ?_
            simp only [Act.put, List.setIfInBounds_toArray, List.set_cons_zero, List.set_cons_succ]
            refine takeE 2 (some 14) (.int .i64 (R.length : Int)) rfl rfl (by kernel_rfl) (by kernel_rfl) (by kernel_rfl) (by kernel_rfl) (fun _ _ _ h => h) (by kernel_rfl) (fun w' hw' => by go_simp) s0 ?_
            simp only [Act.put, List.setIfInBounds_toArray, List.set_cons_zero, List.set_cons_succ]
            refine takeE 3 (some 15) (.bool true) rfl rfl (by kernel_rfl) (by kernel_rfl) (by kernel_rfl) (by kernel_rfl) (fun _ _ _ h => h) (by kernel_rfl) (fun w' hw' => by go_simp) s0 ?_
            simp only [Act.put, List.setIfInBounds_toArray, List.set_cons_zero, List.set_cons_succ]
            refine takeE 4 (some 16) (.bool true) rfl rfl (by kernel_rfl) (by kernel_rfl) (by kernel_rfl) (by kernel_rfl) (fun _ _ _ h => h) (by kernel_rfl) (fun w' hw' => by go_simp) s0 ?_
            simp only [Act.put, List.setIfInBounds_toArray, List.set_cons_zero, List.set_cons_succ]
            refine takeE 5 (some 17) (.slice (some ⟨gR, 0, none⟩) R.length vc) rfl rfl (by kernel_rfl) (by kernel_rfl) (by kernel_rfl) (by kernel_rfl) (fun _ _ _ h => h) (by kernel_rfl) (fun w' hw' => by go_simp) s0 ?_
            simp only [Act.put, List.setIfInBounds_toArray, List.set_cons_zero, List.set_cons_succ]
            refine takeE 6 (some 18) (.int .i64 (j : Int)) rfl rfl (by kernel_rfl) (by kernel_rfl) (by kernel_rfl) (by kernel_rfl) (fun _ _ _ h => h) (by kernel_rfl) (fun w' hw' => by go_simp) s0 ?_
            simp only [Act.put, List.setIfInBounds_toArray, List.set_cons_zero, List.set_cons_succ]
            refine takeE 7 (some 19) (.pointer (some ⟨gR, j * 32, none⟩)) rfl rfl (by kernel_rfl) (by kernel_rfl) (by kernel_rfl) (by kernel_rfl) (fun _ _ _ h => h) (by kernel_rfl) (fun w' hw' => by go_simp) s0 ?_
            simp only [Act.put, List.setIfInBounds_toArray, List.set_cons_zero, List.set_cons_succ]
            refine takeE 8 (some 20) (.agg (keyCells y).toArray) rfl rfl (by kernel_rfl) (by kernel_rfl) (by kernel_rfl) (by kernel_rfl) (fun _ _ _ h => h) (by kernel_rfl) (fun w' hw' => load31 (x := .tmp 19) rfl (by go_simp) (rangeAt_keep HJ.out.2.1 hw')) s0 ?_
            simp only [Act.put, List.setIfInBounds_toArray, List.set_cons_zero, List.set_cons_succ]
            refine takeE 9 (some 21) (.slice (some ⟨g, off, none⟩) l.length cap) rfl rfl (by kernel_rfl) (by kernel_rfl) (by kernel_rfl) (by kernel_rfl) (fun _ _ _ h => h) (by kernel_rfl) (fun w' hw' => by go_simp) s0 ?_
            simp only [Act.put, List.setIfInBounds_toArray, List.set_cons_zero, List.set_cons_succ]
            refine takeE 10 (some 22) (.int .i64 (k : Int)) rfl rfl (by kernel_rfl) (by kernel_rfl) (by kernel_rfl) (by kernel_rfl) (fun _ _ _ h => h) (by kernel_rfl) (fun w' hw' => by go_simp) s0 ?_
            simp only [Act.put, List.setIfInBounds_toArray, List.set_cons_zero, List.set_cons_succ]
            refine takeE 11 (some 23) (.pointer (some ⟨g, off + k * 32, none⟩)) rfl rfl (by kernel_rfl) (by kernel_rfl) (by kernel_rfl) (by kernel_rfl) (fun _ _ _ h => h) (by kernel_rfl) (fun w' hw' => by go_simp) s0 ?_
            simp only [Act.put, List.setIfInBounds_toArray, List.set_cons_zero, List.set_cons_succ]
            refine takeE 12 (some 24) (.agg (keyCells x).toArray) rfl rfl (by kernel_rfl) (by kernel_rfl) (by kernel_rfl) (by kernel_rfl) (fun _ _ _ h => h) (by kernel_rfl) (fun w' hw' => load31 (x := .tmp 23) rfl (by go_simp) (rangeAt_keep HJ.out.2.2.1 hw')) s0 ?_
            simp only [Act.put, List.setIfInBounds_toArray, List.set_cons_zero, List.set_cons_succ]
            refine oneE 13 (by kernel_rfl) (callE (some 25) rfl rfl (by kernel_rfl) (f := 78) (args := #[.agg (keyCells y).toArray, .agg (keyCells x).toArray]) (by go_simp) (HJ.out.2.2.2.2.1 _) ?_)
            rintro e w2 ⟨rfl, hu2⟩
            refine ⟨_, rfl, fun _ => s0.trans hu2, ?_⟩
            simp only [Act.put, List.setIfInBounds_toArray, List.set_cons_zero, List.set_cons_succ]
            refine takeE 14 (some 26) (.bool b) rfl rfl (by kernel_rfl) (by kernel_rfl) (by kernel_rfl) (by kernel_rfl) (fun _ _ _ h => h) (by kernel_rfl) (fun w' hw' => by go_simp) (s0.trans hu2) ?_
            simp only [Act.put, List.setIfInBounds_toArray, List.set_cons_zero, List.set_cons_succ]
            refine doneE (by kernel_rfl) ?_ _
            have hu3 := hJ.out.2.trans (s0.trans hu2)
            clear s0 hu2
            cases b with
            | true =>
              go_wp2
              go_roundw
              case rel =>
                refine ⟨j + 1, by simp, by have := HJ.out.2.2.2.2.2; omega, Lib.hid ⟨?_, hu3⟩⟩
                intro i hi hij
                by_cases hii : i = j
                · subst hii
                  rw [HJ.out.1 hi]
                  exact of_decide_eq_true HJ.out.2.2.2.1.symm
                · exact hJ.out.1 i hi (by omega)
              case measure => simp [intOf]; have := HJ.out.2.2.2.2.2; omega
            | false =>
              go_wp2
              go_meet
              refine ⟨?_, hu3⟩
              rw [← posK_of R x j (Nat.le_of_lt HJ.out.2.2.2.2.2) hJ.out.1 (fun hjl => ?_)]
              rw [HJ.out.1 hjl]
              exact of_decide_eq_false HJ.out.2.2.2.1.symm
          · have hjI : decide (j < R.length) = false := by simp; omega
            have hjN : j = R.length := by omega
            have HJ := Lib.hid hjN
            clear hjN hjl hj
            go_upto_region 6 with fail
            go_quiet (fail)
            go_wp2
            go_meet
            refine ⟨?_, hJ.out.2.drewN _⟩
            rw [← posK_of R x j (Nat.le_of_eq HJ.out) hJ.out.1 (fun hjl => absurd hjl (by have := HJ.out; omega))]
      case rest =>
      obtain ⟨rfl, hc⟩ := hcut
      obtain ⟨wy, hwy⟩ : ∃ X, wc = X := ⟨_, rfl⟩
      rw [hwy] at hc ⊢
      clear hwy
      obtain ⟨p, hp⟩ : ∃ p, p = posK R x := ⟨_, rfl⟩
      rw [← hp]
      have hple : p ≤ R.length := by rw [hp]; exact posK_le R x
      obtain ⟨eq, heq⟩ : ∃ b, b = decide (R[p]? = some x) := ⟨_, rfl⟩
      have HP := Lib.hid (show _ ∧ _ ∧ _ ∧ _ from ⟨hp, hple, heq, hc⟩)
      clear hp hple heq hc
      go_upto_region 8 with fail
      go_cut [43] from 6 to 58 (fun s43 we => s43 = .bool eq ∧ Upd [] wz we)
      case first =>
        by_cases hjl : p < R.length
        · have hjI : decide (p < R.length) = true := by simp; omega
          have hjI2 : (p : Int) < (R.length : Int) := by omega
          have hj0 : (0 : Int) ≤ (p : Int) := by omega
          obtain ⟨gR, cR, hv, hrr⟩ := owns_range (owns_upd HS.out.2.2.2.2.1 HP.out.2.2.2 (by simp)) p hjl
          cases hv
          obtain ⟨y, hy⟩ : ∃ y, y = R[p] := ⟨_, rfl⟩
          rw [← hy] at hrr
          have hx2 := rangeAt_keep HS.out.2.1 HP.out.2.2.2
          have he2 : decide (y = x) = eq := by rw [HP.out.2.2.1, List.getElem?_eq_getElem hjl, ← hy]; simp
          have hq := eqlK y x
          rw [he2] at hq
          have HJ := Lib.hid (show _ ∧ _ from ⟨hrr, hx2⟩)
          clear hy hrr hx2 he2 hjl
          refine wp_region_quiet_lit (by kernel_rfl) (by kernel_rfl) ?_
          iterate 8 (go_big_quiet_want; go_big_quiet_op; go_big_quiet_on)
          go_big_quiet_want
          refine quiet_load_key _ rfl gR (p * 32) y rfl HJ.out.1 ?_
          go_big_quiet_on
          go_simp
          iterate 3 (go_big_quiet_want; go_big_quiet_op; go_big_quiet_on)
          go_big_quiet_want
          refine quiet_load_key _ rfl g (off + k * 32) x rfl HJ.out.2 ?_
          go_big_quiet_on
          go_simp
          iterate 2 (go_big_quiet_want; go_big_quiet_op; go_big_quiet_on)
          refine wpQuiet_nil ?_
          intro nx
          go_wp2
          go_meet
          exact ⟨rfl, HP.out.2.2.2.drewN _⟩
        · have hjI : decide (p < R.length) = false := by simp; omega
          have he2 : eq = false := by rw [HP.out.2.2.1, List.getElem?_eq_none (by omega)]; rfl
          subst he2
          clear hjl
          go_quiet (fail)
          go_wp2
          go_meet
          exact ⟨rfl, HP.out.2.2.2.drewN _⟩
      case rest =>
      obtain ⟨rfl, hc⟩ := hcut
      obtain ⟨wx, hwx⟩ : ∃ X, wc = X := ⟨_, rfl⟩
      rw [hwx] at hc ⊢
      clear hwx
      have z0 : IntKind.i64.wrap ((k : Int) + 1) = (k : Int) + 1 := IntWalk.i64_in _ (by have := HS.out.2.2.1; have := HX.out.2; omega)
      have HC := Lib.hid hc
      clear hc
      cases eq with
      | true =>
        go_wp2
        go_roundw
        case rel =>
          refine ⟨k + 1, by simp, by have := HS.out.2.2.1; omega, ⟨va, R.length, vc, rfl⟩, Lib.hid ⟨?_, HS.out.2.2.2.2.2.trans HC.out⟩⟩
          have h1 := of_decide_eq_true HP.out.2.2.1.symm
          rw [HS.out.1, insK, if_pos (by rw [← HP.out.1]; exact h1)]
          exact owns_upd HS.out.2.2.2.2.1 HC.out (by simp)
        case measure => simp [intOf]; have := HS.out.2.2.1; omega
      | false =>
        go_upto_region 9 with fail
        have hown := owns_upd HS.out.2.2.2.2.1 HC.out (by simp)
        obtain ⟨ad, vn, vc', hv, hvn, hcap, hlo, hhi⟩ := view_lo hown p HP.out.2.1
        cases hv
        have hx2 := rangeAt_keep HS.out.2.1 HC.out
        have hins : rsetF (l.take (k + 1)) = R.take p ++ [x] ++ R.drop p := by
          have h1 := of_decide_eq_false HP.out.2.2.1.symm
          rw [HS.out.1]
          rw [HP.out.1] at h1 ⊢
          rw [insK, if_neg h1]
        have hlt1 : w.heap.size ≤ wx.heap.size := Nat.le_trans HS.out.2.2.2.2.2.size HC.out.size
        have hlen : R.length ≤ 100 := by have := HS.out.2.2.2.1; have := HS.out.2.2.1; have := HX.out.2; omega
        have HV := Lib.hid (show _ ∧ _ ∧ _ ∧ _ ∧ _ ∧ _ ∧ _ from ⟨hlo, hhi, hx2, hins, hcap, hlt1, hlen⟩)
        clear hown hlo hhi hx2 hins hvn hcap hlt1 hlen
        refine region_E (Upd [] wx) (fun _ => false) (by kernel_rfl) ?_
        have s0 : Upd [] wx wx.drew := (Upd.refl [] wx).drew
        refine takeE 1 (some 45) (.slice va R.length vc) rfl rfl (by kernel_rfl) (by kernel_rfl) (by kernel_rfl) (by kernel_rfl) (fun _ _ _ h => h) (by kernel_rfl) (fun w' hw' => by go_simp) s0 ?_
        simp only [Act.put, List.setIfInBounds_toArray, List.set_cons_zero, List.set_cons_succ]
        refine takeE 2 (some 46) (.int .i64 (p : Int)) rfl rfl (by kernel_rfl) (by kernel_rfl) (by kernel_rfl) (by kernel_rfl) (fun _ _ _ h => h) (by kernel_rfl) (fun w' hw' => by go_simp) s0 ?_
        simp only [Act.put, List.setIfInBounds_toArray, List.set_cons_zero, List.set_cons_succ]
        refine takeE 3 (some 47) (sliced va 0 p vc 32) rfl rfl (by kernel_rfl) (by kernel_rfl) (by kernel_rfl) (by kernel_rfl) (fun _ _ _ h => h) (by kernel_rfl) (fun w' hw' => run_exec_slice_h _ _ (ad := va) (n := R.length) (c := vc) (k := p) (x := .tmp 45) (y := .tmp 46) rfl (by go_simp) (by go_simp) (Nat.le_trans HP.out.2.1 HV.out.2.2.2.2.1) w') s0 ?_
        simp only [Act.put, List.setIfInBounds_toArray, List.set_cons_zero, List.set_cons_succ]
        refine takeE 5 (some 49) (.slice (some ⟨g, off, none⟩) l.length cap) rfl rfl (by kernel_rfl) (by kernel_rfl) (by kernel_rfl) (by kernel_rfl) (fun _ _ _ h => h) (by kernel_rfl) (fun w' hw' => by go_simp) s0 ?_
        simp only [Act.put, List.setIfInBounds_toArray, List.set_cons_zero, List.set_cons_succ]
        refine takeE 6 (some 50) (.int .i64 (k : Int)) rfl rfl (by kernel_rfl) (by kernel_rfl) (by kernel_rfl) (by kernel_rfl) (fun _ _ _ h => h) (by kernel_rfl) (fun w' hw' => by go_simp) s0 ?_
        simp only [Act.put, List.setIfInBounds_toArray, List.set_cons_zero, List.set_cons_succ]
        refine takeE 7 (some 51) (.pointer (some ⟨g, off + k * 32, none⟩)) rfl rfl (by kernel_rfl) (by kernel_rfl) (by kernel_rfl) (by kernel_rfl) (fun _ _ _ h => h) (by kernel_rfl) (fun w' hw' => by go_simp) s0 ?_
        simp only [Act.put, List.setIfInBounds_toArray, List.set_cons_zero, List.set_cons_succ]
        refine takeE 8 (some 52) (.agg (keyCells x).toArray) rfl rfl (by kernel_rfl) (by kernel_rfl) (by kernel_rfl) (by kernel_rfl) (fun _ _ _ h => h) (by kernel_rfl) (fun w' hw' => load31 (x := .tmp 51) rfl (by go_simp) (rangeAt_keep HV.out.2.2.1 hw')) s0 ?_
        simp only [Act.put, List.setIfInBounds_toArray, List.set_cons_zero, List.set_cons_succ]
        refine takeE 11 (some 55) (.slice va R.length vc) rfl rfl (by kernel_rfl) (by kernel_rfl) (by kernel_rfl) (by kernel_rfl) (fun _ _ _ h => h) (by kernel_rfl) (fun w' hw' => by go_simp) s0 ?_
        simp only [Act.put, List.setIfInBounds_toArray, List.set_cons_zero, List.set_cons_succ]
        refine takeE 12 (some 56) (.int .i64 (p : Int)) rfl rfl (by kernel_rfl) (by kernel_rfl) (by kernel_rfl) (by kernel_rfl) (fun _ _ _ h => h) (by kernel_rfl) (fun w' hw' => by go_simp) s0 ?_
        simp only [Act.put, List.setIfInBounds_toArray, List.set_cons_zero, List.set_cons_succ]
        refine takeE 13 (some 57) (sliced va p R.length vc 32) rfl rfl (by kernel_rfl) (by kernel_rfl) (by kernel_rfl) (by kernel_rfl) (fun _ _ _ h => h) (by kernel_rfl) (fun w' hw' => run_exec_slice_l _ _ (ad := va) (n := R.length) (c := vc) (k := p) (x := .tmp 55) (y := .tmp 56) rfl (by go_simp) (by go_simp) HP.out.2.1 w') s0 ?_
        simp only [Act.put, List.setIfInBounds_toArray, List.set_cons_zero, List.set_cons_succ]
        have hB0 : wx.heap.size ≤ wx.drew.heap.size := s0.size
        refine twoE 0 9 (by kernel_rfl) ?_ ?_
        · refine runE (some 44) _ _ rfl rfl (by kernel_rfl) (run_exec_slice0 _ _ rfl _) ?_
          have hn0 : (wx.drew.alloc (.cells #[] 31)).ownsRow wx.heap.size 31 32 (.slice (some ⟨wx.drew.heap.size, 0, none⟩) ([] : List K).length 0) ([] : List K).length (([] : List K).flatMap keyCells) := World.ownsRow_lit _ #[] 0 s0.size (by decide) rfl
          have hs0 : Upd [] wx (wx.drew.alloc (.cells #[] 31)) := s0.alloc _
          obtain ⟨w1, hw1⟩ : ∃ X, wx.drew.alloc (.cells #[] 31) = X := ⟨_, rfl⟩
          rw [hw1] at hn0 hs0 ⊢
          have hblk : (w1.heap.size = wx.drew.heap.size + 1) := by rw [← hw1]; simp
          clear hw1
          refine ⟨fun _ => hs0, ?_⟩
          simp only [Act.put, List.setIfInBounds_toArray, List.set_cons_zero, List.set_cons_succ]
          refine twoE 4 9 (by kernel_rfl) ?_ ?_
          · refine wpOp_app28 (W := wx) (some 48) rfl rfl (by kernel_rfl) (.tmp 44) (.tmp 47) rfl (.slice (some ⟨wx.drew.heap.size, 0, none⟩) 0 0) (sliced va 0 p vc 32) (by go_simp) (by go_simp) wx.heap.size [] (R.take p) hn0 (HV.out.1.upd hs0) (by rw [List.length_take]; have := HV.out.2.2.2.2.2.2; simp; omega) (Nat.le_refl _) hs0.size hs0 ?_
            intro v48 w48 ho48 hu48 hg48
            rw [List.nil_append] at ho48
            refine ⟨fun _ => hu48, ?_⟩
            simp only [Act.put, List.setIfInBounds_toArray, List.set_cons_zero, List.set_cons_succ]
            refine oneE 9 (by kernel_rfl) ?_
            refine runE (some 53) _ _ rfl rfl (by kernel_rfl) (run_exec_slice1K _ _ (x := .tmp 52) rfl x (by go_simp) _) ?_
            have hn9 : ViewAt 32 (w48.alloc (.cells (keyCells x).toArray 31)) (.slice (some ⟨w48.heap.size, 0, none⟩) [x].length 1) [x].length ([x].flatMap keyCells) := .inr ⟨_, _, _, rfl, flat_len [x], fun j u hj => by
              rw [cell_of_heap (heap_alloc_new _ _), Nat.zero_add, List.getElem?_toArray]
              simpa using hj⟩
            have hs9 : Upd [] wx (w48.alloc (.cells (keyCells x).toArray 31)) := hu48.alloc _
            have ho48b := owns_upd ho48 (Upd.new w48 (.cells (keyCells x).toArray 31)) (by simp)
            obtain ⟨w9, hw9⟩ : ∃ X, w48.alloc (.cells (keyCells x).toArray 31) = X := ⟨_, rfl⟩
            rw [hw9] at hn9 hs9 ho48b ⊢
            clear hw9
            refine ⟨fun _ => hs9, ?_⟩
            simp only [Act.put, List.setIfInBounds_toArray, List.set_cons_zero, List.set_cons_succ]
            refine oneE 10 (by kernel_rfl) ?_
            refine wpOp_app28 (W := wx) (some 54) rfl rfl (by kernel_rfl) (.tmp 48) (.tmp 53) rfl v48 (.slice (some ⟨w48.heap.size, 0, none⟩) 1 1) (by go_simp) (by go_simp) wx.heap.size (R.take p) [x] ho48b hn9 (by rw [List.length_take]; have := HV.out.2.2.2.2.2.2; simp; omega) (Nat.le_refl _) hs9.size hs9 ?_
            intro v54 w54 ho54 hu54 hg54
            refine ⟨fun _ => hu54, ?_⟩
            simp only [Act.put, List.setIfInBounds_toArray, List.set_cons_zero, List.set_cons_succ]
            refine oneE 14 (by kernel_rfl) ?_
            refine wpOp_app28 (W := wx) (some 58) rfl rfl (by kernel_rfl) (.tmp 54) (.tmp 57) rfl v54 (sliced va p R.length vc 32) (by go_simp) (by go_simp) wx.heap.size (R.take p ++ [x]) (R.drop p) ho54 (HV.out.2.1.upd hu54) (by rw [List.length_append, List.length_take, List.length_drop]; have := HV.out.2.2.2.2.2.2; have := HP.out.2.1; simp; omega) (Nat.le_refl _) hu54.size hu54 ?_
            intro v58 w58 ho58 hu58 hg58
            refine ⟨fun _ => hu58, ?_⟩
            simp only [Act.put, List.setIfInBounds_toArray, List.set_cons_zero, List.set_cons_succ]
            refine oneE 15 (by kernel_rfl) ?_
            refine runE (some 3) w58 v58 rfl rfl (by kernel_rfl) (by go_simp) ?_
            refine ⟨fun _ => hu58, ?_⟩
            simp only [Act.put, List.setIfInBounds_toArray, List.set_cons_zero, List.set_cons_succ]
            refine doneE (by kernel_rfl) ?_ _
            have HF := Lib.hid (show _ ∧ _ ∧ _ from ⟨ho58, hu58, owns_isSl ho58⟩)
            obtain ⟨v58a, v58n, v58c, hv58⟩ := HF.out.2.2
            clear hn0 hs0 hblk hn9 hs9 ho48 hu48 hg48 ho48b ho54 hu54 hg54 ho58 hu58 hg58 s0 hB0
            subst hv58
            go_wp2
            go_roundw
            case rel =>
              refine ⟨k + 1, by simp, by have := HS.out.2.2.1; omega, ⟨v58a, v58n, v58c, rfl⟩, Lib.hid ⟨?_, (HS.out.2.2.2.2.2.trans HC.out).trans HF.out.2.1⟩⟩
              rw [HV.out.2.2.2.1]
              exact owns_base HF.out.1 HV.out.2.2.2.2.2.1
            case measure => simp [intOf]; have := HS.out.2.2.1; omega
          · refine runE (some 53) _ _ rfl rfl (by kernel_rfl) (run_exec_slice1K _ _ (x := .tmp 52) rfl x (by go_simp) _) ?_
            have hn9 : ViewAt 32 (w1.alloc (.cells (keyCells x).toArray 31)) (.slice (some ⟨w1.heap.size, 0, none⟩) [x].length 1) [x].length ([x].flatMap keyCells) := .inr ⟨_, _, _, rfl, flat_len [x], fun j u hj => by
              rw [cell_of_heap (heap_alloc_new _ _), Nat.zero_add, List.getElem?_toArray]
              simpa using hj⟩
            have hs9 : Upd [] wx (w1.alloc (.cells (keyCells x).toArray 31)) := hs0.alloc _
            have hn0b := owns_upd hn0 (Upd.new w1 (.cells (keyCells x).toArray 31)) (by simp)
            obtain ⟨w9, hw9⟩ : ∃ X, w1.alloc (.cells (keyCells x).toArray 31) = X := ⟨_, rfl⟩
            rw [hw9] at hn9 hs9 hn0b ⊢
            clear hw9
            refine ⟨fun _ => hs9, ?_⟩
            simp only [Act.put, List.setIfInBounds_toArray, List.set_cons_zero, List.set_cons_succ]
            refine oneE 4 (by kernel_rfl) ?_
            refine wpOp_app28 (W := wx) (some 48) rfl rfl (by kernel_rfl) (.tmp 44) (.tmp 47) rfl (.slice (some ⟨wx.drew.heap.size, 0, none⟩) 0 0) (sliced va 0 p vc 32) (by go_simp) (by go_simp) wx.heap.size [] (R.take p) hn0b (HV.out.1.upd hs9) (by rw [List.length_take]; have := HV.out.2.2.2.2.2.2; simp; omega) (Nat.le_refl _) hs9.size hs9 ?_
            intro v48 w48 ho48 hu48 hg48
            rw [List.nil_append] at ho48
            refine ⟨fun _ => hu48, ?_⟩
            simp only [Act.put, List.setIfInBounds_toArray, List.set_cons_zero, List.set_cons_succ]
            have hv48 := hn9.grown hg48 (fun q => absurd (Option.some.inj (show some wx.drew.heap.size = some w1.heap.size from q)) (by omega))
            refine oneE 10 (by kernel_rfl) ?_
            refine wpOp_app28 (W := wx) (some 54) rfl rfl (by kernel_rfl) (.tmp 48) (.tmp 53) rfl v48 (.slice (some ⟨w1.heap.size, 0, none⟩) 1 1) (by go_simp) (by go_simp) wx.heap.size (R.take p) [x] ho48 hv48 (by rw [List.length_take]; have := HV.out.2.2.2.2.2.2; simp; omega) (Nat.le_refl _) hu48.size hu48 ?_
            intro v54 w54 ho54 hu54 hg54
            refine ⟨fun _ => hu54, ?_⟩
            simp only [Act.put, List.setIfInBounds_toArray, List.set_cons_zero, List.set_cons_succ]
            refine oneE 14 (by kernel_rfl) ?_
            refine wpOp_app28 (W := wx) (some 58) rfl rfl (by kernel_rfl) (.tmp 54) (.tmp 57) rfl v54 (sliced va p R.length vc 32) (by go_simp) (by go_simp) wx.heap.size (R.take p ++ [x]) (R.drop p) ho54 (HV.out.2.1.upd hu54) (by rw [List.length_append, List.length_take, List.length_drop]; have := HV.out.2.2.2.2.2.2; have := HP.out.2.1; simp; omega) (Nat.le_refl _) hu54.size hu54 ?_
            intro v58 w58 ho58 hu58 hg58
            refine ⟨fun _ => hu58, ?_⟩
            simp only [Act.put, List.setIfInBounds_toArray, List.set_cons_zero, List.set_cons_succ]
            refine oneE 15 (by kernel_rfl) ?_
            refine runE (some 3) w58 v58 rfl rfl (by kernel_rfl) (by go_simp) ?_
            refine ⟨fun _ => hu58, ?_⟩
            simp only [Act.put, List.setIfInBounds_toArray, List.set_cons_zero, List.set_cons_succ]
            refine doneE (by kernel_rfl) ?_ _
            have HF := Lib.hid (show _ ∧ _ ∧ _ from ⟨ho58, hu58, owns_isSl ho58⟩)
            obtain ⟨v58a, v58n, v58c, hv58⟩ := HF.out.2.2
            clear hn0 hs0 hblk hn9 hs9 hn0b hv48 ho48 hu48 hg48 ho54 hu54 hg54 ho58 hu58 hg58 s0 hB0
            subst hv58
            go_wp2
            go_roundw
            case rel =>
              refine ⟨k + 1, by simp, by have := HS.out.2.2.1; omega, ⟨v58a, v58n, v58c, rfl⟩, Lib.hid ⟨?_, (HS.out.2.2.2.2.2.trans HC.out).trans HF.out.2.1⟩⟩
              rw [HV.out.2.2.2.1]
              exact owns_base HF.out.1 HV.out.2.2.2.2.2.1
            case measure => simp [intOf]; have := HS.out.2.2.1; omega
        · refine runE (some 53) _ _ rfl rfl (by kernel_rfl) (run_exec_slice1K _ _ (x := .tmp 52) rfl x (by go_simp) _) ?_
          have hn9 : ViewAt 32 (wx.drew.alloc (.cells (keyCells x).toArray 31)) (.slice (some ⟨wx.drew.heap.size, 0, none⟩) [x].length 1) [x].length ([x].flatMap keyCells) := .inr ⟨_, _, _, rfl, flat_len [x], fun j u hj => by
            rw [cell_of_heap (heap_alloc_new _ _), Nat.zero_add, List.getElem?_toArray]
            simpa using hj⟩
          have hs9 : Upd [] wx (wx.drew.alloc (.cells (keyCells x).toArray 31)) := s0.alloc _
          obtain ⟨w1, hw1⟩ : ∃ X, wx.drew.alloc (.cells (keyCells x).toArray 31) = X := ⟨_, rfl⟩
          rw [hw1] at hn9 hs9 ⊢
          have hblk : (w1.heap.size = wx.drew.heap.size + 1) := by rw [← hw1]; simp
          clear hw1
          refine ⟨fun _ => hs9, ?_⟩
          simp only [Act.put, List.setIfInBounds_toArray, List.set_cons_zero, List.set_cons_succ]
          refine oneE 0 (by kernel_rfl) ?_
          refine runE (some 44) _ _ rfl rfl (by kernel_rfl) (run_exec_slice0 _ _ rfl _) ?_
          have hn0 : (w1.alloc (.cells #[] 31)).ownsRow wx.heap.size 31 32 (.slice (some ⟨w1.heap.size, 0, none⟩) ([] : List K).length 0) ([] : List K).length (([] : List K).flatMap keyCells) := World.ownsRow_lit _ #[] 0 hs9.size (by decide) rfl
          have hs0 : Upd [] wx (w1.alloc (.cells #[] 31)) := hs9.alloc _
          have hn9b := hn9.upd (Upd.new w1 (.cells #[] 31))
          obtain ⟨w2, hw2⟩ : ∃ X, w1.alloc (.cells #[] 31) = X := ⟨_, rfl⟩
          rw [hw2] at hn0 hs0 hn9b ⊢
          clear hw2
          refine ⟨fun _ => hs0, ?_⟩
          simp only [Act.put, List.setIfInBounds_toArray, List.set_cons_zero, List.set_cons_succ]
          refine oneE 4 (by kernel_rfl) ?_
          refine wpOp_app28 (W := wx) (some 48) rfl rfl (by kernel_rfl) (.tmp 44) (.tmp 47) rfl (.slice (some ⟨w1.heap.size, 0, none⟩) 0 0) (sliced va 0 p vc 32) (by go_simp) (by go_simp) wx.heap.size [] (R.take p) hn0 (HV.out.1.upd hs0) (by rw [List.length_take]; have := HV.out.2.2.2.2.2.2; simp; omega) (Nat.le_refl _) hs0.size hs0 ?_
          intro v48 w48 ho48 hu48 hg48
          rw [List.nil_append] at ho48
          refine ⟨fun _ => hu48, ?_⟩
          simp only [Act.put, List.setIfInBounds_toArray, List.set_cons_zero, List.set_cons_succ]
          have hv48 := hn9b.grown hg48 (fun q => absurd (Option.some.inj (show some w1.heap.size = some wx.drew.heap.size from q)) (by omega))
          refine oneE 10 (by kernel_rfl) ?_
          refine wpOp_app28 (W := wx) (some 54) rfl rfl (by kernel_rfl) (.tmp 48) (.tmp 53) rfl v48 (.slice (some ⟨wx.drew.heap.size, 0, none⟩) 1 1) (by go_simp) (by go_simp) wx.heap.size (R.take p) [x] ho48 hv48 (by rw [List.length_take]; have := HV.out.2.2.2.2.2.2; simp; omega) (Nat.le_refl _) hu48.size hu48 ?_
          intro v54 w54 ho54 hu54 hg54
          refine ⟨fun _ => hu54, ?_⟩
          simp only [Act.put, List.setIfInBounds_toArray, List.set_cons_zero, List.set_cons_succ]
          refine oneE 14 (by kernel_rfl) ?_
          refine wpOp_app28 (W := wx) (some 58) rfl rfl (by kernel_rfl) (.tmp 54) (.tmp 57) rfl v54 (sliced va p R.length vc 32) (by go_simp) (by go_simp) wx.heap.size (R.take p ++ [x]) (R.drop p) ho54 (HV.out.2.1.upd hu54) (by rw [List.length_append, List.length_take, List.length_drop]; have := HV.out.2.2.2.2.2.2; have := HP.out.2.1; simp; omega) (Nat.le_refl _) hu54.size hu54 ?_
          intro v58 w58 ho58 hu58 hg58
          refine ⟨fun _ => hu58, ?_⟩
          simp only [Act.put, List.setIfInBounds_toArray, List.set_cons_zero, List.set_cons_succ]
          refine oneE 15 (by kernel_rfl) ?_
          refine runE (some 3) w58 v58 rfl rfl (by kernel_rfl) (by go_simp) ?_
          refine ⟨fun _ => hu58, ?_⟩
          simp only [Act.put, List.setIfInBounds_toArray, List.set_cons_zero, List.set_cons_succ]
          refine doneE (by kernel_rfl) ?_ _
          have HF := Lib.hid (show _ ∧ _ ∧ _ from ⟨ho58, hu58, owns_isSl ho58⟩)
          obtain ⟨v58a, v58n, v58c, hv58⟩ := HF.out.2.2
          clear hn0 hs0 hblk hn9 hs9 hn9b hv48 ho48 hu48 hg48 ho54 hu54 hg54 ho58 hu58 hg58 s0 hB0
          subst hv58
          go_wp2
          go_roundw
          case rel =>
            refine ⟨k + 1, by simp, by have := HS.out.2.2.1; omega, ⟨v58a, v58n, v58c, rfl⟩, Lib.hid ⟨?_, (HS.out.2.2.2.2.2.trans HC.out).trans HF.out.2.1⟩⟩
            rw [HV.out.2.2.2.1]
            exact owns_base HF.out.1 HV.out.2.2.2.2.2.1
          case measure => simp [intOf]; have := HS.out.2.2.1; omega
    · have hkN : k = l.length := by omega
      subst hkN
      clear hlt hk
      go_wp2
      go_ret
      have h := hR.out
      rw [List.take_of_length_le (Nat.le_refl _)] at h
      exact ⟨_, rfl, h.1, h.2⟩
end Go.Proofs.YtdbceafejbnebaaGreatDoor
