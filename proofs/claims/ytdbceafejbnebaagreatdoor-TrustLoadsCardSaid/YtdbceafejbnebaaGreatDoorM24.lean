/- The document's book: Learn. -/
import Derived.Test.YtdbceafejbnebaaGreatDoorM23
namespace Go.Proofs.YtdbceafejbnebaaGreatDoor
open Go Go.RowKit
set_option maxHeartbeats 1000000 in
theorem rlearn_not {w : World} {g : Nat} {acct : UInt8} {ov : Value} {ρ : Rb} (hr : RefAt w g acct ov ρ) (a d : UInt8) (k : K) (hm : mayE acct a d ≠ 0) :
    Calls Tryz.prog 33 #[.pointer (some ⟨g, 0, none⟩), devV a d, .agg (keyCells k).toArray] w fun e w' => e = .returned (.tuple #[.bool false, .int .i64 2]) ∧ Upd [] w w' := by
  have c1 := rmay58 ((hr.upd (Upd.new w (.cells #[byteV a, byteV d] 49 (0, 0))) (by simp)).upd (Upd.new _ (.cells (keyCells k).toArray 31 (0, 0))) (by simp)) a d
  rw [decide_eq_false hm] at c1
  clear hr hm
  unfold devV byteV at *
  go_enter Tryz.func33, Tryz.ntmps33
  go_wp2_with (go_at_call 58; refine c1.mono ?_; rintro e w1 ⟨rfl, hu1⟩)
  go_ret2
  exact ⟨rfl, ((Upd.new w _).trans (Upd.new _ _)).trans hu1⟩
theorem rcSt (c : RC) (s : UInt8) : rcCells (c.setSt s) = (rcCells c).set 132 (byteV s) := by
  unfold rcCells
  rw [List.set_append_right _ _ (by rw [List.length_map, c.hh]; omega), List.length_map, c.hh, List.set_append_right _ _ (by rw [flat_len, c.hk]; omega), flat_len, c.hk]
  rfl
theorem rcHas (c : RC) (d : Nat) (hd : d < 4) (v : Bool) : rcCells { c with hs := c.hs.set d v, hh := by rw [List.length_set]; exact c.hh } = (rcCells c).set d (.bool v) := by
  unfold rcCells
  rw [List.set_append_left _ _ (by rw [List.length_map, c.hh]; exact hd), List.map_set]
theorem put_same (ρ : Rb) (a : UInt8) : ρ.put a (ρ a) = ρ := by
  funext a'
  unfold Rb.put
  split
  · rename_i h; rw [h]
  · rfl
theorem put_put (ρ : Rb) (a : UInt8) (c c' : RC) : (ρ.put a c).put a c' = ρ.put a c' := by
  funext a'
  unfold Rb.put
  split <;> rfl
theorem put_at (ρ : Rb) (a : UInt8) (c : RC) : (ρ.put a c) a = c := by simp [Rb.put]
theorem rangeAt_upd {w w' : World} {g o : Nat} {cs : List Value} {acct : UInt8} {ov : Value} {ρ : Rb} (h : w.rangeAt g o cs) (hr : RefAt w g acct ov ρ) (hu : Upd [] w w') : w'.rangeAt g o cs := by
  intro j v hj
  rw [cell_same (hu.block g (lt_of_heap hr) (by simp))]
  exact h j v hj
theorem rlearn_steps (c : RC) (d : Nat) (k ck : K) (h0 sm sb : Bool) (st s1 s2 : UInt8) (hst : st = c.st) (e1 : c.hs[d]? = some h0) (e2 : c.ks[d]? = some ck) (hsm : sm = decide (ck = k)) (hsb : sb = (h0 && sm))
    (hs1 : s1 = if st = 2 ∧ ¬ (sb = true) then 3 else st) (hs2 : s2 = if s1 = 0 then 1 else s1) : (rlearnC c d k).st = s2 := by
  unfold rlearnC
  simp only [e1, e2, Option.some.injEq]
  rw [hs2, hs1, hsb, hsm, hst]
  by_cases h2 : c.st = 2
  · by_cases hk : ck = k
    · cases h0 <;> simp [h2, hk]
    · cases h0 <;> simp [h2, hk]
  · simp [h2]
set_option maxHeartbeats 2000000 in
set_option maxRecDepth 100000 in
theorem rlearn_has {w : World} {g : Nat} {acct : UInt8} {ov : Value} {ρ : Rb} (hr : RefAt w g acct ov ρ) (a d : UInt8) (k : K) (hm : mayE acct a d = 0) :
    Calls Tryz.prog 33 #[.pointer (some ⟨g, 0, none⟩), devV a d, .agg (keyCells k).toArray] w fun e w' => (∃ b, e = .returned (.tuple #[.bool b, .int .i64 0])) ∧ RefAt w' g acct ov (ρ.put a (rlearnC (ρ a) d.toNat k)) ∧ Upd [g] w w' := by
  obtain ⟨W, hW⟩ : ∃ X, (w.alloc (.cells #[byteV a, byteV d] 49 (0, 0))).alloc (.cells (keyCells k).toArray 31 (0, 0)) = X := ⟨_, rfl⟩
  have hu : Upd [] w W := by rw [← hW]; exact (Upd.new w _).trans (Upd.new _ _)
  have hb1 : W.heap[w.heap.size]? = some (.cells #[byteV a, byteV d] 49 (0, 0)) := by rw [← hW]; exact heap_alloc2_old w _ _
  have hb2 : W.heap[w.heap.size + 1]? = some (.cells (keyCells k).toArray 31 (0, 0)) := by rw [← hW]; exact heap_alloc2_new w _ _
  have c1 := rmay58 (hr.upd hu (by simp)) a d
  rw [decide_eq_true hm] at c1
  have hmay : a.toNat < 8 ∧ d.toNat < 4 := by
    unfold mayE at hm
    split at hm
    · cases hm
    · omega
  have HR := Lib.hid hr
  have HW := Lib.hid (show _ ∧ _ ∧ _ from ⟨hu, hb1, hb2⟩)
  clear hr hm hu hb1 hb2
  unfold devV byteV at *
  go_enter Tryz.func33, Tryz.ntmps33
  go_upto_region 1 with fail
  obtain ⟨L, hL⟩ : ∃ L, L = w.heap.size := ⟨_, rfl⟩
  have d0 : W.cell? ⟨w.heap.size, 0, none⟩ = some (.int .u8 (a.toNat : Int)) := cell_of_heap HW.out.2.1 0
  have d1 : W.cell? ⟨w.heap.size, 1, none⟩ = some (.int .u8 (d.toNat : Int)) := cell_of_heap HW.out.2.1 1
  rw [← hL]
  rw [← hL] at HW d0 d1
  have HL := Lib.hid hL
  clear hL hW
  go_upto_region 3 with (go_at_call 58; refine c1.mono ?_; clear c1; rintro e w1 ⟨rfl, hu1⟩)
  have hB : RefAt w1 g acct ov ρ := (HR.out.upd HW.out.1 (by simp)).upd hu1 (by simp)
  have HB := Lib.hid (show _ ∧ _ ∧ _ ∧ _ from ⟨hB, hu1.heap HW.out.2.1 (by simp), hu1.heap HW.out.2.2 (by simp), HW.out.1.trans hu1⟩)
  have hh := hB.has a hmay.1 d.toNat hmay.2
  obtain ⟨an, han⟩ : ∃ an, an = a.toNat := ⟨_, rfl⟩
  obtain ⟨dn, hdn⟩ : ∃ dn, dn = d.toNat := ⟨_, rfl⟩
  obtain ⟨h0, hh0, hh1⟩ : ∃ h0, (ρ a).hs[d.toNat]? = some h0 ∧ (ρ a).hs[d.toNat]'(by rw [(ρ a).hh]; exact hmay.2) = h0 := ⟨_, List.getElem?_eq_getElem _, rfl⟩
  obtain ⟨ck, hk0, hk1⟩ : ∃ ck, (ρ a).ks[d.toNat]? = some ck ∧ (ρ a).ks[d.toNat]'(by rw [(ρ a).hk]; exact hmay.2) = ck := ⟨_, List.getElem?_eq_getElem _, rfl⟩
  have hkey := hB.key a hmay.1 d.toNat hmay.2
  have hst := hB.state a hmay.1
  rw [hk1, ← han, ← hdn] at hkey
  rw [← han] at hst
  rw [hh1, ← han, ← hdn] at hh
  have d0' : w1.cell? ⟨L, 0, none⟩ = some (.int .u8 (an : Int)) := by rw [han]; exact cell_of_heap HB.out.2.1 0
  have d1' : w1.cell? ⟨L, 1, none⟩ = some (.int .u8 (dn : Int)) := by rw [hdn]; exact cell_of_heap HB.out.2.1 1
  have ha8 : (an : Int) < 8 := by omega
  have hd4 : (dn : Int) < 4 := by omega
  have HN := Lib.hid (show _ ∧ _ ∧ _ from ⟨han, hdn, hmay⟩)
  have HH0 := Lib.hid (show _ ∧ _ ∧ _ ∧ _ from ⟨hh0, hk0, hkey, hst⟩)
  clear hh1 hk1 hkey hst d0 d1 hB hu1 han hdn hmay hh0 hk0
  go_quiet (fail)
  obtain ⟨w2, hw2⟩ : ∃ X, w1.drewN nq = X := ⟨_, rfl⟩
  have hu2 : Upd [] w1 w2 := by rw [← hw2]; exact (Upd.refl [] w1).drewN nq
  have hh2 : w2.cell? ⟨g, 2 + an * 133 + dn, none⟩ = some (.bool h0) := by rw [← hw2]; exact hh
  have e1 : w2.cell? ⟨L, 1, none⟩ = some (.int .u8 (dn : Int)) := by rw [← hw2]; exact d1'
  rw [hw2]
  clear hw2 hh d0' d1'
  go_upto_region 4 with fail
  go_quiet (fail)
  obtain ⟨w3, hw3⟩ : ∃ X, w2.drewN nq = X := ⟨_, rfl⟩
  have hu3 : Upd [] w1 w3 := by rw [← hw3]; exact hu2.trans ((Upd.refl [] w2).drewN nq)
  have e1 : w3.cell? ⟨L, 1, none⟩ = some (.int .u8 (dn : Int)) := by rw [← hw3]; exact e1
  have hrk : w3.rangeAt g (2 + an * 133 + 4 + dn * 32) (keyCells ck) := by
    rw [← hw3, Nat.add_assoc (2 + an * 133)]; exact World.rangeAt_drewN (rangeAt_upd HH0.out.2.2.1 HB.out.1 hu2) nq
  have hrb : w3.rangeAt (L + 1) 0 (keyCells k) := by
    intro j v hj
    rw [cell_of_heap (hu3.heap HB.out.2.2.1 (by simp)), Nat.zero_add]
    simp only [List.getElem?_toArray]
    exact hj
  rw [hw3]
  clear hw3 hh2
  have hq := eqlK ck k
  obtain ⟨sm, hsm⟩ : ∃ sm, sm = decide (ck = k) := ⟨_, rfl⟩
  rw [← hsm] at hq
  have H3 := Lib.hid (show _ ∧ _ ∧ _ ∧ _ from ⟨hrk, hrb, hsm, hu3⟩)
  clear hrk hrb hsm hu2 hu3
  go_upto_region 5 with fail
  go_cut [10] from 28 to 39 (fun s10 we => s10 = .bool (h0 && sm) ∧ ∃ n, we = w3.drewN n)
  case first =>
    cases h0 with
    | false =>
      go_quiet (fail)
      go_wp2
      go_meet
      exact ⟨rfl, _, rfl⟩
    | true =>
      refine wp_region_quiet_lit (by kernel_rfl) (by kernel_rfl) ?_
      iterate 8 (go_big_quiet_want; go_big_quiet_op; go_big_quiet_on)
      go_big_quiet_want
      refine quiet_load_key _ rfl g (2 + an * 133 + 4 + dn * 32) ck rfl H3.out.1 ?_
      go_big_quiet_on
      go_simp
      go_big_quiet_want
      refine quiet_load_key _ rfl (L + 1) 0 k rfl H3.out.2.1 ?_
      go_big_quiet_on
      go_simp
      iterate 3 (go_big_quiet_want; go_big_quiet_op; go_big_quiet_on)
      refine wpQuiet_nil ?_
      intro nx
      go_wp2
      go_meet
      exact ⟨rfl, _, rfl⟩
  case rest =>
    obtain ⟨rfl, nd, rfl⟩ := hcut
    obtain ⟨w4, hw4⟩ : ∃ X, w3.drewN nd = X := ⟨_, rfl⟩
    have hu4 : Upd [] w1 w4 := by rw [← hw4]; exact H3.out.2.2.2.trans ((Upd.refl [] w3).drewN nd)
    rw [hw4]
    clear hw4 hq e1
    have hB4 : RefAt w4 g acct ov ρ := HB.out.1.upd hu4 (by simp)
    have hst4 : w4.cell? ⟨g, 2 + an * 133 + 132, none⟩ = some (byteV (ρ a).st) := by
      rw [cell_same (hu4.block g (lt_of_heap HB.out.1) (by simp))]
      exact HH0.out.2.2.2
    have hfr4 := hB4.free (2 + an * 133 + 132)
    obtain ⟨st, hst⟩ : ∃ st, st = (ρ a).st := ⟨_, rfl⟩
    rw [← hst] at hst4
    unfold byteV at hst4
    obtain ⟨sb, hsb⟩ : ∃ sb, sb = (h0 && sm) := ⟨_, rfl⟩
    rw [← hsb]
    have H4 := Lib.hid (show _ ∧ _ ∧ _ ∧ _ from ⟨hB4, hu4, hst, hsb⟩)
    clear hB4 hu4 hst hsb
    obtain ⟨s1, hs1⟩ : ∃ s1 : UInt8, s1 = if st = 2 ∧ ¬ (sb = true) then 3 else st := ⟨_, rfl⟩
    obtain ⟨s2, hs2⟩ : ∃ s2 : UInt8, s2 = if s1 = 0 then 1 else s1 := ⟨_, rfl⟩
    have HS1 := Lib.hid (show _ ∧ _ from ⟨hs1, hs2⟩)
    clear hs1 hs2
    have hset : ∀ s' : UInt8, RefAt (w4.setCell ⟨g, 2 + an * 133 + 132, none⟩ (byteV s')) g acct ov (ρ.put a ((ρ a).setSt s')) ∧ Upd [g] w4 (w4.setCell ⟨g, 2 + an * 133 + 132, none⟩ (byteV s')) := by
      intro s'
      have q := H4.out.1.set1 a HN.out.2.2.1 132 (by omega) (byteV s') ((ρ a).setSt s') (rcSt _ _)
      rw [← HN.out.1] at q
      exact q
    have hstay : RefAt w4 g acct ov (ρ.put a ((ρ a).setSt st)) := by
      rw [H4.out.2.2.1]
      exact (put_same ρ a).symm ▸ H4.out.1
    have HSET := Lib.hid (show _ ∧ _ from ⟨hset, hstay⟩)
    clear hset hstay
    obtain ⟨z2, hz2⟩ : ∃ z2, ((st.toNat : Int) == 2) = z2 := ⟨_, rfl⟩
    have hs1v : s1 = if z2 && !sb then 3 else st := by
      rw [HS1.out.1, ← hz2]
      by_cases h2 : st = 2
      · subst h2; cases sb <;> rfl
      · have e2 : ((st.toNat : Int) == 2) = false := by rw [beq_eq_false_iff_ne]; intro e; exact h2 (UInt8.toNat_inj.1 (by have : (2 : UInt8).toNat = 2 := rfl; omega))
        rw [e2, if_neg (fun q => h2 q.1)]
        rfl
    have HV := Lib.hid hs1v
    clear hs1v
    obtain ⟨cn, hcn⟩ : ∃ cn, cn = (z2 && !sb) := ⟨_, rfl⟩
    go_upto_region 6 with fail
    go_cut [48] from 40 to 48 (fun s48 we => s48 = .bool cn ∧ we = w4)
    case first =>
      cases z2 with
      | true =>
        go_wp2
        go_meet
        exact ⟨by rw [hcn]; rfl, rfl⟩
      | false =>
        go_wp2
        go_meet
        exact ⟨by rw [hcn]; rfl, rfl⟩
    case rest =>
    obtain ⟨rfl, hx⟩ := hcut
    rw [hx]
    clear hx
    go_upto_if 48 with fail
    go_cut [] from 49 to 51 (fun we => Hid (RefAt we g acct ov (ρ.put a ((ρ a).setSt s1)) ∧ Upd [g] w4 we))
    case first =>
      rw [← hcn] at HV
      clear hcn
      cases cn with
      | true =>
        have HE : Hid (s1 = 3) := Lib.hid HV.out
        go_wp2
        go_meet
        rw [HE.out]
        exact Lib.hid (HSET.out.1 3)
      | false =>
        have HE : Hid (s1 = st) := Lib.hid HV.out
        go_wp2
        go_meet
        rw [HE.out]
        exact Lib.hid ⟨HSET.out.2, Upd.refl _ _⟩
    case rest =>
      obtain ⟨w5, hw5⟩ : ∃ X, wc = X := ⟨_, rfl⟩
      rw [hw5] at hcut ⊢
      clear hw5
      have hst5 : w5.cell? ⟨g, 2 + an * 133 + 132, none⟩ = some (.int .u8 (s1.toNat : Int)) := by
        have q := hcut.out.1.state a HN.out.2.2.1
        rw [← HN.out.1, put_at] at q
        exact q
      have hfr5 := hcut.out.1.free (2 + an * 133 + 132)
      have hset5 : ∀ s' : UInt8, RefAt (w5.setCell ⟨g, 2 + an * 133 + 132, none⟩ (byteV s')) g acct ov (ρ.put a ((ρ a).setSt s')) ∧ Upd [g] w4 (w5.setCell ⟨g, 2 + an * 133 + 132, none⟩ (byteV s')) := by
        intro s'
        have q := hcut.out.1.set1 a HN.out.2.2.1 132 (by omega) (byteV s') ((ρ a).setSt s') (by rw [put_at]; exact rcSt ((ρ a).setSt s1) s')
        rw [← HN.out.1, put_put] at q
        exact ⟨q.1, hcut.out.2.trans q.2⟩
      have HSET5 := Lib.hid (show _ ∧ _ from ⟨hset5, hcut⟩)
      clear hset5 hcut hst4 hfr4 hcn
      obtain ⟨z0, hz0⟩ : ∃ z0, ((s1.toNat : Int) == 0) = z0 := ⟨_, rfl⟩
      have hs2v : s2 = if z0 then 1 else s1 := by
        rw [HS1.out.2, ← hz0]
        by_cases h0' : s1 = 0
        · rw [h0']; rfl
        · have e0 : ((s1.toNat : Int) == 0) = false := by rw [beq_eq_false_iff_ne]; intro e; exact h0' (UInt8.toNat_inj.1 (by have : (0 : UInt8).toNat = 0 := rfl; omega))
          rw [e0, if_neg h0']
          rfl
      have HV2 := Lib.hid hs2v
      clear hs2v
      go_upto_if 56 with fail
      go_cut [] from 57 to 59 (fun we => Hid (RefAt we g acct ov (ρ.put a ((ρ a).setSt s2)) ∧ Upd [g] w4 we))
      case first =>
        cases z0 with
        | true =>
          have HE : Hid (s2 = 1) := Lib.hid HV2.out
          go_wp2
          go_meet
          rw [HE.out]
          exact Lib.hid (HSET5.out.1 1)
        | false =>
          have HE : Hid (s2 = s1) := Lib.hid HV2.out
          go_wp2
          go_meet
          rw [HE.out]
          exact HSET5.out.2
      case rest =>
        obtain ⟨wf, hwf⟩ : ∃ X, wc = X := ⟨_, rfl⟩
        rw [hwf] at hcut ⊢
        clear hwf hst5 hfr5 hz0 hz2
        obtain ⟨c1, hc1⟩ : ∃ c1 : RC, c1 = (ρ a).setSt s2 := ⟨_, rfl⟩
        rw [← hc1] at hcut
        have huf : Upd [g] w1 wf := (H4.out.2.1.mono (by simp)).trans hcut.out.2
        have hgL : g < w.heap.size := lt_of_heap HR.out
        have hg1 : g ≠ L := by have := HL.out; omega
        have hg2 : g ≠ L + 1 := by have := HL.out; omega
        have b1 := huf.heap HB.out.2.1 (by simpa using Ne.symm hg1)
        have b2 := huf.heap HB.out.2.2.1 (by simpa using Ne.symm hg2)
        have k1 : wf.cell? ⟨L, 1, none⟩ = some (.int .u8 (dn : Int)) := by rw [HN.out.2.1]; exact cell_of_heap b1 1
        obtain ⟨hb0, k2⟩ : ∃ hb : Bool, wf.cell? ⟨g, 2 + a.toNat * 133 + d.toNat, none⟩ = some (.bool hb) := ⟨_, hcut.out.1.has a HN.out.2.2.1 d.toNat HN.out.2.2.2⟩
        rw [← HN.out.1, ← HN.out.2.1] at k2
        have k3 := hcut.out.1.free (2 + an * 133 + dn)
        obtain ⟨c2, hc2⟩ : ∃ c2 : RC, c2 = { c1 with hs := c1.hs.set d.toNat true, hh := by rw [List.length_set]; exact c1.hh } := ⟨_, rfl⟩
        have hs1 := hcut.out.1.set1 a HN.out.2.2.1 d.toNat (by have := HN.out.2.2.2; omega) (.bool true) c2 (by rw [put_at, hc2]; exact rcHas c1 d.toNat HN.out.2.2.2 true)
        rw [put_put, ← HN.out.1, ← HN.out.2.1] at hs1
        obtain ⟨wg, hwg⟩ : ∃ X, wf.drew.setCell ⟨g, 2 + an * 133 + dn, none⟩ (.bool true) = X := ⟨_, rfl⟩
        have hs2 : RefAt wg g acct ov (ρ.put a c2) ∧ Upd [g] wf wg := by rw [← hwg]; exact ⟨hs1.1, ((Upd.refl [g] wf).drew).setCell (.inr (by simp)) _⟩
        have hug : Upd [g] w1 wg := huf.trans hs2.2
        have b1g := hug.heap HB.out.2.1 (by simpa using Ne.symm hg1)
        have b2g := hug.heap HB.out.2.2.1 (by simpa using Ne.symm hg2)
        have hst2 : (rlearnC (ρ a) d.toNat k).st = s2 := rlearn_steps (ρ a) d.toNat k ck h0 sm sb st s1 s2 H4.out.2.2.1 HH0.out.1 HH0.out.2.1 H3.out.2.2.1 H4.out.2.2.2 HS1.out.1 HS1.out.2
        have hK := (show RefAt wg.drew g acct ov (ρ.put a c2) from hs2.1).setK a HN.out.2.2.1 d.toNat HN.out.2.2.2 k (rlearnC (ρ a) d.toNat k) (by
          rw [put_at, hc2, hc1, ← hst2]
          rfl)
        rw [put_put] at hK
        have HF := Lib.hid (show _ ∧ _ ∧ _ ∧ _ ∧ _ ∧ _ from ⟨hs2.1, hug, b1g, b2g, hg1, hg2⟩)
        have HK := Lib.hid hK
        clear hc1 hcut huf hgL hg1 hg2 b1 b2 hs1 hs2 hug b1g b2g hc2 hK hst2
        go_upto_region 10 with fail
        go_still_tail 6, (by kernel_rfl)
        change wpList _ _ _ _ _ wf.drew
        go_upto_region 11 with fail

        clear hwg k1 k2 k3
        have hS : ∀ w', Upd [g] wg w' → (∃ ρ', RefAt w' g acct ov ρ') → (w'.cell? ⟨L, 1, none⟩ = some (.int .u8 (dn : Int)) ∧ w'.rangeAt (L + 1) 0 (keyCells k) ∧ w'.there g (2 + an * 133 + 4 + dn * 32) 32) := by
          rintro w' hu ⟨ρ', hc⟩
          obtain ⟨_, _, b1, b2, hg1, hg2⟩ := HF.out
          refine ⟨?_, ?_, ?_⟩
          · rw [cell_of_heap (hu.heap b1 (by simpa using Ne.symm hg1)), HN.out.2.1]; rfl
          · intro j v hj
            rw [cell_of_heap (hu.heap b2 (by simpa using Ne.symm hg2)), Nat.zero_add]
            simp only [List.getElem?_toArray]
            exact hj
          · intro j hj
            refine ⟨?_, hc.free _⟩
            have hd := HN.out.2.2.2
            rw [HN.out.1, HN.out.2.1, Nat.add_assoc (2 + a.toNat * 133), Nat.add_assoc (2 + a.toNat * 133), hc.cell a HN.out.2.2.1 (4 + d.toNat * 32 + j) (by omega), List.getElem?_eq_getElem (by rw [rcCells_len]; omega)]
            rfl
        have hS1 := hS wg.drew (Upd.refl [g] wg).drew ⟨_, HF.out.1⟩
        have hK2 : RefAt (wg.drew.setCells g (2 + an * 133 + 4 + dn * 32) (keyCells k)) g acct ov (ρ.put a (rlearnC (ρ a) d.toNat k)) ∧ Upd [g] wg (wg.drew.setCells g (2 + an * 133 + 4 + dn * 32) (keyCells k)) := by
          rw [HN.out.1, HN.out.2.1, Nat.add_assoc (2 + a.toNat * 133)]
          exact ⟨HK.out.1, (Upd.refl [g] wg).drew.trans HK.out.2⟩
        have hS2 := hS _ hK2.2 ⟨_, hK2.1⟩
        have HK2 := Lib.hid hK2
        have HS := Lib.hid (show _ ∧ _ from ⟨hS1, hS2⟩)
        clear hS hK2 hS1 hS2
        have k31 : Tryz.prog.underlying 31 = some (.array 32 5) := Tryz.underlying31
        have s31 : (Tryz.prog.info? 31).map (·.size) = some (keyCells k).length := hu31 k
        have l31 := keyCells_len k
        have o31 := keyCells_one k
        go_region_held (fun w' => w'.cell? ⟨L, 1, none⟩ = some (.int .u8 (dn : Int)) ∧ w'.rangeAt (L + 1) 0 (keyCells k) ∧ w'.there g (2 + an * 133 + 4 + dn * 32) 32) (first | exact HS.out.1 | exact HS.out.2) (fail)
        have hx := HK2.out
        have hy := HF.out.2.1.trans HK2.out.2
        have hy' := (show Upd [g] w w1 from HB.out.2.2.2.mono (by simp)).trans hy
        clear HK2 HF HV2 HV HSET HSET5
        go_wp2
        all_goals
          go_ret2
          exact ⟨⟨_, rfl⟩, hx.1, hy'⟩
end Go.Proofs.YtdbceafejbnebaaGreatDoor
