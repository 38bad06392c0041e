/- The document's bytes of a book: words and small laws. The document's bytes of a book. -/
import Derived.Test.YtdbceafejbnebaaGreatDoorM27
/-! The document's bytes of a book: words and small laws. -/
namespace Go.Proofs.YtdbceafejbnebaaGreatDoor
open Go Go.RowKit
theorem run_app22 (w W : World) (ty : TypeId) (v xv : Value) (B : Nat) (R ys : List UInt8) (hown : w.ownsRow B 5 1 v R.length (R.map byteV)) (hv : ViewAt 1 w xv ys.length (ys.map byteV)) (hl : R.length + ys.length ≤ 100000) (hB : W.heap.size ≤ B) (hb : B ≤ w.heap.size) (hu : Upd [] W w) :
    ∃ v' w', (Builtin.append_ #[22, 22] ty #[v, xv]).run Tryz.prog w = .ok v' w' ∧ w'.ownsRow B 5 1 v' (R ++ ys).length ((R ++ ys).map byteV) ∧ Upd [] W w' ∧ w.grownBy w' v.ownBlock := by
  obtain ⟨i0, hi0, hz0, hz1, hz2⟩ := info_parts Tryz.info5
  have hm : R.length + ys.length ≤ maxLen := Nat.le_trans hl (by decide)
  have hbig : (R.length + ys.length) * 1 ≤ 140737488355328 := by rw [Nat.mul_one]; exact Nat.le_trans hl (by decide)
  obtain ⟨v', w', q1, q2, q3⟩ := run_append_view (P := Tryz.prog) w B 22 ty 5 i0 _ 1 1 Tryz.underlying22 hi0 hz0 hz1 hz2 rfl (by decide) v R.length _ hown xv ys.length _ hv (byteV_one ys) hm hbig hb
  refine ⟨v', w', q1, ?_, upd_grown hu q3 (fun k hk => Nat.le_trans hB (owns_block hown k hk)), q3⟩
  rw [List.length_append, List.map_append]
  exact q2
/-- An append of bytes, in a region that draws. -/
theorem wpOp_app22 {ops : Array Oper} {Q : Exit → Act → World → Prop} {i : Nat} (d : Option Tmp) {o : Oper} {a : Act} {w W : World} {KK : Act → World → Prop} (hi : ops[i]? = some o) (hd : o.dst = d) (hw : Region.wanted o (yielded ops a.tmps) = true)
    (s x : Operand) (ho : o.op = .call { callee := .builtin .append, args := #[s, x], argTypes := #[22, 22] }) (v xv : Value) (hs : a.eval s = v) (hx : a.eval x = xv) (B : Nat) (R ys : List UInt8)
    (hown : w.ownsRow B 5 1 v R.length (R.map byteV)) (hv : ViewAt 1 w xv ys.length (ys.map byteV)) (hl : R.length + ys.length ≤ 100000) (hB : W.heap.size ≤ B) (hb : B ≤ w.heap.size) (hu : Upd [] W w)
    (h : ∀ v' w', w'.ownsRow B 5 1 v' (R ++ ys).length ((R ++ ys).map byteV) → Upd [] W w' → w.grownBy w' v.ownBlock → KK (a.put d v') w') : wpOp Tryz.prog ops Q i KK a w := by
  subst hd
  obtain ⟨v', w', q1, q2, q3, q4⟩ := run_app22 w W o.type v xv B R ys hown hv hl hB hb hu
  exact wpOp_run hi hw (run_exec_append a.eval o ho hs hx q1) (h v' w' q2 q3 q4)
/-- An append of bytes, in a plain region. -/
theorem wpList_app22 {ops : Array Oper} {rest : List Oper} {o : Oper} {a : Act} {Q : Exit → Act → World → Prop} {w W : World} (hg : o.guard = none) (s x : Operand) (ho : o.op = .call { callee := .builtin .append, args := #[s, x], argTypes := #[22, 22] })
    (v xv : Value) (hs : a.eval s = v) (hx : a.eval x = xv) (B : Nat) (R ys : List UInt8) (hown : w.ownsRow B 5 1 v R.length (R.map byteV)) (hv : ViewAt 1 w xv ys.length (ys.map byteV)) (hl : R.length + ys.length ≤ 100000)
    (hB : W.heap.size ≤ B) (hb : B ≤ w.heap.size) (hu : Upd [] W w)
    (h : ∀ v' w', w'.ownsRow B 5 1 v' (R ++ ys).length ((R ++ ys).map byteV) → Upd [] W w' → w.grownBy w' v.ownBlock → wpList Tryz.prog ops Q rest (a.put o.dst v') w') : wpList Tryz.prog ops Q (o :: rest) a w := by
  obtain ⟨v', w', q1, q2, q3, q4⟩ := run_app22 w W o.type v xv B R ys hown hv hl hB hb hu
  refine wpList_plain hg fun K hK => ?_
  unfold Oper.wp
  rw [run_exec_append a.eval o ho hs hx q1]
  exact hK _ _ (h v' w' q2 q3 q4)
theorem view_owns {w : World} {B n : Nat} {v : Value} {xs : List UInt8} (h : w.ownsRow B 5 1 v n (xs.map byteV)) : ViewAt 1 w v xs.length (xs.map byteV) := by
  have hl : n = xs.length := by have := h.1; simpa using this.symm
  subst hl
  have h0 := h
  obtain ⟨h1, ⟨rfl, hz⟩ | ⟨g, cap, cur, rfl, hb, hg, hc, hm, hs, ht⟩⟩ := h
  · have : xs = [] := List.eq_nil_of_length_eq_zero (by simpa using hz)
    subst this
    exact .inl ⟨rfl, rfl, rfl⟩
  · refine .inr ⟨g, 0, cap, rfl, by simp, fun j u hj => ?_⟩
    rw [Nat.zero_add]
    exact owns_cells h0 j u hj
theorem owns_apart {w w' : World} {B n size : Nat} {e : TypeId} {v : Value} {xs : List Value} {row : Option Nat} (h : w.ownsRow B e size v n xs) (hg : w.grownBy w' row) (hrow : ∀ k, row = some k → k < B) : w'.ownsRow B e size v n xs := by
  refine ⟨h.1, ?_⟩
  rcases h.2 with h2 | ⟨g, cap, cur, hv, hb, hg2, r⟩
  · exact .inl h2
  · exact .inr ⟨g, cap, cur, hv, hb, (hg.block g (lt_of_heap hg2) (fun q => by have := hrow g q.symm; omega)).trans hg2, r⟩
theorem owns_lt2 {w : World} {B n size : Nat} {e : TypeId} {v : Value} {xs : List Value} (h : w.ownsRow B e size v n xs) : ∀ k, v.ownBlock = some k → k < w.heap.size := by
  intro k hk
  obtain ⟨_, ⟨rfl, q⟩ | ⟨g, cap, cur, rfl, hb, hg, _⟩⟩ := h
  · cases hk
  · cases hk; exact lt_of_heap hg
theorem two60v (n : Nat) (hn : n < 256) (w : World) : Calls Tryz.prog 60 #[.int .i64 n] w fun e w' => e = .returned (.slice (some ⟨w.heap.size, 0, none⟩) 2 2) ∧ ViewAt 1 w' (.slice (some ⟨w.heap.size, 0, none⟩) 2 2) (lenB n).length ((lenB n).map byteV) ∧ Upd [] w w' := by
  refine (two60 n hn w).mono ?_
  rintro e w' ⟨rfl, rfl⟩
  refine ⟨rfl, .inr ⟨_, 0, 2, rfl, by simp [lenB], fun j u hj => ?_⟩, Upd.new w _⟩
  have e1 : (lenB n).map byteV = [Value.int .u8 0, Value.int .u8 n] := by
    simp only [lenB, List.map_cons, List.map_nil, byteV]
    have : (UInt8.ofNat n).toNat = n := by simp; omega
    rw [this]
    rfl
  rw [cell_of_heap (heap_alloc_new _ _), Nat.zero_add, List.getElem?_toArray, ← e1]
  exact hj
theorem key61v (k : K) (w : World) : Calls Tryz.prog 61 #[.agg (keyCells k).toArray] w fun e w' => ∃ g c, e = .returned (.slice (some ⟨g, 0, none⟩) 32 c) ∧ ViewAt 1 w' (.slice (some ⟨g, 0, none⟩) 32 c) k.1.length (k.1.map byteV) ∧ Upd [] w w' := by
  refine (key61 k w).mono ?_
  rintro e w' ⟨v, rfl, ho, hu⟩
  have ho2 := view_owns (xs := k.1) (n := 32) ho
  obtain ⟨_, h2 | ⟨g, cap, cur, rfl, hb, hg, _⟩⟩ := ho
  · exact absurd h2.2 (by decide)
  · exact ⟨g, cap, rfl, ho2, hu⟩
/-- The bytes of the accounts below n. -/
def onesRbU (ρ : Rb) (n : Nat) : List One := (List.range n).filterMap fun a => if rkn (ρ (UInt8.ofNat a)) = [] then none else some (UInt8.ofNat a, (ρ (UInt8.ofNat a)).st, rkn (ρ (UInt8.ofNat a)))
theorem onesRbU_all (ρ : Rb) : onesRbU ρ 8 = onesRb ρ := rfl
theorem onesRbU_none (ρ : Rb) (n : Nat) (h : rkn (ρ (UInt8.ofNat n)) = []) : onesRbU ρ (n + 1) = onesRbU ρ n := by
  unfold onesRbU
  rw [List.range_succ, List.filterMap_append]
  simp [h]
theorem onesRbU_some (ρ : Rb) (n : Nat) (h : rkn (ρ (UInt8.ofNat n)) ≠ []) : onesRbU ρ (n + 1) = onesRbU ρ n ++ [(UInt8.ofNat n, (ρ (UInt8.ofNat n)).st, rkn (ρ (UInt8.ofNat n)))] := by
  unfold onesRbU
  rw [List.range_succ, List.filterMap_append]
  simp [h]
theorem onesRbU_len (ρ : Rb) (n : Nat) : (onesRbU ρ n).length ≤ n := by
  unfold onesRbU
  exact Nat.le_trans (List.length_filterMap_le _ _) (by simp)
theorem onesRbU_bytes (ρ : Rb) (n : Nat) : (onesB (onesRbU ρ n)).length ≤ n * 136 := by
  refine Nat.le_trans (onesB_len _ ?_) (Nat.mul_le_mul_right _ (onesRbU_len ρ n))
  intro x hx
  unfold onesRbU at hx
  rw [List.mem_filterMap] at hx
  obtain ⟨a, _, ha⟩ := hx
  split at ha
  · cases ha
  · cases ha
    exact rknU_len _ 4
theorem onesB_snoc (l : List One) (x : One) : onesB (l ++ [x]) = onesB l ++ oneB x := by simp [onesB]
/-- The bytes that are out when d devices of an account are through. -/
def oneU (ρ : Rb) (a d : Nat) : List UInt8 := onesB (onesRbU ρ a) ++ ([UInt8.ofNat a, (ρ (UInt8.ofNat a)).st] ++ lenB (rkn (ρ (UInt8.ofNat a))).length ++ knsB (rknU (ρ (UInt8.ofNat a)) d))
theorem oneU_all (ρ : Rb) (a : Nat) (h : rkn (ρ (UInt8.ofNat a)) ≠ []) : oneU ρ a 4 = onesB (onesRbU ρ (a + 1)) := by
  rw [onesRbU_some ρ a h, onesB_snoc]
  rfl
theorem oneU_len (ρ : Rb) (a d : Nat) (ha : a < 8) (hd : d ≤ 4) : (oneU ρ a d).length ≤ 2000 := by
  unfold oneU
  have h1 := onesRbU_bytes ρ a
  have h2 := rknU_len (ρ (UInt8.ofNat a)) d
  simp only [List.length_append, knsB_len, List.length_cons, List.length_nil, lenB]
  omega
theorem oneU_not (ρ : Rb) (a d : Nat) (hd : d < 4) (h : (ρ (UInt8.ofNat a)).hs[d]'(by rw [(ρ (UInt8.ofNat a)).hh]; exact hd) = false) : oneU ρ a (d + 1) = oneU ρ a d := by
  unfold oneU
  rw [rknU_succ _ d hd, h]
  simp
theorem oneU_has (ρ : Rb) (a d : Nat) (hd : d < 4) (h : (ρ (UInt8.ofNat a)).hs[d]'(by rw [(ρ (UInt8.ofNat a)).hh]; exact hd) = true) :
    oneU ρ a (d + 1) = oneU ρ a d ++ [UInt8.ofNat d] ++ ((ρ (UInt8.ofNat a)).ks[d]'(by rw [(ρ (UInt8.ofNat a)).hk]; exact hd)).1 := by
  unfold oneU
  rw [rknU_succ _ d hd, h]
  simp [knsB, knB]
/-- The bytes that are out when n keys of the own ones are. -/
def ownU (acct : UInt8) (S : List K) (n : Nat) : List UInt8 := [acct] ++ lenB S.length ++ keysB (S.take n)
theorem ownU_succ (acct : UInt8) (S : List K) (n : Nat) (h : n < S.length) : ownU acct S (n + 1) = ownU acct S n ++ S[n].1 := by
  have e : S.take (n + 1) = S.take n ++ [S[n]] := (List.take_append_getElem h).symm
  unfold ownU
  rw [e]
  simp only [keysB, List.flatMap_append, List.flatMap_cons, List.flatMap_nil, List.append_nil, List.append_assoc]
theorem ownU_len (acct : UInt8) (S : List K) (n : Nat) (hS : S.length ≤ 4) : (ownU acct S n).length ≤ 200 := by
  unfold ownU
  simp only [List.length_append, keysB_len, List.length_cons, List.length_nil, lenB, List.length_take]
  omega
theorem refB_eq3 (acct : UInt8) (own : List K) (ρ : Rb) : refB acct own ρ = ownU acct (setF own) (setF own).length ++ lenB (onesRb ρ).length ++ onesB (onesRb ρ) := by
  unfold refB ownU
  rw [List.take_of_length_le (Nat.le_refl _)]
  simp
end Go.Proofs.YtdbceafejbnebaaGreatDoor
/-! The document's bytes of a book. -/
namespace Go.Proofs.YtdbceafejbnebaaGreatDoor
open Go Go.RowKit
theorem RefAt.acct {w : World} {g : Nat} {acct : UInt8} {ov : Value} {ρ : Rb} (h : RefAt w g acct ov ρ) : w.cell? ⟨g, 0, none⟩ = some (.int .u8 (acct.toNat : Int)) := cell_of_heap h 0
theorem RefAt.own {w : World} {g : Nat} {acct : UInt8} {ov : Value} {ρ : Rb} (h : RefAt w g acct ov ρ) : w.cell? ⟨g, 1, none⟩ = some ov := cell_of_heap h 1
set_option maxHeartbeats 1000000 in
set_option maxRecDepth 100000 in
theorem rbytes34 {w : World} {g go cap : Nat} {acct : UInt8} {own : List K} {ρ : Rb} (hr : RefAt w g acct (.slice (some ⟨go, 0, none⟩) own.length cap) ρ)
    (hx : ∀ j u, (own.flatMap keyCells)[j]? = some u → w.cell? ⟨go, 0 + j, none⟩ = some u) (hl : own.length ≤ 4) :
    Calls Tryz.prog 34 #[.pointer (some ⟨g, 0, none⟩)] w fun e w' => ∃ v, e = .returned v ∧ w'.ownsRow w.heap.size 5 1 v (refB acct own ρ).length ((refB acct own ρ).map byteV) ∧ Upd [] w w' := by
  obtain ⟨i0, hi0, hz0, hz1, hz2⟩ := info_parts Tryz.info5
  have c59 := rset59 go 0 cap own hx (by omega)
  rw [rsetF_eq] at c59
  have hsl : (setF own).length ≤ 4 := Nat.le_trans (setF_len own) hl
  have e1 := hr.own
  have HR := Lib.hid (show _ ∧ _ from ⟨hr, hsl⟩)
  clear hr hx hl hsl
  go_enter Tryz.func34, Tryz.ntmps34
  go_upto_region 2 with (go_at_call 59; refine c59.mono ?_; clear c59; rintro e w1 ⟨v, rfl, ho1, hu1⟩)
  obtain ⟨va, vn, vc, rfl⟩ := owns_isSl ho1
  have hvn : vn = (setF own).length := by
    rcases ho1.2 with ⟨h1, h2⟩ | ⟨g', c', cur, h1, _⟩
    · cases h1; exact h2.symm
    · cases h1; rfl
  subst hvn
  have H1 := Lib.hid (show _ ∧ RefAt w1 g acct (.slice (some ⟨go, 0, none⟩) own.length cap) ρ ∧ (setF own).length < 256 from ⟨(⟨ho1, hu1⟩ : _ ∧ _), HR.out.1.upd hu1 (by simp), by have := HR.out.2; omega⟩)
  clear ho1 hu1 e1
  go_cut [4] from 16 to 24 (fun s4 we => IsSl s4 ∧ Hid (we.ownsRow w1.heap.size 5 1 s4 (ownU acct (setF own) 0).length ((ownU acct (setF own) 0).map byteV) ∧ Upd [] w1 we))
  case first =>
    refine region_E (Upd [] w1) (fun _ => false) (by kernel_rfl) ?_
    have s0 : Upd [] w1 w1.drew := (Upd.refl [] w1).drew
    refine takeE 0 (some 16) (.pointer (some ⟨g, 0, none⟩)) rfl rfl (by kernel_rfl) (by kernel_rfl) (by kernel_rfl) (by kernel_rfl) (fun _ _ _ h => h) (by kernel_rfl) (fun w' hw' => by go_simp) s0 ?_
    simp only [Act.put, List.setIfInBounds_toArray, List.set_cons_zero, List.set_cons_succ]
    refine takeE 1 (some 17) (.pointer (some ⟨g, 0, none⟩)) rfl rfl (by kernel_rfl) (by kernel_rfl) (by kernel_rfl) (by kernel_rfl) (fun _ _ _ h => h) (by kernel_rfl) (fun w' hw' => by go_simp) s0 ?_
    simp only [Act.put, List.setIfInBounds_toArray, List.set_cons_zero, List.set_cons_succ]
    refine takeE 2 (some 18) (.pointer (some ⟨g, 0, none⟩)) rfl rfl (by kernel_rfl) (by kernel_rfl) (by kernel_rfl) (by kernel_rfl) (fun _ _ _ h => h) (by kernel_rfl) (fun w' hw' => by go_simp) s0 ?_
    simp only [Act.put, List.setIfInBounds_toArray, List.set_cons_zero, List.set_cons_succ]
    refine takeE 3 (some 19) (.int .u8 (acct.toNat : Int)) rfl rfl (by kernel_rfl) (by kernel_rfl) (by kernel_rfl) (by kernel_rfl) (fun _ _ _ h => h) (by kernel_rfl) (fun w' hw' => by have q := (H1.out.2.1.upd hw' (by simp)).acct; go_simp) s0 ?_
    simp only [Act.put, List.setIfInBounds_toArray, List.set_cons_zero, List.set_cons_succ]
    refine takeE 5 (some 21) (.slice va (setF own).length vc) rfl rfl (by kernel_rfl) (by kernel_rfl) (by kernel_rfl) (by kernel_rfl) (fun _ _ _ h => h) (by kernel_rfl) (fun w' hw' => by go_simp) s0 ?_
    simp only [Act.put, List.setIfInBounds_toArray, List.set_cons_zero, List.set_cons_succ]
    refine takeE 6 (some 22) (.int .i64 ((setF own).length : Int)) rfl rfl (by kernel_rfl) (by kernel_rfl) (by kernel_rfl) (by kernel_rfl) (fun _ _ _ h => h) (by kernel_rfl) (fun w' hw' => by go_simp) s0 ?_
    simp only [Act.put, List.setIfInBounds_toArray, List.set_cons_zero, List.set_cons_succ]
    refine twoE 4 7 (by kernel_rfl) ?_ ?_
    · refine runE (some 20) _ _ rfl rfl (by kernel_rfl) (run_exec_slice1 (t := 22) (e := 5) _ _ (x := .tmp 19) rfl (byteV acct) [byteV acct] 1 (by go_simp; rfl) rfl rfl (Lib.hid ⟨by decide, by decide⟩) i0 _ Tryz.underlying22 hi0 hz0 hz1 _) ?_
      have hnb : (w1.drew.alloc (.cells #[byteV acct] 5)).ownsRow w1.heap.size 5 1 (.slice (some ⟨w1.drew.heap.size, 0, none⟩) [acct].length 1) [acct].length ([acct].map byteV) := World.ownsRow_lit _ #[byteV acct] 1 s0.size (by decide) rfl
      have hsb : Upd [] w1 (w1.drew.alloc (.cells #[byteV acct] 5)) := s0.alloc _
      obtain ⟨wa, hwa⟩ : ∃ X, w1.drew.alloc (.cells #[byteV acct] 5) = X := ⟨_, rfl⟩
      rw [hwa] at hnb hsb ⊢
      clear hwa
      refine ⟨fun _ => hsb, ?_⟩
      simp only [Act.put, List.setIfInBounds_toArray, List.set_cons_zero, List.set_cons_succ]
      refine oneE 7 (by kernel_rfl) ?_
      refine callE (some 23) rfl rfl (by kernel_rfl) (f := 60) (args := #[.int .i64 ((setF own).length : Int)]) (by go_simp) (two60v (setF own).length H1.out.2.2 _) ?_
      rintro e w60 ⟨rfl, hv60, hu60⟩
      have hs60 := hsb.trans hu60
      refine ⟨_, rfl, fun _ => hs60, ?_⟩
      simp only [Act.put, List.setIfInBounds_toArray, List.set_cons_zero, List.set_cons_succ]
      refine oneE 8 (by kernel_rfl) ?_
      refine wpOp_app22 (W := w1) (some 24) rfl rfl (by kernel_rfl) (.tmp 20) (.tmp 23) rfl (.slice (some ⟨w1.drew.heap.size, 0, none⟩) 1 1) (.slice (some ⟨wa.heap.size, 0, none⟩) 2 2) (by go_simp) (by go_simp) w1.heap.size [acct] (lenB (setF own).length) (owns_upd hnb hu60 (by simp)) hv60 (by simp [lenB]) (Nat.le_refl _) hs60.size hs60 ?_
      intro v24 w24 ho24 hu24 hg24
      refine ⟨fun _ => hu24, ?_⟩
      simp only [Act.put, List.setIfInBounds_toArray, List.set_cons_zero, List.set_cons_succ]
      refine oneE 9 (by kernel_rfl) ?_
      refine runE (some 4) w24 v24 rfl rfl (by kernel_rfl) (by go_simp) ?_
      refine ⟨fun _ => hu24, ?_⟩
      simp only [Act.put, List.setIfInBounds_toArray, List.set_cons_zero, List.set_cons_succ]
      refine doneE (by kernel_rfl) ?_ _
      have HF := Lib.hid (show _ ∧ _ ∧ _ from ⟨ho24, hu24, owns_isSl ho24⟩)
      clear s0 hnb hsb hv60 hu60 hs60 ho24 hu24 hg24
      go_wp2
      go_meet
      refine ⟨HF.out.2.2, Lib.hid ⟨?_, HF.out.2.1⟩⟩
      have e : ownU acct (setF own) 0 = [acct] ++ lenB (setF own).length := by simp [ownU, keysB]
      rw [e]
      exact HF.out.1
    · refine callE (some 23) rfl rfl (by kernel_rfl) (f := 60) (args := #[.int .i64 ((setF own).length : Int)]) (by go_simp) (two60v (setF own).length H1.out.2.2 _) ?_
      rintro e w60 ⟨rfl, hv60, hu60⟩
      have hs60 := s0.trans hu60
      refine ⟨_, rfl, fun _ => hs60, ?_⟩
      simp only [Act.put, List.setIfInBounds_toArray, List.set_cons_zero, List.set_cons_succ]
      refine oneE 4 (by kernel_rfl) ?_
      refine runE (some 20) _ _ rfl rfl (by kernel_rfl) (run_exec_slice1 (t := 22) (e := 5) _ _ (x := .tmp 19) rfl (byteV acct) [byteV acct] 1 (by go_simp; rfl) rfl rfl (Lib.hid ⟨by decide, by decide⟩) i0 _ Tryz.underlying22 hi0 hz0 hz1 _) ?_
      have hnb : (w60.alloc (.cells #[byteV acct] 5)).ownsRow w1.heap.size 5 1 (.slice (some ⟨w60.heap.size, 0, none⟩) [acct].length 1) [acct].length ([acct].map byteV) := World.ownsRow_lit _ #[byteV acct] 1 hs60.size (by decide) rfl
      have hsb : Upd [] w1 (w60.alloc (.cells #[byteV acct] 5)) := hs60.alloc _
      have hv60b := hv60.upd (Upd.new w60 (.cells #[byteV acct] 5))
      obtain ⟨wa, hwa⟩ : ∃ X, w60.alloc (.cells #[byteV acct] 5) = X := ⟨_, rfl⟩
      rw [hwa] at hnb hsb hv60b ⊢
      clear hwa
      refine ⟨fun _ => hsb, ?_⟩
      simp only [Act.put, List.setIfInBounds_toArray, List.set_cons_zero, List.set_cons_succ]
      refine oneE 8 (by kernel_rfl) ?_
      refine wpOp_app22 (W := w1) (some 24) rfl rfl (by kernel_rfl) (.tmp 20) (.tmp 23) rfl (.slice (some ⟨w60.heap.size, 0, none⟩) 1 1) (.slice (some ⟨w1.drew.heap.size, 0, none⟩) 2 2) (by go_simp) (by go_simp) w1.heap.size [acct] (lenB (setF own).length) hnb hv60b (by simp [lenB]) (Nat.le_refl _) hsb.size hsb ?_
      intro v24 w24 ho24 hu24 hg24
      refine ⟨fun _ => hu24, ?_⟩
      simp only [Act.put, List.setIfInBounds_toArray, List.set_cons_zero, List.set_cons_succ]
      refine oneE 9 (by kernel_rfl) ?_
      refine runE (some 4) w24 v24 rfl rfl (by kernel_rfl) (by go_simp) ?_
      refine ⟨fun _ => hu24, ?_⟩
      simp only [Act.put, List.setIfInBounds_toArray, List.set_cons_zero, List.set_cons_succ]
      refine doneE (by kernel_rfl) ?_ _
      have HF := Lib.hid (show _ ∧ _ ∧ _ from ⟨ho24, hu24, owns_isSl ho24⟩)
      clear s0 hnb hsb hv60 hv60b hu60 hs60 ho24 hu24 hg24
      go_wp2
      go_meet
      refine ⟨HF.out.2.2, Lib.hid ⟨?_, HF.out.2.1⟩⟩
      have e : ownU acct (setF own) 0 = [acct] ++ lenB (setF own).length := by simp [ownU, keysB]
      rw [e]
      exact HF.out.1
  case rest =>
  obtain ⟨⟨oa, on, oc, rfl⟩, hO⟩ := hcut
  obtain ⟨w2, hw2⟩ : ∃ X, wc = X := ⟨_, rfl⟩
  rw [hw2] at hO ⊢
  clear hw2
  go_upto_block 0 with fail
  go_cut [4] from 5 to 37 (fun s4 we => IsSl s4 ∧ Hid (we.ownsRow w1.heap.size 5 1 s4 (ownU acct (setF own) (setF own).length).length ((ownU acct (setF own) (setF own).length).map byteV) ∧ Upd [] w1 we))
  case first =>
    go_wp2_with fail
    go_loopw [5, 4] (fun i s4 wr => ∃ k : Nat, i = .int .i64 (k : Int) ∧ k ≤ (setF own).length ∧ IsSl s4 ∧ Hid (wr.ownsRow w1.heap.size 5 1 s4 (ownU acct (setF own) k).length ((ownU acct (setF own) k).map byteV) ∧ Upd [] w1 wr)) (fun i _ _ => (setF own).length - (intOf i).toNat)
    case atStart => exact ⟨0, rfl, by omega, ⟨oa, on, oc, rfl⟩, hO⟩
    case round =>
      obtain ⟨wz, hwz⟩ : ∃ wz, wz = wr := ⟨_, rfl⟩
      rw [← hwz] at hrel ⊢
      clear hwz
      obtain ⟨k, rfl, hk, ⟨ra, rn, rc, rfl⟩, hR⟩ := hrel
      by_cases hlt : k < (setF own).length
      · have hltI : (k : Int) < ((setF own).length : Int) := by omega
        have hk0 : (0 : Int) ≤ (k : Int) := by omega
        obtain ⟨gS, cS, hv, hrr⟩ := owns_range (owns_upd H1.out.1.1 hR.out.2 (by simp)) k hlt
        cases hv
        obtain ⟨y, hyr, hy⟩ : ∃ y, wz.rangeAt gS (k * 32) (keyCells y) ∧ ownU acct (setF own) (k + 1) = ownU acct (setF own) k ++ y.1 := ⟨_, hrr, ownU_succ acct _ k hlt⟩
        have z0 : IntKind.i64.wrap ((k : Int) + 1) = (k : Int) + 1 := IntWalk.i64_in _ (by have := HR.out.2; omega)
        have c61 := key61v y wz
        have HY := Lib.hid (show _ ∧ _ ∧ _ from ⟨hyr, hy, hlt⟩)
        clear hyr hy hrr hlt hk
        go_wp2_with (first
          | (refine wpList_load_mid rfl 31 _ rfl gS (k * 32) rfl (keyCells y) _ HY.out.1 Tryz.underlying31 rfl (hu31 _) ?_)
          | (go_at_call 61; refine c61.mono ?_; clear c61; rintro e w61 ⟨g61, c61, rfl, hv61, hu61⟩; have H61 := Lib.hid (show _ ∧ _ from ⟨hv61, hu61⟩); clear hv61 hu61)
          | (at_builtin; refine wpList_app22 (W := w1) rfl (.tmp 31) (.tmp 36) rfl (.slice ra rn rc) (.slice (some ⟨g61, 0, none⟩) 32 c61) rfl rfl w1.heap.size (ownU acct (setF own) k) y.1 (owns_upd hR.out.1 H61.out.2 (by simp)) H61.out.1 (by have := ownU_len acct (setF own) k HR.out.2; have := y.2; omega) (Nat.le_refl _) (hR.out.2.trans H61.out.2).size (hR.out.2.trans H61.out.2) ?_; intro v37 w37 ho37 hu37 hg37; have hsl37 := owns_isSl ho37; have H37 := Lib.hid (show _ ∧ _ from ⟨ho37, hu37⟩); clear ho37 hu37 hg37))
        refine ⟨⟨k + 1, by simp, by have := HY.out.2.2; omega, hsl37, Lib.hid ⟨?_, H37.out.2⟩⟩, by simp [intOf]; have := HY.out.2.2; omega⟩
        rw [HY.out.2.1]
        exact H37.out.1
      · obtain rfl : k = (setF own).length := by omega
        clear hlt hk
        go_wp2
        go_meet
        exact ⟨⟨ra, rn, rc, rfl⟩, hR⟩
  case rest =>
  clear hO
  obtain ⟨⟨pa, pn, pc, rfl⟩, hP⟩ := hcut
  obtain ⟨w3, hw3⟩ : ∃ X, wc = X := ⟨_, rfl⟩
  rw [hw3] at hP ⊢
  clear hw3
  have hRz : RefAt w3 g acct (.slice (some ⟨go, 0, none⟩) own.length cap) ρ := H1.out.2.1.upd hP.out.2 (by simp)
  have HP := Lib.hid (show _ ∧ _ from ⟨hP.out, hRz⟩)
  clear hP hRz
  go_wp2
  go_loopw [8, 7, 6] (fun s8 s7 s6 wr => ∃ k : Nat, s8 = .int .i64 (k : Int) ∧ k ≤ 8 ∧ s7 = .int .i64 ((onesRbU ρ k).length : Int) ∧ IsSl s6 ∧ Hid (wr.ownsRow w3.heap.size 5 1 s6 (onesB (onesRbU ρ k)).length ((onesB (onesRbU ρ k)).map byteV) ∧ Upd [] w3 wr)) (fun s8 _ _ _ => 8 - (intOf s8).toNat)
  case atStart => exact ⟨0, rfl, by omega, rfl, ⟨none, 0, 0, rfl⟩, Lib.hid ⟨World.ownsRow_nil w3 _ 5 1, Upd.refl _ _⟩⟩
  case round =>
    obtain ⟨wz, hwz⟩ : ∃ wz, wz = wr := ⟨_, rfl⟩
    rw [← hwz] at hrel ⊢
    clear hwz
    obtain ⟨k, rfl, hk, rfl, ⟨ra, rn, rc, rfl⟩, hR⟩ := hrel
    by_cases hlt : k < 8
    · have hltI : (k : Int) < 8 := by omega
      have hk0 : (0 : Int) ≤ (k : Int) := by omega
      have hB : RefAt wz g acct (.slice (some ⟨go, 0, none⟩) own.length cap) ρ := HP.out.2.upd hR.out.2 (by simp)
      have hkn : (UInt8.ofNat k).toNat = k := by simp; omega
      have c62 := rmany62 hB (UInt8.ofNat k)
      rw [if_pos (by omega)] at c62
      have ek : byteV (UInt8.ofNat k) = .int .u8 (k : Int) := by unfold byteV; rw [hkn]
      rw [ek] at c62
      have hl := onesRbU_len ρ k
      have z0 : IntKind.i64.wrap ((k : Int) + 1) = (k : Int) + 1 := IntWalk.i64_in _ (by omega)
      have z1 : IntKind.u8.wrap (k : Int) = (k : Int) := IntWalk.u8_in _ (by omega)
      have z2 : IntKind.i64.wrap (((onesRbU ρ k).length : Int) + 1) = ((onesRbU ρ k).length : Int) + 1 := IntWalk.i64_in _ (by omega)
      obtain ⟨n, hn⟩ : ∃ n, n = (rkn (ρ (UInt8.ofNat k))).length := ⟨_, rfl⟩
      rw [← hn] at c62
      have HB := Lib.hid (show _ ∧ _ ∧ _ ∧ _ from ⟨hB, hkn, hlt, hn⟩)
      clear hB hkn hl hn ek hlt hk
      by_cases hz : n = 0
      · have hz2 : ((n : Int) == 0) = true := by simp [hz]
        have HZ := Lib.hid hz
        clear hz
        go_wp2_with (go_at_call 62; refine c62.mono ?_; clear c62; rintro e w62 ⟨rfl, hw62⟩; rw [hw62]; clear hw62)
        go_roundw
        case rel =>
          have e := onesRbU_none ρ k (List.eq_nil_of_length_eq_zero (by rw [← HB.out.2.2.2]; exact HZ.out))
          refine ⟨k + 1, by simp, by have := HB.out.2.2.1; omega, by rw [e], ⟨ra, rn, rc, rfl⟩, Lib.hid ?_⟩
          rw [e]
          exact hR.out
        case measure => simp [intOf]; have := HB.out.2.2.1; omega
      · have hz2 : ((n : Int) == 0) = false := by simp [hz]
        have HZ := Lib.hid (show rkn (ρ (UInt8.ofNat k)) ≠ [] from fun q => hz (by rw [HB.out.2.2.2, q]; rfl))
        have hst := HB.out.1.state (UInt8.ofNat k) (by have := HB.out.2.1; have := HB.out.2.2.1; omega)
        obtain ⟨st, hste⟩ : ∃ st, st = (ρ (UInt8.ofNat k)).st := ⟨_, rfl⟩
        rw [HB.out.2.1, ← hste] at hst
        unfold byteV at hst
        have hnl : n ≤ 4 := by rw [HB.out.2.2.2]; exact rknU_len _ 4
        have HS := Lib.hid (show _ ∧ _ from ⟨hste, hnl⟩)
        clear hz hste hnl
        have hlit : ∀ W : World, ViewAt 1 (W.alloc (.cells #[.int .u8 (k : Int), .int .u8 (st.toNat : Int)] 5)) (.slice (some ⟨W.heap.size, 0, none⟩) 2 2) [UInt8.ofNat k, st].length ([UInt8.ofNat k, st].map byteV) := by
          intro W
          refine .inr ⟨_, 0, 2, rfl, rfl, fun j u hj => ?_⟩
          have e : [UInt8.ofNat k, st].map byteV = [Value.int .u8 (k : Int), Value.int .u8 (st.toNat : Int)] := by
            simp only [List.map_cons, List.map_nil, byteV, HB.out.2.1]
          rw [cell_of_heap (heap_alloc_new _ _), Nat.zero_add, List.getElem?_toArray, ← e]
          exact hj
        have HL := Lib.hid hlit
        have hua := Upd.new wz (.cells #[.int .u8 (k : Int), .int .u8 (st.toNat : Int)] 5)
        have HA := Lib.hid (show _ ∧ _ ∧ _ from ⟨owns_upd hR.out.1 hua (by simp), hR.out.2.trans hua, onesRbU_bytes ρ k⟩)
        clear hlit hua
        go_wp2_with (first
          | (go_at_call 62; refine c62.mono ?_; clear c62; rintro e w62 ⟨rfl, hw62⟩; rw [hw62]; clear hw62)
          | (go_at_call 60; refine (two60v n (by have := HS.out.2; omega) _).mono ?_; rintro e w60 ⟨rfl, hv60, hu60⟩; have H60 := Lib.hid (show _ ∧ _ from ⟨hv60, hu60⟩); clear hv60 hu60)
          | (at_builtin; refine wpList_app22 (W := w3) rfl (.tmp 50) (.tmp 60) rfl (.slice ra rn rc) (.slice (some ⟨wz.heap.size, 0, none⟩) 2 2) rfl rfl w3.heap.size (onesB (onesRbU ρ k)) [UInt8.ofNat k, st] HA.out.1 (HL.out _) (by have := HA.out.2.2; have := HB.out.2.2.1; simp; omega) (Nat.le_refl _) HA.out.2.1.size HA.out.2.1 ?_; intro v61 w61 ho61 hu61 hg61; have H61 := Lib.hid (show _ ∧ _ from ⟨ho61, hu61⟩); clear ho61 hu61 hg61)
          | (at_builtin; refine wpList_app22 (W := w3) rfl (.tmp 61) (.tmp 63) rfl v61 (.slice (some ⟨w61.heap.size, 0, none⟩) 2 2) rfl rfl w3.heap.size (onesB (onesRbU ρ k) ++ [UInt8.ofNat k, st]) (lenB n) (owns_upd H61.out.1 H60.out.2 (by simp)) H60.out.1 (by have := HA.out.2.2; have := HB.out.2.2.1; simp [lenB]; omega) (Nat.le_refl _) (H61.out.2.trans H60.out.2).size (H61.out.2.trans H60.out.2) ?_; intro v64 w64 ho64 hu64 hg64; have hs64 := owns_isSl ho64; have H64 := Lib.hid (show _ ∧ _ from ⟨ho64, hu64⟩); clear ho64 hu64 hg64))
        clear hst
        obtain ⟨qa, qn, qc, rfl⟩ := hs64
        go_loopw [10, 6] (fun s10 s6 wr => ∃ d : Nat, s10 = .int .i64 (d : Int) ∧ d ≤ 4 ∧ IsSl s6 ∧ Hid (wr.ownsRow w3.heap.size 5 1 s6 (oneU ρ k d).length ((oneU ρ k d).map byteV) ∧ Upd [] w3 wr)) (fun s10 _ _ => 4 - (intOf s10).toNat)
        case atStart =>
          refine ⟨0, rfl, by omega, ⟨qa, qn, qc, rfl⟩, Lib.hid ⟨?_, H64.out.2⟩⟩
          have e : oneU ρ k 0 = onesB (onesRbU ρ k) ++ [UInt8.ofNat k, st] ++ lenB n := by
            unfold oneU
            rw [← HS.out.1, ← HB.out.2.2.2]
            simp [knsB, rknU]
          rw [e]
          exact H64.out.1
        case round =>
          obtain ⟨wy, hwy⟩ : ∃ wy, wy = wr := ⟨_, rfl⟩
          rw [← hwy] at hrel ⊢
          clear hwy
          obtain ⟨d, rfl, hd, ⟨ta, tn, tc, rfl⟩, hT⟩ := hrel
          by_cases hdl : d < 4
          · have hdI : (d : Int) < 4 := by omega
            have hd0 : (0 : Int) ≤ (d : Int) := by omega
            have hBy : RefAt wy g acct (.slice (some ⟨go, 0, none⟩) own.length cap) ρ := HP.out.2.upd hT.out.2 (by simp)
            have hk8 : (UInt8.ofNat k).toNat < 8 := by have := HB.out.2.1; have := HB.out.2.2.1; omega
            have d1 := hBy.has (UInt8.ofNat k) hk8 d hdl
            have d2 := HP.out.2.key (UInt8.ofNat k) hk8 d hdl
            rw [HB.out.2.1] at d1 d2
            rw [← Nat.add_assoc (2 + k * 133)] at d2
            obtain ⟨b, hb⟩ : ∃ b, (ρ (UInt8.ofNat k)).hs[d]'(by rw [(ρ (UInt8.ofNat k)).hh]; exact hdl) = b := ⟨_, rfl⟩
            rw [hb] at d1
            have z3 : IntKind.i64.wrap ((d : Int) + 1) = (d : Int) + 1 := IntWalk.i64_in _ (by omega)
            have z4 : IntKind.u8.wrap (d : Int) = (d : Int) := IntWalk.u8_in _ (by omega)
            cases b with
            | false =>
              have HD := Lib.hid (show _ ∧ _ from ⟨oneU_not ρ k d hdl hb, hdl⟩)
              clear d2 hb hBy hk8 hdl hd
              go_wp2
              go_roundw
              case rel =>
                refine ⟨d + 1, by simp, by have := HD.out.2; omega, ⟨ta, tn, tc, rfl⟩, Lib.hid ?_⟩
                rw [HD.out.1]
                exact hT.out
              case measure => simp [intOf]; have := HD.out.2; omega
            | true =>
              obtain ⟨y, hyr, hy⟩ : ∃ y : K, w3.rangeAt g (2 + k * 133 + 4 + d * 32) (keyCells y) ∧ oneU ρ k (d + 1) = oneU ρ k d ++ [UInt8.ofNat d] ++ y.1 := ⟨_, d2, oneU_has ρ k d hdl hb⟩
              have hdn : byteV (UInt8.ofNat d) = .int .u8 (d : Int) := by
                have : (UInt8.ofNat d).toNat = d := by simp; omega
                unfold byteV
                rw [this]
              have HD := Lib.hid (show _ ∧ _ ∧ _ ∧ _ ∧ _ from ⟨hyr, hy, hdl, oneU_len ρ k d HB.out.2.2.1 hd, hdn⟩)
              clear d2 hb hBy hk8 hdl hd hyr hy hdn
              go_upto_region 20 with fail
              refine region_E (Upd [] w3) (fun _ => false) (by kernel_rfl) ?_
              have s0 : Upd [] w3 wy.drew := hT.out.2.drew
              clear d1
              refine takeE 0 (some 78) (.slice ta tn tc) rfl rfl (by kernel_rfl) (by kernel_rfl) (by kernel_rfl) (by kernel_rfl) (fun _ _ _ h => h) (by kernel_rfl) (fun w' hw' => by go_simp) s0 ?_
              simp only [Act.put, List.setIfInBounds_toArray, List.set_cons_zero, List.set_cons_succ]
              refine takeE 1 (some 79) (.int .i64 (d : Int)) rfl rfl (by kernel_rfl) (by kernel_rfl) (by kernel_rfl) (by kernel_rfl) (fun _ _ _ h => h) (by kernel_rfl) (fun w' hw' => by go_simp) s0 ?_
              simp only [Act.put, List.setIfInBounds_toArray, List.set_cons_zero, List.set_cons_succ]
              refine takeE 2 (some 80) (.int .u8 (d : Int)) rfl rfl (by kernel_rfl) (by kernel_rfl) (by kernel_rfl) (by kernel_rfl) (fun _ _ _ h => h) (by kernel_rfl) (fun w' hw' => by go_simp) s0 ?_
              simp only [Act.put, List.setIfInBounds_toArray, List.set_cons_zero, List.set_cons_succ]
              refine takeE 5 (some 83) (.pointer (some ⟨g, 0, none⟩)) rfl rfl (by kernel_rfl) (by kernel_rfl) (by kernel_rfl) (by kernel_rfl) (fun _ _ _ h => h) (by kernel_rfl) (fun w' hw' => by go_simp) s0 ?_
              simp only [Act.put, List.setIfInBounds_toArray, List.set_cons_zero, List.set_cons_succ]
              refine takeE 6 (some 84) (.int .i64 (k : Int)) rfl rfl (by kernel_rfl) (by kernel_rfl) (by kernel_rfl) (by kernel_rfl) (fun _ _ _ h => h) (by kernel_rfl) (fun w' hw' => by go_simp) s0 ?_
              simp only [Act.put, List.setIfInBounds_toArray, List.set_cons_zero, List.set_cons_succ]
              refine takeE 7 (some 85) (.int .i64 (d : Int)) rfl rfl (by kernel_rfl) (by kernel_rfl) (by kernel_rfl) (by kernel_rfl) (fun _ _ _ h => h) (by kernel_rfl) (fun w' hw' => by go_simp) s0 ?_
              simp only [Act.put, List.setIfInBounds_toArray, List.set_cons_zero, List.set_cons_succ]
              refine takeE 8 (some 86) (.pointer (some ⟨g, 0, none⟩)) rfl rfl (by kernel_rfl) (by kernel_rfl) (by kernel_rfl) (by kernel_rfl) (fun _ _ _ h => h) (by kernel_rfl) (fun w' hw' => by go_simp) s0 ?_
              simp only [Act.put, List.setIfInBounds_toArray, List.set_cons_zero, List.set_cons_succ]
              refine takeE 9 (some 87) (.pointer (some ⟨g, 2, none⟩)) rfl rfl (by kernel_rfl) (by kernel_rfl) (by kernel_rfl) (by kernel_rfl) (fun _ _ _ h => h) (by kernel_rfl) (fun w' hw' => by go_simp) s0 ?_
              simp only [Act.put, List.setIfInBounds_toArray, List.set_cons_zero, List.set_cons_succ]
              refine takeE 10 (some 88) (.pointer (some ⟨g, 2 + k * 133, none⟩)) rfl rfl (by kernel_rfl) (by kernel_rfl) (by kernel_rfl) (by kernel_rfl) (fun _ _ _ h => h) (by kernel_rfl) (fun w' hw' => by go_simp) s0 ?_
              simp only [Act.put, List.setIfInBounds_toArray, List.set_cons_zero, List.set_cons_succ]
              refine takeE 11 (some 89) (.pointer (some ⟨g, 2 + k * 133 + 4, none⟩)) rfl rfl (by kernel_rfl) (by kernel_rfl) (by kernel_rfl) (by kernel_rfl) (fun _ _ _ h => h) (by kernel_rfl) (fun w' hw' => by go_simp) s0 ?_
              simp only [Act.put, List.setIfInBounds_toArray, List.set_cons_zero, List.set_cons_succ]
              refine takeE 12 (some 90) (.pointer (some ⟨g, 2 + k * 133 + 4 + d * 32, none⟩)) rfl rfl (by kernel_rfl) (by kernel_rfl) (by kernel_rfl) (by kernel_rfl) (fun _ _ _ h => h) (by kernel_rfl) (fun w' hw' => by go_simp) s0 ?_
              simp only [Act.put, List.setIfInBounds_toArray, List.set_cons_zero, List.set_cons_succ]
              refine takeE 13 (some 91) (.agg (keyCells y).toArray) rfl rfl (by kernel_rfl) (by kernel_rfl) (by kernel_rfl) (by kernel_rfl) (fun _ _ _ h => h) (by kernel_rfl) (fun w' hw' => load31 (x := .tmp 90) rfl (by go_simp) (rangeAt_keep HD.out.1 hw')) s0 ?_
              simp only [Act.put, List.setIfInBounds_toArray, List.set_cons_zero, List.set_cons_succ]
              refine oneE 3 (by kernel_rfl) ?_
              refine runE (some 81) _ _ rfl rfl (by kernel_rfl) (run_exec_slice1 (t := 22) (e := 5) _ _ (x := .tmp 80) rfl (.int .u8 (d : Int)) [.int .u8 (d : Int)] 1 (by go_simp) rfl rfl (Lib.hid ⟨by decide, by decide⟩) i0 _ Tryz.underlying22 hi0 hz0 hz1 _) ?_
              have hv81 : ViewAt 1 (wy.drew.alloc (.cells #[.int .u8 (d : Int)] 5)) (.slice (some ⟨wy.drew.heap.size, 0, none⟩) 1 1) [UInt8.ofNat d].length ([UInt8.ofNat d].map byteV) := by
                refine .inr ⟨_, 0, 1, rfl, rfl, fun j u hj => ?_⟩
                rw [cell_of_heap (heap_alloc_new _ _), Nat.zero_add, List.getElem?_toArray]
                simp only [List.map_cons, List.map_nil, HD.out.2.2.2.2] at hj
                exact hj
              have hs1 : Upd [] wy (wy.drew.alloc (.cells #[.int .u8 (d : Int)] 5)) := ((Upd.refl [] wy).drew).alloc _
              obtain ⟨wa, hwa⟩ : ∃ X, wy.drew.alloc (.cells #[.int .u8 (d : Int)] 5) = X := ⟨_, rfl⟩
              rw [show ([Value.int .u8 (d : Int)].toArray) = #[.int .u8 (d : Int)] from rfl, hwa]
              rw [hwa] at hv81 hs1
              clear hwa
              refine ⟨fun _ => hT.out.2.trans hs1, ?_⟩
              simp only [Act.put, List.setIfInBounds_toArray, List.set_cons_zero, List.set_cons_succ]
              refine oneE 4 (by kernel_rfl) ?_
              refine wpOp_app22 (W := w3) (some 82) rfl rfl (by kernel_rfl) (.tmp 78) (.tmp 81) rfl (.slice ta tn tc) (.slice (some ⟨wy.drew.heap.size, 0, none⟩) 1 1) (by go_simp) (by go_simp) w3.heap.size (oneU ρ k d) [UInt8.ofNat d] (owns_upd hT.out.1 hs1 (by simp)) hv81 (by have := HD.out.2.2.2.1; simp; omega) (Nat.le_refl _) (hT.out.2.trans hs1).size (hT.out.2.trans hs1) ?_
              intro v82 w82 ho82 hu82 hg82
              refine ⟨fun _ => hu82, ?_⟩
              simp only [Act.put, List.setIfInBounds_toArray, List.set_cons_zero, List.set_cons_succ]
              refine oneE 14 (by kernel_rfl) ?_
              refine callE (some 92) rfl rfl (by kernel_rfl) (f := 61) (args := #[.agg (keyCells y).toArray]) (by go_simp) (key61v y _) ?_
              rintro e w92 ⟨g92, c92, rfl, hv92, hu92⟩
              refine ⟨_, rfl, fun _ => hu82.trans hu92, ?_⟩
              simp only [Act.put, List.setIfInBounds_toArray, List.set_cons_zero, List.set_cons_succ]
              refine oneE 15 (by kernel_rfl) ?_
              refine wpOp_app22 (W := w3) (some 93) rfl rfl (by kernel_rfl) (.tmp 82) (.tmp 92) rfl v82 (.slice (some ⟨g92, 0, none⟩) 32 c92) (by go_simp) (by go_simp) w3.heap.size (oneU ρ k d ++ [UInt8.ofNat d]) y.1 (owns_upd ho82 hu92 (by simp)) hv92 (by have := HD.out.2.2.2.1; have := y.2; simp; omega) (Nat.le_refl _) (hu82.trans hu92).size (hu82.trans hu92) ?_
              intro v93 w93 ho93 hu93 hg93
              refine ⟨fun _ => hu93, ?_⟩
              simp only [Act.put, List.setIfInBounds_toArray, List.set_cons_zero, List.set_cons_succ]
              refine oneE 16 (by kernel_rfl) ?_
              refine runE (some 6) w93 v93 rfl rfl (by kernel_rfl) (by go_simp) ?_
              refine ⟨fun _ => hu93, ?_⟩
              simp only [Act.put, List.setIfInBounds_toArray, List.set_cons_zero, List.set_cons_succ]
              refine doneE (by kernel_rfl) ?_ _
              have HF := Lib.hid (show _ ∧ _ ∧ _ from ⟨ho93, hu93, owns_isSl ho93⟩)
              clear s0 hv81 hs1 ho82 hu82 hg82 hv92 hu92 ho93 hu93 hg93
              obtain ⟨fa, fn, fc, hf⟩ := HF.out.2.2
              subst hf
              go_wp2
              go_roundw
              case rel =>
                refine ⟨d + 1, by simp, by have := HD.out.2.2.1; omega, ⟨fa, fn, fc, rfl⟩, Lib.hid ⟨?_, HF.out.2.1⟩⟩
                rw [HD.out.2.1]
                exact HF.out.1
              case measure => simp [intOf]; have := HD.out.2.2.1; omega
          · obtain rfl : d = 4 := by omega
            clear hdl hd
            go_wp2
            go_roundw
            case rel =>
              have e := oneU_all ρ k HZ.out
              refine ⟨k + 1, by simp, by have := HB.out.2.2.1; omega, ?_, ⟨ta, tn, tc, rfl⟩, Lib.hid ?_⟩
              · rw [onesRbU_some ρ k HZ.out, List.length_append]
                simp
              · rw [← e]
                exact hT.out
            case measure => simp [intOf]; have := HB.out.2.2.1; omega
    · obtain rfl : k = 8 := by omega
      clear hlt hk
      have HQ := Lib.hid (show _ ∧ _ ∧ _ from ⟨owns_upd HP.out.1.1 hR.out.2 (by simp), HP.out.1.2.trans hR.out.2, ownU_len acct _ (setF own).length HR.out.2⟩)
      have hml := onesRbU_len ρ 8
      obtain ⟨m, hm⟩ : ∃ m, m = (onesRbU ρ 8).length := ⟨_, rfl⟩
      rw [← hm] at hml ⊢
      have HM := Lib.hid (show _ ∧ _ ∧ _ from ⟨hm, hml, onesRbU_bytes ρ 8⟩)
      clear hm hml
      go_wp2_with (first
        | (go_at_call 60; refine (two60v m (by have := HM.out.2; omega) _).mono ?_; rintro e w60 ⟨rfl, hv60, hu60⟩; have H60 := Lib.hid (show _ ∧ _ from ⟨hv60, hu60⟩); clear hv60 hu60)
        | (at_builtin; refine wpList_app22 (W := w1) rfl (.tmp 94) (.tmp 96) rfl (.slice pa pn pc) (.slice (some ⟨wz.heap.size, 0, none⟩) 2 2) rfl rfl w1.heap.size (ownU acct (setF own) (setF own).length) (lenB m) (owns_upd HQ.out.1 H60.out.2 (by simp)) H60.out.1 (by have := HQ.out.2.2; simp [lenB]; omega) (Nat.le_refl _) (HQ.out.2.1.trans H60.out.2).size (HQ.out.2.1.trans H60.out.2) ?_; intro v97 w97 ho97 hu97 hg97; have H97 := Lib.hid (show _ ∧ _ ∧ _ from ⟨ho97, hu97, hg97⟩); clear ho97 hu97 hg97)
        | (at_builtin; refine wpList_app22 (W := w1) rfl (.tmp 97) (.tmp 98) rfl v97 (.slice ra rn rc) rfl rfl w1.heap.size (ownU acct (setF own) (setF own).length ++ lenB m) (onesB (onesRbU ρ 8)) H97.out.1 (view_owns (owns_apart (owns_upd hR.out.1 H60.out.2 (by simp)) H97.out.2.2 (fun k hk => owns_lt2 HP.out.1.1 k hk))) (by have := HQ.out.2.2; have := HM.out.2.2; simp [lenB]; omega) (Nat.le_refl _) H97.out.2.1.size H97.out.2.1 ?_; intro v99 w99 ho99 hu99 hg99; have H99 := Lib.hid (show _ ∧ _ from ⟨ho99, hu99⟩); clear ho99 hu99 hg99))
      go_ret
      refine ⟨v99, rfl, ?_, H1.out.1.2.trans H99.out.2⟩
      rw [refB_eq3, ← onesRbU_all, ← HM.out.1]
      exact owns_base H99.out.1 H1.out.1.2.size
end Go.Proofs.YtdbceafejbnebaaGreatDoor
