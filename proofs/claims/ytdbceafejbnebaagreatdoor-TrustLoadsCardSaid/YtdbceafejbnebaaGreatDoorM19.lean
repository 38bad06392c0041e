/- trust.Spaced. A spaced text without its blanks is the text. -/
import Derived.Test.YtdbceafejbnebaaGreatDoorM17
import Derived.Test.YtdbceafejbnebaaGreatDoorM10
import Derived.Laws.IdiomStrings
import Derived.Lib.SplitLaws
import Derived.Lib.IndexBytes
/-! trust.Spaced. -/
namespace Go.Proofs.YtdbceafejbnebaaGreatDoor
open Go Go.RowKit Go.Shelf
attribute [local go_sem] Oper.semAt_some
theorem chunk51 {w : World} (ad : Option Addr) (n c : Nat) : Calls Tryz.prog 51 #[.slice ad n c, .int .i64 5] w fun e w' => e = .returned (.func (.func 74) #[] #[.pointer (some ⟨w.heap.size, 0, none⟩), .pointer (some ⟨w.heap.size + 1, 0, none⟩)]) ∧ w' = (w.alloc (.cells #[.slice ad n c] 22)).alloc (.cells #[.int .i64 5] 3) := by
  go_enter Tryz.func51, Tryz.ntmps51
  go_wp2
  go_ret
  exact ⟨rfl, rfl⟩
/-- A piece of a text. -/
def pieceF (l : List UInt8) (k : Fin 12) : List UInt8 := (l.drop (5 * k.val)).take 5
def spacedF (l : List UInt8) : List UInt8 := Lib.join (all12.map (pieceF l)) [32]
def pieceV (l : List UInt8) (k : Fin 12) : Value := .string ⟨(pieceF l k).toArray⟩
theorem all12_eq : all12 = [0, 1, 2, 3, 4, 5, 6, 7, 8, 9, 10, 11] := by decide
theorem piece_len (l : List UInt8) (k : Fin 12) : (pieceF l k).length ≤ 5 := by
  unfold pieceF
  rw [List.length_take]
  omega
theorem spaced_len (l : List UInt8) : (spacedF l).length ≤ 100 := by
  unfold spacedF
  rw [all12_eq]
  simp only [List.map_cons, List.map_nil, Lib.join_cons, Lib.joinTail, List.flatten_cons, List.flatten_nil, List.length_append, List.length_cons, List.length_nil]
  have h := piece_len l
  have h0 := h 0; have h1 := h 1; have h2 := h 2; have h3 := h 3; have h4 := h 4; have h5 := h 5
  have h6 := h 6; have h7 := h 7; have h8 := h 8; have h9 := h 9; have h10 := h 10; have h11 := h 11
  omega
theorem Tryz.info9 : (Tryz.prog.info? 9).map (fun i => (i.zero, i.size, i.bytes)) = some (some (.string ⟨#[]⟩), 1, 16) := by kernel_rfl
set_option maxHeartbeats 4000000 in
set_option maxRecDepth 100000 in
theorem spaced16 {w : World} (n : ByteArray) (hn : n.size = 60) : Calls Tryz.prog 16 #[.string n] w fun e w' => e = .returned (.string ⟨(spacedF n.data.toList).toArray⟩) ∧ Upd [] w w' := by
  have kc : ∀ W : World, (convert 9 22 (.string n)).run Tryz.prog W = .ok (.slice (some ⟨W.heap.size, 0, none⟩) n.size (grownCap W n.size 0 5)) (W.drew.alloc (.cells (bytesRow n (grownCap W n.size 0 5)) 5 ((bytesRow n (grownCap W n.size 0 5)).size, (bytesRow n (grownCap W n.size 0 5)).size + 1))) :=
    fun W => run_bytes_of_string W 9 22 5 n Tryz.underlying9 Tryz.underlying22 Tryz.underlying5
  refine (callsIn_wide (n := 5)).1 (callsIn_of_wp_marks Tryz.func16 rfl trivial ?_ rfl)
  simp only [Tryz.ntmps16, List.size_toArray, List.length_cons, List.length_nil, Nat.reduceAdd, Nat.reduceSub, Array.replicate_succ, Array.replicate_zero, List.push_toArray, List.append_toArray, List.nil_append, List.cons_append]
  refine wpIn_wide.2 ?_
  go_upto_region 4 with fail
  obtain ⟨W1, hW1⟩ : ∃ X, w.alloc (Obj.cells #[Value.slice none 0 0] 107) = X := ⟨_, rfl⟩
  have hu1 : Upd [] w W1 := by rw [← hW1]; exact Upd.new w _
  have hb1 : W1.heap[w.heap.size]? = some (.cells #[.slice none 0 0] 107 (0, 0)) := by rw [← hW1]; exact heap_alloc_new w _
  obtain ⟨L, hL⟩ : ∃ L, L = w.heap.size := ⟨_, rfl⟩
  rw [hW1, ← hL]
  rw [← hL] at hb1
  have H1 := Lib.hid (show _ ∧ _ ∧ _ from ⟨hu1, hb1, hL⟩)
  clear hW1 hu1 hb1 hL
  have hcap60 : 60 ≤ grownCap W1 60 0 5 := grownCap_ge W1 60 0 5
  obtain ⟨cap, hcap⟩ : ∃ cap, cap = grownCap W1 60 0 5 := ⟨_, rfl⟩
  have kc1 := kc W1
  rw [hn, ← hcap] at kc1
  rw [← hcap] at hcap60
  obtain ⟨g, hg⟩ : ∃ g, g = W1.heap.size := ⟨_, rfl⟩
  obtain ⟨Wc, hWc⟩ : ∃ X, W1.drew.alloc (.cells (bytesRow n cap) 5 ((bytesRow n cap).size, (bytesRow n cap).size + 1)) = X := ⟨_, rfl⟩
  have huc : Upd [] W1 Wc := by rw [← hWc]; exact ((Upd.refl [] W1).drew).alloc _
  have hgc : Wc.heap[g]? = some (.cells (bytesRow n cap) 5 ((bytesRow n cap).size, (bytesRow n cap).size + 1)) := by rw [← hWc, hg]; exact heap_alloc_new W1.drew _
  rw [hWc, ← hg] at kc1
  have HC := Lib.hid (show _ ∧ _ ∧ _ ∧ _ from ⟨huc, hgc, hg, hcap60⟩)
  have HN := Lib.hid hn
  clear kc hcap hWc huc hgc hg hcap60
  go_wp2_with (go_at_call 51; refine (chunk51 _ _ _).mono ?_; rintro e w3 ⟨rfl, rfl⟩)
  obtain ⟨W0, hW0⟩ : ∃ X, (Wc.alloc (Obj.cells #[Value.slice (some ⟨g, 0, none⟩) 60 cap] 22)).alloc (Obj.cells #[Value.int IntKind.i64 5] 3) = X := ⟨_, rfl⟩
  have hu01 : Upd [] Wc W0 := by rw [← hW0]; exact (Upd.new Wc _).trans (Upd.new _ _)
  have hs01 : W0.heap.size = Wc.heap.size + 2 := by rw [← hW0]; simp
  have hb01 : W0.heap[Wc.heap.size]? = some (.cells #[.slice (some ⟨g, 0, none⟩) 60 cap] 22 (0, 0)) := by rw [← hW0]; exact heap_alloc2_old Wc _ _
  have hb02 : W0.heap[Wc.heap.size + 1]? = some (.cells #[.int .i64 5] 3 (0, 0)) := by rw [← hW0]; exact heap_alloc2_new Wc _ _
  have hbL : W0.heap[L]? = some (.cells #[.slice none 0 0] 107 (0, 0)) := (HC.out.1.trans hu01).heap H1.out.2.1 (by simp)
  have hg0 : W0.heap[g]? = some (.cells (bytesRow n cap) 5 ((bytesRow n cap).size, (bytesRow n cap).size + 1)) := hu01.heap HC.out.2.1 (by simp)
  have hgL : g ≠ L := by have := H1.out.2.2; have := HC.out.2.2.1; have := lt_of_heap H1.out.2.1; omega
  rw [hW0]
  have HLL := Lib.hid (show _ ∧ _ from ⟨hs01, hu01⟩)
  obtain ⟨l, hl⟩ : ∃ l, l = n.data.toList := ⟨_, rfl⟩
  have hl60 : l.length = 60 := by rw [hl, Array.length_toList]; exact hn
  have hrow : ∀ W, Upd [L] W0 W → ∀ i (hi : i < l.length), W.cell? ⟨g, i, none⟩ = some (.int .u8 (l[i].toNat : Int)) := by
    intro W hu i hi
    rw [cell_of_heap (hu.heap hg0 (by simpa using hgL))]
    unfold bytesRow
    rw [Array.getElem?_append_left (by simp; omega)]
    subst hl
    simp at hi ⊢
    simp [hi]
  have HROW := Lib.hid (show _ ∧ _ from ⟨hrow, hl60⟩)
  have HLN := Lib.hid hl
  clear hW0 hs01 hrow hl hl60
  refine (wpIn_wide (n := 5)).1 ?_
  refine wpIn_rangeFunc_ownH rfl (by omega) (gf := 74) (lb := #[.pointer (some ⟨Wc.heap.size, 0, none⟩), .pointer (some ⟨Wc.heap.size + 1, 0, none⟩)]) rfl trivial (enters_of Tryz.func74 (by kernel_rfl) rfl)
    (chunk_stops 4 (by omega) Wc.heap.size (Wc.heap.size + 1) g cap W0 hb01 hb02 HC.out.2.2.2) keepC_t (fun W l o o' _ h hc _ => keepC_b W l o o' h hc) (Below.refl _ _) (fun _ => rfl)
    (fun pre W => Upd [L] W0 W ∧ ∃ vv, W.heap[L]? = some (.cells #[vv] 107 (0, 0)) ∧ IsSl vv ∧ W.ownsRow W0.heap.size 9 1 vv pre.length (pre.map (pieceV l)))
    (fun _ _ _ => False)
    (fun pre X Y row hs hg hr => by
      obtain ⟨q1, vv, q2, q3, q4⟩ := hs
      have hr2 : ∀ r, row = some r → ∃ o : Obj, X.heap[r]? = some o ∧ o.isCells = false := fun r e => (hr r e).2
      exact ⟨kept_upd q1 hg (fun r e => (hr r e).1), vv, kept_cells hg hr2 q2, q3, kept_owns hg hr2 q4⟩)
    (fun _ _ _ _ _ hs _ _ => hs)
    ⟨Upd.refl _ _, .slice none 0 0, hbL, ⟨_, _, _, rfl⟩, ⟨rfl, .inl ⟨rfl, rfl⟩⟩⟩
    (fun x a' W => a' = { tmps := #[.string n, undef, .string ⟨#[]⟩, .pointer (some ⟨L, 0, none⟩), .slice (some ⟨g, 5 * x.val, none⟩) 5 5, .string n, .int .i64 60, .bool false, undef, .string n, .slice (some ⟨g, 0, none⟩) 60 cap, .func (.func 74) #[] #[.pointer (some ⟨Wc.heap.size, 0, none⟩), .pointer (some ⟨Wc.heap.size + 1, 0, none⟩)], .slice (some ⟨g, 5 * x.val, none⟩) 5 5, undef, undef, undef, undef, undef, undef, undef], defers := [] })
    (fun x a' _ X Y row hs hg hr => hs)
    ?assign ?body ?done ?stop
  case assign =>
    intro l' pre x W K hi hK
    simp only [encC]
    gi_wp2
    exact hK _ _ (keepsFrom_of_upd (Upd.refl [] W) (by simp)) (KeepC.refl W) hi rfl
  case body =>
    rintro l' pre x a' W hl _ ⟨hu, vv, hLc, ⟨ad, an, ac, rfl⟩, hown⟩ rfl hlen
    obtain ⟨i0, hi, hz0, hz1, hz2⟩ := info_parts Tryz.info9
    have hs0 : W0.heap.size ≤ W.heap.size := hu.size
    have c1 : W.cell? ⟨L, 0, none⟩ = some (.slice ad an ac) := cell_of_heap hLc 0
    have hpl : (pieceF l x).length = 5 := by
      have := HROW.out.2
      have := x.2
      unfold pieceF
      rw [List.length_take, List.length_drop]
      omega
    have hcv := run_convert_bytes_back (P := Tryz.prog) W 22 9 5 ⟨g, 5 * x.val, none⟩ 5 (pieceF l x) Tryz.underlying22 Tryz.underlying5 Tryz.underlying9 (by
      intro j hj
      rw [Addr.add_lit]
      have h5 : 5 * x.val + j < l.length := by
        have := HROW.out.2
        have := x.2
        omega
      rw [HROW.out.1 W hu _ h5]
      simp [pieceF])
    rw [hpl] at hcv
    obtain ⟨st, hst⟩ : ∃ st : ByteArray, st = ⟨(pieceF l x).toArray⟩ := ⟨_, rfl⟩
    rw [← hst] at hcv
    have hua : Upd [] W (W.alloc (.cells #[.string st] 9)) := Upd.new W _
    have hna := heap_alloc_new W (.cells #[.string st] 9 (0, 0))
    have hpost : ∀ v1 w3, w3.ownsRow W0.heap.size 9 1 v1 (pre.length + 1) (pre.map (pieceV l) ++ [.string st]) → (W.alloc (.cells #[.string st] 9)).grownBy w3 (Value.slice ad an ac).ownBlock →
        Hid (w3.heap[L]? = some (.cells #[.slice ad an ac] 107 (0, 0)) ∧ IsSl v1 ∧ Upd [L] W0 (w3.setCell ⟨L, 0, none⟩ v1) ∧ KeepsFrom W0.heap.size W (w3.setCell ⟨L, 0, none⟩ v1) ∧ KeepC W (w3.setCell ⟨L, 0, none⟩ v1) ∧
          (w3.setCell ⟨L, 0, none⟩ v1).heap[L]? = some (.cells #[v1] 107 (0, 0)) ∧ (w3.setCell ⟨L, 0, none⟩ v1).ownsRow W0.heap.size 9 1 v1 (pre ++ [x]).length ((pre ++ [x]).map (pieceV l))) := by
      intro v1 w3 q1 q2
      have hL0 : L < W0.heap.size := lt_of_heap hbL
      have hob : ∀ q, (Value.slice ad an ac).ownBlock = some q → W0.heap.size ≤ q ∧ ∃ cs fz, W.heap[q]? = some (.cells cs 9 fz) := by
        intro q hq
        obtain ⟨_, ⟨z, _⟩ | ⟨g', cap', cur, z, z2, z3, _⟩⟩ := hown
        · rw [z] at hq; simp [Value.ownBlock] at hq
        · rw [z] at hq
          simp [Value.ownBlock] at hq
          subst hq
          exact ⟨z2, _, _, z3⟩
      have hu3 : Upd [L] W0 w3 := upd_grown (hu.trans (hua.mono (by simp))) q2 (fun q hq => (hob q hq).1)
      have hwq : Upd (match (Value.slice ad an ac).ownBlock with | some q => [q] | none => []) W w3 := by
        refine ⟨q2.os.trans hua.os, q2.tape.trans hua.tape, q2.output.trans hua.output, Nat.le_trans hua.size q2.size, fun q hq hS => ?_⟩
        refine (q2.block q (Nat.lt_of_lt_of_le hq hua.size) ?_).trans (hua.block q hq (by simp))
        intro e
        rw [← e] at hS
        simp at hS
      have hL3 : w3.heap[L]? = some (.cells #[.slice ad an ac] 107 (0, 0)) := by
        refine (q2.block L (Nat.lt_of_lt_of_le (lt_of_heap hLc) hua.size) ?_).trans (hua.heap hLc (by simp))
        intro e
        have := (hob L e.symm).1
        omega
      have hwL : Upd (L :: (match (Value.slice ad an ac).ownBlock with | some q => [q] | none => [])) W (w3.setCell ⟨L, 0, none⟩ v1) := (hwq.mono (fun x hx _ => List.mem_cons_of_mem _ hx)).setCell (.inr (by simp)) _
      have hcells : ∀ s ∈ (L :: (match (Value.slice ad an ac).ownBlock with | some q => [q] | none => [])), ∃ cs t fz, W.heap[s]? = some (.cells cs t fz) ∧ (t = 107 ∨ t = 9) := by
        intro s hs
        rcases List.mem_cons.1 hs with rfl | hs
        · exact ⟨_, _, _, hLc, .inl rfl⟩
        · cases hq : (Value.slice ad an ac).ownBlock with
          | none => rw [hq] at hs; simp at hs
          | some q =>
            rw [hq] at hs
            simp at hs
            subst hs
            obtain ⟨_, cs, fz, z⟩ := hob s hq
            exact ⟨cs, 9, fz, z, .inr rfl⟩
      refine Lib.hid ⟨hL3, owns_isSl q1, hu3.setCell (.inr (by simp)) _, keepsFrom_of_upd hwL (fun s hs => by obtain ⟨cs, t, fz, z, _⟩ := hcells s hs; exact ⟨cs, t, fz, z⟩), hwL.keepC ?_, heap_setCell_same hL3 0 _, ?_⟩
      · intro s hs cs t fz hz
        obtain ⟨cs', t', fz', z, ht⟩ := hcells s hs
        rw [hz] at z
        cases z
        rcases ht with rfl | rfl <;> decide
      · rw [List.length_append, List.map_append]
        have e : [x].map (pieceV l) = [Value.string st] := by rw [hst]; rfl
        rw [e]
        refine ⟨q1.1, ?_⟩
        rcases q1.2 with z | ⟨g', cap', cur, z1, z2, z3, z4⟩
        · exact .inl z
        · exact .inr ⟨g', cap', cur, z1, z2, (Below.heap_setCell _ _ _ _ (by show g' ≠ L; omega)).trans z3, z4⟩
    have HP := Lib.hid hpost
    have HO := Lib.hid (show _ ∧ _ from ⟨owns_upd hown hua (by simp), hna⟩)
    have hm1 : pre.length + 1 ≤ maxLen := Nat.le_trans (show pre.length + 1 ≤ 13 by omega) (by decide)
    have hm2 : (pre.length + 1) * 16 ≤ 140737488355328 := by omega
    have HM := Lib.hid (show _ ∧ _ ∧ _ from ⟨hm1, hm2, hs0⟩)
    clear hm1 hm2 hs0 hpost hua hna hown hLc hpl hst
    gi_wp2_with (first
      | (gi_at_builtin; refine wpListIn_append_own _ rfl _ _ 107 rfl W0.heap.size 9 i0 _ 1 16 Tryz.underlying107 hi hz0 hz1 hz2 rfl (by decide) _ pre.length _ rfl HO.out.1 _ 1 1 [.string st] rfl rfl (World.news_of_block HO.out.2) (by intro u hu; rw [List.mem_singleton] at hu; rw [hu]; rfl) HM.out.1 HM.out.2.1 (by have := HM.out.2.2; simp; omega) ?_; intro v1 w3 hown3 hgrow3 _; have HQ := HP.out v1 w3 hown3 hgrow3; have d1 := cell_of_heap HQ.out.1 0; have d2 := free_of_heap HQ.out.1 0; obtain ⟨a1, n1, k1, rfl⟩ := HQ.out.2.1))
    exact ⟨HQ.out.2.2.2.1, HQ.out.2.2.2.2.1, HQ.out.2.2.1, _, HQ.out.2.2.2.2.2.1, HQ.out.2.1, HQ.out.2.2.2.2.2.2⟩
  case done =>
    rintro D ys W hD rfl ⟨hu, vv, hLc, ⟨ad, an, ac, rfl⟩, hown⟩ hK
    have huW : Upd [] w W := (H1.out.1.trans (HC.out.1.trans HLL.out.2)).trans' hu (by intro y hy; rw [List.mem_singleton] at hy; subst hy; exact .inr (by have := H1.out.2.2; omega))
    have dL : W.cell? ⟨L, 0, none⟩ = some (.slice ad an ac) := cell_of_heap hLc 0
    have hwD : w.heap.size ≤ D := by have := H1.out.1.size; have := HLL.out.2.size; have := HC.out.1.size; omega
    obtain ⟨g', cap', e1, hg1, hc1⟩ := owns_some hown (by simp [all12])
    rw [e1] at hown dL
    have h12 : all12.length = 12 := by simp [all12]
    rw [h12] at hown dL hc1
    have hcells := owns_cells hown
    have hjoin := Go.Proofs.Tryz.strings_Join g' 0 cap' (all12.map fun k => ⟨(pieceF l k).toArray⟩) ⟨#[32]⟩ W (by
      intro j x hj
      rw [Nat.zero_add]
      refine hcells j (.string x) ?_
      rw [List.getElem?_map] at hj ⊢
      cases hq : all12[j]? with
      | none => rw [hq] at hj; cases hj
      | some k => rw [hq] at hj; cases hj; rfl) (owns_lt hown) (by simp [all12]) (by rw [List.length_map, h12]; exact hc1) (by
      rw [List.map_map]
      exact Nat.le_trans (spaced_len l) (by decide))
    rw [List.length_map, h12] at hjoin
    have HJ := Lib.hid hjoin
    have HW := Lib.hid (show _ ∧ _ ∧ _ from ⟨huW, hK, hwD⟩)
    clear hjoin huW hK hwD hcells hown hLc hu e1 hg1 hc1 hD hg0 hgL hb01 hb02 hbL hu01
    go_simp
    go_wp2_with (go_at_call 52; refine HJ.out.mono ?_; rintro e wn ⟨rfl, hbn⟩)
    have hfin := below_upd0 hbn
    refine leaves_marks (B := w.heap.size) _ wn (fun d hd => by rw [List.mem_singleton] at hd; exact ⟨D, HW.out.2.2, hd, hfin.heap HW.out.2.1 (by simp)⟩) (by simp) ?_
    intro w' a1 a2 a3 a4 a5 a6
    have hu' := HW.out.1.trans hfin
    refine ⟨_, results_tmp rfl _ _ _, ?_, ⟨a3.trans hu'.os, a4.trans hu'.tape, a5.trans hu'.output, Nat.le_trans hu'.size a6, fun q hq hS => (a1 q hq).trans (hu'.block q hq hS)⟩⟩
    rw [← HLN.out]
    unfold spacedF
    rfl
  case stop =>
    rintro D c pre W _ _ h _
    exact h.elim
end Go.Proofs.YtdbceafejbnebaaGreatDoor
/-! A spaced text without its blanks is the text. -/
namespace Go.Proofs.YtdbceafejbnebaaGreatDoor
open Go Go.RowKit
theorem indexByte_at : ∀ (s1 s2 : List UInt8), (32 : UInt8) ∉ s1 → Lib.indexByte (s1 ++ 32 :: s2) 32 = s1.length := by
  intro s1
  induction s1 with
  | nil => intro s2 _; simp [Lib.indexByte]
  | cons b l ih =>
    intro s2 h
    simp only [List.mem_cons, not_or] at h
    rw [List.cons_append, Lib.indexByte, ih s2 h.2]
    have hb : (b == (32 : UInt8)) = false := by rw [beq_eq_false_iff_ne]; exact fun e => h.1 e.symm
    rw [hb]
    have hl : (((l.length : Int)) == -1) = false := by rw [beq_eq_false_iff_ne]; omega
    rw [hl]
    simp
theorem replK (n : Nat) : ∀ s : List UInt8, s.length ≤ n → Lib.replaceK [32] [] (s.count 32) s = s.filter (· ≠ 32) := by
  induction n with
  | zero =>
    intro s h
    have : s = [] := List.eq_nil_of_length_eq_zero (by omega)
    subst this
    rfl
  | succ n ih =>
    intro s h
    by_cases hm : (32 : UInt8) ∈ s
    · obtain ⟨s1, s2, rfl, hn⟩ := List.eq_append_cons_of_mem hm
      have hc : (s1 ++ 32 :: s2).count 32 = s2.count 32 + 1 := by
        rw [List.count_append, List.count_cons, List.count_eq_zero_of_not_mem hn]
        simp
      rw [hc, Lib.replaceK_hit [32] [] _ _ s1.length (by rw [Lib.index_one]; exact indexByte_at s1 s2 hn)]
      have e1 : (s1 ++ 32 :: s2).take s1.length = s1 := List.take_left
      have e2 : (s1 ++ 32 :: s2).drop (s1.length + [(32 : UInt8)].length) = s2 := by
        rw [← List.drop_drop, List.drop_left]
        rfl
      rw [e1, e2, List.append_nil, ih s2 (by simp at h; omega), List.filter_append, List.filter_cons]
      have e3 : s1.filter (· ≠ 32) = s1 := by
        rw [List.filter_eq_self]
        intro c hcm
        simp only [ne_eq, decide_not, Bool.not_eq_true', decide_eq_false_iff_not]
        intro e
        subst e
        exact hn hcm
      rw [e3]
      simp
    · rw [List.count_eq_zero_of_not_mem hm, Lib.replaceK]
      symm
      rw [List.filter_eq_self]
      intro c hcm
      simp only [ne_eq, decide_not, Bool.not_eq_true', decide_eq_false_iff_not]
      intro e
      subst e
      exact hm hcm
theorem repl_filter (s : List UInt8) : Lib.replaceAll s [32] [] = s.filter (· ≠ 32) := by
  unfold Lib.replaceAll Lib.replace
  rw [if_neg (by decide)]
  have : Lib.replaceNum s [32] (-1) = s.count 32 := by
    unfold Lib.replaceNum
    rw [if_pos (.inl (by decide)), Lib.count_one]
  rw [this]
  exact replK s.length s (Nat.le_refl _)
theorem filter_tail : ∀ r : List (List UInt8), ((r.map (([32] : List UInt8) ++ ·)).flatten).filter (· ≠ 32) = r.flatten.filter (· ≠ 32) := by
  intro r
  induction r with
  | nil => rfl
  | cons x r ih =>
    rw [List.map_cons, List.flatten_cons, List.flatten_cons, List.filter_append, List.filter_append, ih, List.filter_append]
    rfl
theorem filter_join (xs : List (List UInt8)) : (Lib.join xs [32]).filter (· ≠ 32) = xs.flatten.filter (· ≠ 32) := by
  cases xs with
  | nil => rfl
  | cons x r =>
    rw [Lib.join_cons, List.filter_append, List.flatten_cons, List.filter_append]
    unfold Lib.joinTail
    rw [filter_tail]
theorem pieces_take (l : List UInt8) : ∀ m, m ≤ 12 → ((all12.take m).map (pieceF l)).flatten = l.take (5 * m) := by
  intro m
  induction m with
  | zero => intro _; simp
  | succ m ih =>
    intro h
    rw [all12_take (by omega : m < 12), List.map_append, List.flatten_append, ih (by omega)]
    have : 5 * (m + 1) = 5 * m + 5 := by omega
    rw [this, List.take_add]
    simp [pieceF]
theorem spaced_back (l : List UInt8) (h60 : l.length = 60) (hn : ∀ c ∈ l, c ≠ 32) : Lib.replaceAll (spacedF l) [32] [] = l := by
  rw [repl_filter]
  unfold spacedF
  rw [filter_join]
  have h := pieces_take l 12 (Nat.le_refl _)
  rw [List.take_of_length_le (by simp [all12]), List.take_of_length_le (by omega)] at h
  rw [h, List.filter_eq_self]
  intro c hc
  simpa using hn c hc
end Go.Proofs.YtdbceafejbnebaaGreatDoor
