/- The document's Set, in plain words. Regions that draw their order: what is held need not outlast the operations that wait for what is taken first. Appends, slices and rows in regions that draw their order. -/
import Derived.Test.YtdbceafejbnebaaGreatDoorM05
import Derived.Test.YtdbceafejbnebaaGreatDoorM01
import Derived.OrdersHeld
import Derived.Test.YtdbceafejbnebaaGreatDoorM25
/-! The document's Set, in plain words. -/
namespace Go.Proofs.YtdbceafejbnebaaGreatDoor
open Go Go.RowKit
def aheadK (R : List K) (k : K) : List K := R.takeWhile fun x => decide (x.1 < k.1)
def posK (R : List K) (k : K) : Nat := (aheadK R k).length
/-- A key put where it belongs. -/
def insK (R : List K) (k : K) : List K := if R[posK R k]? = some k then R else R.take (posK R k) ++ [k] ++ R.drop (posK R k)
def rsetF (l : List K) : List K := l.foldl insK []
theorem rsetF_snoc (l : List K) (k : K) : rsetF (l ++ [k]) = insK (rsetF l) k := by simp [rsetF]
theorem posK_le (R : List K) (k : K) : posK R k ≤ R.length := (List.takeWhile_prefix _).length_le
theorem posK_take (R : List K) (k : K) : R.take (posK R k) = aheadK R k := (List.prefix_iff_eq_take.1 (List.takeWhile_prefix _)).symm
theorem posK_lt (R : List K) (k : K) (j : Nat) (hj : j < R.length) (h : j < posK R k) : R[j].1 < k.1 := by
  have h1 : R[j] ∈ R.take (posK R k) := by
    rw [List.mem_take_iff_getElem]
    exact ⟨j, by omega, rfl⟩
  rw [posK_take] at h1
  have := List.all_takeWhile (l := R) (p := fun x => decide (x.1 < k.1))
  rw [List.all_eq_true] at this
  simpa using this _ h1
theorem posK_stop (R : List K) (k : K) (hj : posK R k < R.length) : ¬ R[posK R k].1 < k.1 := by
  intro h
  have h2 : R.dropWhile (fun x => decide (x.1 < k.1)) = R.drop (posK R k) := by
    have e := List.takeWhile_append_dropWhile (l := R) (p := fun x => decide (x.1 < k.1))
    have e2 := List.take_append_drop (posK R k) R
    rw [posK_take] at e2
    exact List.append_cancel_left (e.trans e2.symm)
  have h3 := List.head?_dropWhile_not (fun x => decide (x.1 < k.1)) R
  rw [h2, List.drop_eq_getElem_cons hj] at h3
  simp only [List.head?_cons, decide_eq_false_iff_not] at h3
  exact h3 h
/-- What is ahead is told one by one. -/
theorem posK_of (R : List K) (k : K) (n : Nat) (hn : n ≤ R.length) (h1 : ∀ j (hj : j < R.length), j < n → R[j].1 < k.1) (h2 : ∀ hj : n < R.length, ¬ R[n].1 < k.1) : n = posK R k := by
  rcases Nat.lt_trichotomy n (posK R k) with h | h | h
  · have := posK_le R k
    exact absurd (posK_lt R k n (by omega) h) (h2 (by omega))
  · exact h
  · have hl : posK R k < R.length := by omega
    exact absurd (h1 (posK R k) hl h) (posK_stop R k hl)
theorem insK_mem (R : List K) (k x : K) : x ∈ insK R k ↔ x ∈ R ∨ x = k := by
  unfold insK
  split
  · rename_i h
    have := List.mem_of_getElem? h
    constructor
    · exact .inl
    · rintro (h1 | rfl)
      · exact h1
      · exact this
  · have e := List.take_append_drop (posK R k) R
    constructor
    · intro h
      rw [List.mem_append, List.mem_append, List.mem_singleton] at h
      rcases h with (h | h) | h
      · exact .inl (List.mem_of_mem_take h)
      · exact .inr h
      · exact .inl (List.mem_of_mem_drop h)
    · rintro (h | rfl)
      · rw [← e, List.mem_append] at h
        rcases h with h | h
        · simp [h]
        · simp [h]
      · simp
theorem insK_sorted (R : List K) (k : K) (h : R.Pairwise (fun a b => a.1 < b.1)) : (insK R k).Pairwise (fun a b => a.1 < b.1) := by
  unfold insK
  split
  · exact h
  · rename_i hne
    have e := List.take_append_drop (posK R k) R
    have hs := h
    rw [← e, List.pairwise_append] at hs
    have hbig : ∀ b ∈ R.drop (posK R k), k.1 < b.1 := by
      intro b hb
      by_cases hl : posK R k < R.length
      · have h1 := posK_stop R k hl
        have h2 : R[posK R k] ≠ k := by
          intro q
          apply hne
          rw [List.getElem?_eq_getElem hl, q]
        have h3 : k.1 < R[posK R k].1 := by
          rcases List.le_iff_lt_or_eq.1 (List.not_lt.1 h1) with h5 | h5
          · exact h5
          · exact absurd (Subtype.ext h5.symm) h2
        rw [List.drop_eq_getElem_cons hl] at hb hs
        rcases List.mem_cons.1 hb with rfl | hb
        · exact h3
        · exact List.lt_trans h3 ((List.pairwise_cons.1 hs.2.1).1 b hb)
      · rw [List.drop_of_length_le (by omega)] at hb
        cases hb
    have hlow : ∀ a ∈ R.take (posK R k), a.1 < k.1 := by
      intro a ha
      rw [List.mem_take_iff_getElem] at ha
      obtain ⟨j, hj, rfl⟩ := ha
      exact posK_lt R k j (by omega) (by omega)
    rw [List.pairwise_append, List.pairwise_append]
    refine ⟨⟨hs.1, List.pairwise_singleton _ _, ?_⟩, hs.2.1, ?_⟩
    · intro a ha b hb
      rw [List.mem_singleton] at hb
      rw [hb]
      exact hlow a ha
    · intro a ha b hb
      rcases List.mem_append.1 ha with ha | ha
      · exact hs.2.2 a ha b hb
      · rw [List.mem_singleton] at ha
        rw [ha]
        exact hbig b hb
theorem insK_len (R : List K) (k : K) : (insK R k).length ≤ R.length + 1 := by
  unfold insK
  split
  · omega
  · have := posK_le R k
    simp
    omega
theorem rsetF_both (l : List K) : (rsetF l).Pairwise (fun a b => a.1 < b.1) ∧ (∀ x, x ∈ rsetF l ↔ x ∈ l) ∧ (rsetF l).length ≤ l.length := by
  have key : ∀ (l R : List K), R.Pairwise (fun a b => a.1 < b.1) → (l.foldl insK R).Pairwise (fun a b => a.1 < b.1) ∧ (∀ x, x ∈ l.foldl insK R ↔ (x ∈ R ∨ x ∈ l)) ∧ (l.foldl insK R).length ≤ R.length + l.length := by
    intro l
    induction l with
    | nil => intro R h; exact ⟨h, by simp, by simp⟩
    | cons y l ih =>
      intro R h
      obtain ⟨h1, h2, h3⟩ := ih (insK R y) (insK_sorted R y h)
      refine ⟨h1, fun x => ?_, ?_⟩
      · rw [List.foldl_cons, h2, insK_mem, List.mem_cons, or_assoc]
      · rw [List.foldl_cons]
        have := insK_len R y
        simp only [List.length_cons]
        omega
  have := key l [] List.Pairwise.nil
  simpa [rsetF] using this
theorem rsetF_eq (l : List K) : rsetF l = setF l := (setF_eq (rsetF_both l).1 (rsetF_both l).2.1).symm
end Go.Proofs.YtdbceafejbnebaaGreatDoor
/-! Regions that draw their order: what is held need not outlast the operations that wait for what is taken first. -/
namespace Go.Proofs.YtdbceafejbnebaaGreatDoor
open Go Go.RowKit
section
variable {P : Program} {ops : Array Oper} {Q : Exit → Act → World → Prop} {md : Region.Mode} {S : World → Prop} {X : Nat → Bool}
/-- Whatever order is picked from here on, and S holds behind every operation but those of X. -/
def wpAnyE (P : Program) (md : Region.Mode) (ops : Array Oper) (Q : Exit → Act → World → Prop) (S : World → Prop) (X : Nat → Bool) : Nat → Array Bool → Act → World → Prop
  | 0, listed, a, w => Region.ready md ops listed = [] ∧ Q .normal a w
  | fuel + 1, listed, a, w =>
    (Region.ready md ops listed = [] → Q .normal a w) ∧
    ∀ i ∈ Region.ready md ops listed, wpOp P ops Q i (fun a' w' => (X i = false → S w') ∧ wpAnyE P md ops Q S X fuel (listed.setIfInBounds i true) a' w') a w
theorem wpAny_of_E : ∀ (fuel : Nat) (listed : Array Bool) (a : Act) (w : World), wpAnyE P md ops Q S X fuel listed a w → wpAny P md ops Q fuel listed a w
  | 0, _, _, _, h => h
  | fuel + 1, _, _, _, h => ⟨h.1, fun i hi => wpOp_mono (fun a' w' h' => wpAny_of_E fuel _ a' w' h'.2) (h.2 i hi)⟩
theorem wpAnyE_first {i : Nat} {oi : Oper} {v : Value} (hi : ops[i]? = some oi) (hsel : ∀ (j : Nat) (o : Oper) cs b, ops[j]? = some o → o.op ≠ .select cs b)
    (hQ : ∀ c a w, Q (.panic c) (a.put oi.dst v) w → Q (.panic c) a w) (hXi : X i = false) (hX : ∀ j oj, X j = true → ops[j]? = some oj → ∃ e ∈ oj.after, Region.binds md e = true ∧ e.on = i) :
    ∀ (fuel : Nat) (listed : Array Bool) (a : Act) (w : World),
      (∀ j oj, ops[j]? = some oj → j ≠ i → listed.getD j true = false → (∀ e ∈ oj.after, Region.binds md e = true → e.on ≠ i) → oi.apart ops oj = true) →
      i ∈ Region.ready md ops listed → YieldsIf P ops S oi v a → S w →
      wpAnyE P md ops Q S X fuel (listed.setIfInBounds i true) (a.put oi.dst v) w → wpAnyE P md ops Q S X (fuel + 1) listed a w := by
  intro fuel
  induction fuel with
  | zero =>
    intro listed a w _ hr hy hS H
    refine ⟨fun h => (by rw [h] at hr; cases hr), fun j hj => ?_⟩
    by_cases hji : j = i
    · subst hji; exact hy.wpOp hi hS ⟨fun _ => hS, H⟩
    · have := ready_mono hj hji
      rw [H.1] at this
      cases this
  | succ fuel ih =>
    intro listed a w hfree hr hy hS H
    refine ⟨fun h => (by rw [h] at hr; cases hr), fun j hj => ?_⟩
    by_cases hji : j = i
    · subst hji; exact hy.wpOp hi hS ⟨fun _ => hS, H⟩
    · have h1 := H.2 j (ready_mono hj hji)
      obtain ⟨hjun, oj, hoj, hall⟩ := mem_ready.1 hj
      have hnot : ∀ e ∈ oj.after, Region.binds md e = true → e.on ≠ i := fun e he hb heq => by
        have h1 := hall e he hb
        have h0 := (mem_ready.1 hr).1
        rw [heq] at h1
        rcases Nat.lt_or_ge i listed.size with h' | h'
        · simp [h'] at h0 h1; rw [h0] at h1; cases h1
        · simp [Array.getElem?_eq_none h'] at h1
      have hXj : X j = false := by
        cases hx : X j with
        | false => rfl
        | true =>
          obtain ⟨e, he, hb, heq⟩ := hX j oj hx hoj
          exact absurd heq (hnot e he hb)
      have h2 := wpOp_putIf hoj (hfree j oj hoj hji hjun hnot) (fun cs b => hsel i oi cs b hi) (fun cs b => hsel j oj cs b hoj) hQ hy h1
      have hfree' : ∀ k ok, ops[k]? = some ok → k ≠ i → (listed.setIfInBounds j true).getD k true = false →
          (∀ e ∈ ok.after, Region.binds md e = true → e.on ≠ i) → oi.apart ops ok = true := fun k ok hk hki hun hno => by
        refine hfree k ok hk hki ?_ hno
        by_cases hjk : j = k
        · subst hjk; exact hjun
        · rw [getD_set_ne true hjk] at hun; exact hun
      refine wpOp_mono (fun a' w' h3 => ⟨fun _ => h3.2.1 hXj, ih (listed.setIfInBounds j true) a' w' hfree' (ready_mono hr (Ne.symm hji)) h3.1 (h3.2.1 hXj) ?_⟩) h2
      rw [Array.setIfInBounds_comm _ _ hji]
      exact h3.2.2
/-- Does each of X wait for i? -/
def waitsX (md : Region.Mode) (ops : Array Oper) (X : Nat → Bool) (i : Nat) : Bool :=
  !X i && (List.range ops.size).all fun j => !X j || match ops[j]? with
    | some oj => oj.after.any fun e => Region.binds md e && e.on == i
    | none => true
theorem waitsX_spec {i : Nat} (h : waitsX md ops X i = true) : X i = false ∧ ∀ j oj, X j = true → ops[j]? = some oj → ∃ e ∈ oj.after, Region.binds md e = true ∧ e.on = i := by
  unfold waitsX at h
  rw [Bool.and_eq_true, List.all_eq_true] at h
  refine ⟨by simpa using h.1, fun j oj hx ho => ?_⟩
  have h1 := h.2 j (List.mem_range.2 (Array.getElem?_eq_some_iff.1 ho).1)
  rw [hx, ho] at h1
  simp only [Bool.not_true, Bool.false_or] at h1
  obtain ⟨e, he, hb⟩ := Array.any_eq_true'.1 h1
  rw [Bool.and_eq_true, beq_iff_eq] at hb
  exact ⟨e, he, hb.1, hb.2⟩
/-- Take number i first; its slot is d. -/
theorem takeE (i : Nat) (d : Option Tmp) (v : Value) {oi : Oper} {fuel : Nat} {listed : Array Bool} {a : Act} {w : World} (hi : ops[i]? = some oi) (hd : oi.dst = d)
    (hs : Region.noSelect ops = true) (hf : Region.free md ops listed i = true) (hr : (Region.ready md ops listed).contains i = true) (hx : waitsX md ops X i = true)
    (hQ : ∀ c a w, Q (.panic c) (a.put d v) w → Q (.panic c) a w) (hw : Region.wanted oi (yielded ops a.tmps) = true) (hrun : ∀ w, S w → (execOp a.eval oi).run P w = .ok (.value v) w) (hS : S w)
    (h : wpAnyE P md ops Q S X fuel (listed.setIfInBounds i true) (a.put d v) w) : wpAnyE P md ops Q S X (fuel + 1) listed a w := by
  subst hd
  exact wpAnyE_first hi (Region.noSelect_spec hs) hQ (waitsX_spec hx).1 (waitsX_spec hx).2 fuel listed a w (Region.free_spec hi hf) (by simpa using hr) (.inl ⟨hw, hrun⟩) hS h
/-- One that is not wanted. -/
theorem takeE_not (i : Nat) (d : Option Tmp) {oi : Oper} {fuel : Nat} {listed : Array Bool} {a : Act} {w : World} (hi : ops[i]? = some oi) (hd : oi.dst = d)
    (hs : Region.noSelect ops = true) (hf : Region.free md ops listed i = true) (hr : (Region.ready md ops listed).contains i = true) (hx : waitsX md ops X i = true)
    (hQ : ∀ c a w, Q (.panic c) (a.put d undef) w → Q (.panic c) a w) (hw : Region.wanted oi (yielded ops a.tmps) = false) (hS : S w)
    (h : wpAnyE P md ops Q S X fuel (listed.setIfInBounds i true) (a.put d undef) w) : wpAnyE P md ops Q S X (fuel + 1) listed a w := by
  subst hd
  exact wpAnyE_first hi (Region.noSelect_spec hs) hQ (waitsX_spec hx).1 (waitsX_spec hx).2 fuel listed a w (Region.free_spec hi hf) (by simpa using hr) (.inr ⟨hw, rfl⟩) hS h
theorem oneE (i : Nat) {fuel : Nat} {listed : Array Bool} {a : Act} {w : World} (hr : Region.ready md ops listed = [i])
    (h : wpOp P ops Q i (fun a' w' => (X i = false → S w') ∧ wpAnyE P md ops Q S X fuel (listed.setIfInBounds i true) a' w') a w) : wpAnyE P md ops Q S X (fuel + 1) listed a w :=
  ⟨fun h0 => absurd (hr.symm.trans h0) (by simp), fun j hj => by rw [hr, List.mem_singleton] at hj; subst hj; exact h⟩
theorem twoE (i j : Nat) {fuel : Nat} {listed : Array Bool} {a : Act} {w : World} (hr : Region.ready md ops listed = [i, j])
    (h1 : wpOp P ops Q i (fun a' w' => (X i = false → S w') ∧ wpAnyE P md ops Q S X fuel (listed.setIfInBounds i true) a' w') a w)
    (h2 : wpOp P ops Q j (fun a' w' => (X j = false → S w') ∧ wpAnyE P md ops Q S X fuel (listed.setIfInBounds j true) a' w') a w) : wpAnyE P md ops Q S X (fuel + 1) listed a w :=
  ⟨fun h0 => absurd (hr.symm.trans h0) (by simp), fun k hk => by
    rw [hr] at hk
    rcases List.mem_cons.1 hk with rfl | hk
    · exact h1
    · rw [List.mem_singleton] at hk
      subst hk
      exact h2⟩
theorem doneE {listed : Array Bool} {a : Act} {w : World} (hr : Region.ready md ops listed = []) (h : Q .normal a w) : ∀ fuel, wpAnyE P md ops Q S X fuel listed a w
  | 0 => ⟨hr, h⟩
  | _ + 1 => ⟨fun _ => h, by rw [hr]; simp⟩
/-- An operation that runs. -/
theorem runE {i : Nat} (d : Option Tmp) {o : Oper} {a : Act} {w : World} (w' : World) (v : Value) {K : Act → World → Prop} (hi : ops[i]? = some o) (hd : o.dst = d) (hw : Region.wanted o (yielded ops a.tmps) = true)
    (hrun : (execOp a.eval o).run P w = .ok (.value v) w') (h : K (a.put d v) w') : wpOp P ops Q i K a w := by
  subst hd
  unfold wpOp
  simp only [hi, hw, if_true, Oper.wp, hrun, Oper.upon]
  exact .inl h
theorem skipE {i : Nat} (d : Option Tmp) {o : Oper} {a : Act} {w : World} (w' : World) {K : Act → World → Prop} (hi : ops[i]? = some o) (hd : o.dst = d) (hw : Region.wanted o (yielded ops a.tmps) = true)
    (hrun : (execOp a.eval o).run P w = .ok .skip w') (h : K (a.put d undef) w') : wpOp P ops Q i K a w := by
  subst hd
  unfold wpOp
  simp only [hi, hw, if_true, Oper.wp, hrun, Oper.upon]
  exact .inl h
/-- A call of a Go function. -/
theorem callE {i : Nat} (d : Option Tmp) {o : Oper} {a : Act} {w : World} {K : Act → World → Prop} {f : FuncId} {args : Array Value} {R : Ending → World → Prop} (hi : ops[i]? = some o) (hd : o.dst = d) (hw : Region.wanted o (yielded ops a.tmps) = true)
    (hrun : (execOp a.eval o).run P w = .ok (.enter f args) w) (hc : Calls P f args w R) (h : ∀ e w', R e w' → ∃ v, e = .returned v ∧ K (a.put d v) w') : wpOp P ops Q i K a w := by
  subst hd
  unfold wpOp
  simp only [hi, hw, if_true]
  refine .inl ?_
  unfold Oper.wp
  rw [hrun, Oper.upon_enter]
  refine hc.mono ?_
  intro e w' he
  obtain ⟨v, rfl, h2⟩ := h e w' he
  exact h2
theorem region_E {id : Nat} {a : Act} {w : World} (S : World → Prop) (X : Nat → Bool) (hm : P.follows .mixedOrders = true)
    (h : wpAnyE P .any ops Q S X ops.size (Array.replicate ops.size false) a w.drew) : (Code.region id ops true).wp P Q a w :=
  wp_region_any hm (wpAny_of_E _ _ _ _ h)
end
end Go.Proofs.YtdbceafejbnebaaGreatDoor
/-! Appends, slices and rows in regions that draw their order. -/
namespace Go.Proofs.YtdbceafejbnebaaGreatDoor
open Go Go.RowKit
/-- What a slice shows of rows of cells, size cells each: nothing, or cells that are there. -/
def ViewAt (size : Nat) (w : World) (x : Value) (m : Nat) (news : List Value) : Prop :=
  (x = .slice none 0 0 ∧ m = 0 ∧ news = []) ∨ ∃ g off c, x = .slice (some ⟨g, off, none⟩) m c ∧ news.length = m * size ∧ ∀ j u, news[j]? = some u → w.cell? ⟨g, off + j, none⟩ = some u
theorem ViewAt.upd {size m : Nat} {w w' : World} {x : Value} {news : List Value} (h : ViewAt size w x m news) (hu : Upd [] w w') : ViewAt size w' x m news := by
  rcases h with h | ⟨g, off, c, h1, h2, h3⟩
  · exact .inl h
  · refine .inr ⟨g, off, c, h1, h2, fun j u hj => ?_⟩
    have q := h3 j u hj
    rw [cell_same (hu.block g (World.block_lt_of_cell? w ⟨g, off + j, none⟩ q) (by simp))]
    exact q
theorem ViewAt.grown {size m g off c : Nat} {w w' : World} {news : List Value} {row : Option Nat} (h : ViewAt size w (.slice (some ⟨g, off, none⟩) m c) m news) (hg : w.grownBy w' row) (hne : row ≠ some g) : ViewAt size w' (.slice (some ⟨g, off, none⟩) m c) m news := by
  rcases h with ⟨h, _⟩ | ⟨g', off', c', h1, h2, h3⟩
  · cases h
  · cases h1
    refine .inr ⟨g, off, c, rfl, h2, fun j u hj => ?_⟩
    have q := h3 j u hj
    rw [cell_same (hg.block g (World.block_lt_of_cell? w ⟨g, off + j, none⟩ q) (fun e => hne e.symm))]
    exact q
theorem run_append_view {P : Program} (w : World) (base : Nat) (t ty e : TypeId) (i : TypeInfo) (z : Value) (size bytes : Nat) (ht : P.underlying t = some (.slice e)) (hi : P.info? e = some i) (hz : i.zero = some z)
    (hsize : i.size = size) (hby : i.bytes = bytes) (hzs : z.cells.size = size) (hsz : 0 < size)
    (v : Value) (n : Nat) (xs : List Value) (hown : w.ownsRow base e size v n xs) (x : Value) (m : Nat) (news : List Value) (hx : ViewAt size w x m news) (h1 : ∀ u ∈ news, u.oneCell' = true)
    (h63 : n + m ≤ maxLen) (hbytes : (n + m) * bytes ≤ 140737488355328) (hbase : base ≤ w.heap.size) :
    ∃ v' w', (Builtin.append_ #[t, t] ty #[v, x]).run P w = .ok v' w' ∧ w'.ownsRow base e size v' (n + m) (xs ++ news) ∧ w.grownBy w' v.ownBlock := by
  rcases hx with ⟨rfl, rfl, rfl⟩ | ⟨g, off, c, rfl, hl, hn⟩
  · refine ⟨v, w, run_append_owned_none w base t ty e i size ht hi v n xs hown, ?_, ⟨rfl, rfl, rfl, Nat.le_refl _, fun _ _ _ => rfl⟩⟩
    rw [Nat.add_zero, List.append_nil]
    exact hown
  · obtain ⟨v', w', q1, q2, q3, _⟩ := run_append_own w base t ty e i z size bytes ht hi hz hsize hby hzs hsz v n xs hown ⟨g, off, none⟩ m c news hl (fun j u hj => by rw [Addr.add_lit]; exact hn j u hj) h1 h63 hbytes hbase
    exact ⟨v', w', q1, q2, q3⟩
theorem run_exec_append {P : Program} {w w' : World} (ρ : Operand → Value) (o : Oper) {s x : Operand} {t : TypeId} (ho : o.op = .call { callee := .builtin .append, args := #[s, x], argTypes := #[t, t] }) {v xv v' : Value} (hs : ρ s = v) (hx : ρ x = xv)
    (hr : (Builtin.append_ #[t, t] o.type #[v, xv]).run P w = .ok v' w') : (execOp ρ o).run P w = .ok (.value v') w' := by
  unfold execOp
  simp only [ho, resolve, invoke, builtin, Sem.run_bind, Sem.run_pure, Result.andThen_ok, List.map_toArray, List.map_cons, List.map_nil, hs, hx, hr]
/-- An append of keys, in whatever region: what it makes is the region's own. -/
theorem wpOp_app28 {ops : Array Oper} {Q : Exit → Act → World → Prop} {i : Nat} (d : Option Tmp) {o : Oper} {a : Act} {w W : World} {KK : Act → World → Prop} (hi : ops[i]? = some o) (hd : o.dst = d) (hw : Region.wanted o (yielded ops a.tmps) = true)
    (s x : Operand) (ho : o.op = .call { callee := .builtin .append, args := #[s, x], argTypes := #[28, 28] }) (v xv : Value) (hs : a.eval s = v) (hx : a.eval x = xv) (B : Nat) (R ys : List K)
    (hown : w.ownsRow B 31 32 v R.length (R.flatMap keyCells)) (hv : ViewAt 32 w xv ys.length (ys.flatMap keyCells)) (hl : R.length + ys.length ≤ 1000) (hB : W.heap.size ≤ B) (hb : B ≤ w.heap.size) (hu : Upd [] W w)
    (h : ∀ v' w', w'.ownsRow B 31 32 v' (R ++ ys).length ((R ++ ys).flatMap keyCells) → Upd [] W w' → w.grownBy w' v.ownBlock → KK (a.put d v') w') : wpOp Tryz.prog ops Q i KK a w := by
  subst hd
  obtain ⟨i0, hi0, hz0, hz1, hz2⟩ := info_parts Tryz.info31
  have hm : R.length + ys.length ≤ maxLen := Nat.le_trans hl (by decide)
  have hbig : (R.length + ys.length) * 32 ≤ 140737488355328 := Nat.le_trans (Nat.mul_le_mul_right 32 hl) (by decide)
  obtain ⟨v', w', q1, q2, q3⟩ := run_append_view (P := Tryz.prog) w B 28 o.type 31 i0 _ 32 32 Tryz.underlying28 hi0 hz0 hz1 hz2 rfl (by decide) v R.length _ hown xv ys.length _ hv
    (by intro u hu2; obtain ⟨k, _, hk⟩ := List.mem_flatMap.1 hu2; exact keyCells_one k u hk) hm hbig hb
  refine wpOp_run hi hw (run_exec_append a.eval o ho hs hx q1) (h v' w' ?_ ?_ q3)
  · rw [List.length_append, List.flatMap_append]
    exact q2
  · exact upd_grown hu q3 (fun k hk => Nat.le_trans hB (owns_block hown k hk))
theorem run_exec_slice0 (ρ : Operand → Value) (o : Oper) (ho : o.op = .buildSlice 28 0 #[]) (w : World) : (execOp ρ o).run Tryz.prog w = .ok (.value (.slice (some ⟨w.heap.size, 0, none⟩) 0 0)) (w.alloc (.cells #[] 31)) := by
  unfold execOp
  simp only [ho]
  kernel_rfl
theorem run_exec_slice1 {t e : TypeId} (ρ : Operand → Value) (o : Oper) {x : Operand} (ho : o.op = .buildSlice t 1 #[(0, x)]) (v : Value) (cs : List Value) (n : Nat) (hx : ρ x = v) (hv : v.cells = cs.toArray) (hl : cs.length = n) (hn : Hid (0 < n ∧ n ≤ 1000)) (ie : TypeInfo) (z : Value)
    (hu : Tryz.prog.underlying t = some (.slice e)) (hie : Tryz.prog.info? e = some ie) (hz : ie.zero = some z) (hsz : ie.size = n) (w : World) :
    (execOp ρ o).run Tryz.prog w = .ok (.value (.slice (some ⟨w.heap.size, 0, none⟩) 1 1)) (w.alloc (.cells cs.toArray e)) := by
  obtain ⟨h1, h2⟩ := hn.out
  have hr := run_buildSlice (P := Tryz.prog) w t e 1 #[(0, v)] cs.toArray ie z hu hie hz (by omega) (by omega) (fill_one (n := n) (by simp [hsz]) hl (by simp [hsz]) _ hv)
  unfold execOp
  simp only [ho, List.map_toArray, List.map_cons, List.map_nil, hx, Sem.run_bind, hr, Result.andThen_ok, Sem.run_pure]
theorem run_exec_slice1K (ρ : Operand → Value) (o : Oper) {x : Operand} (ho : o.op = .buildSlice 28 1 #[(0, x)]) (k : K) (hx : ρ x = .agg (keyCells k).toArray) (w : World) :
    (execOp ρ o).run Tryz.prog w = .ok (.value (.slice (some ⟨w.heap.size, 0, none⟩) 1 1)) (w.alloc (.cells (keyCells k).toArray 31)) := by
  obtain ⟨i0, hi0, hz0, hz1, hz2⟩ := info_parts Tryz.info31
  exact run_exec_slice1 ρ o ho _ (keyCells k) 32 hx rfl (keyCells_len k) (Lib.hid ⟨by decide, by decide⟩) i0 _ Tryz.underlying28 hi0 hz0 hz1 w
/-- 'x[:n]'. -/
theorem run_exec_slice_h (ρ : Operand → Value) (o : Oper) {x y : Operand} (ho : o.op = .slice 28 x none (some y) none) {ad : Option Addr} {n c k : Nat} (hx : ρ x = .slice ad n c) (hy : ρ y = .int .i64 k) (hk : k ≤ c) (w : World) :
    (execOp ρ o).run Tryz.prog w = .ok (.value (sliced ad 0 k c 32)) w := by
  have hr := run_slice_h (P := Tryz.prog) w 28 ad n c (by kernel_rfl) .i64 (k : Int) (by omega) (by omega)
  have hz : (sizeOf (Tryz.prog.elem 28)).run Tryz.prog w = .ok 32 w := by kernel_rfl
  rw [hz, Result.andThen_ok, Int.toNat_natCast] at hr
  have ha := run_sliceAt_slice (P := Tryz.prog) w 28 (.slice ad n c) none (some (.int .i64 (k : Int))) none (by kernel_rfl)
  unfold execOp
  simp only [ho, hx, hy, Option.map_none, Option.map_some, Sem.run_bind, ha, hr, Result.andThen_ok, Sem.run_pure]
/-- 'x[n:]'. -/
theorem run_exec_slice_l (ρ : Operand → Value) (o : Oper) {x y : Operand} (ho : o.op = .slice 28 x (some y) none none) {ad : Option Addr} {n c k : Nat} (hx : ρ x = .slice ad n c) (hy : ρ y = .int .i64 k) (hk : k ≤ n) (w : World) :
    (execOp ρ o).run Tryz.prog w = .ok (.value (sliced ad k n c 32)) w := by
  have hr := run_slice_l (P := Tryz.prog) w 28 ad n c (by kernel_rfl) .i64 (k : Int) (by omega) (by omega)
  have hz : (sizeOf (Tryz.prog.elem 28)).run Tryz.prog w = .ok 32 w := by kernel_rfl
  rw [hz, Result.andThen_ok, Int.toNat_natCast] at hr
  have ha := run_sliceAt_slice (P := Tryz.prog) w 28 (.slice ad n c) (some (.int .i64 (k : Int))) none none (by kernel_rfl)
  unfold execOp
  simp only [ho, hx, hy, Option.map_none, Option.map_some, Sem.run_bind, ha, hr, Result.andThen_ok, Sem.run_pure]
/-- A row of keys, or nothing, shows its keys. -/
theorem view_lo {w : World} {B : Nat} {v : Value} {R : List K} (h : w.ownsRow B 31 32 v R.length (R.flatMap keyCells)) (k : Nat) (hk : k ≤ R.length) :
    ∃ ad n c, v = .slice ad n c ∧ n = R.length ∧ R.length ≤ c ∧ ViewAt 32 w (sliced ad 0 k c 32) (R.take k).length ((R.take k).flatMap keyCells) ∧ ViewAt 32 w (sliced ad k n c 32) (R.drop k).length ((R.drop k).flatMap keyCells) := by
  have h0 := h
  obtain ⟨hl, ⟨rfl, hz⟩ | ⟨g, cap, cur, rfl, hb, hg, hc, hm, hs, ht⟩⟩ := h
  · have hR : R = [] := List.eq_nil_of_length_eq_zero (by simpa using hz)
    subst hR
    have hk0 : k = 0 := by simpa using hk
    subst hk0
    exact ⟨none, 0, 0, rfl, rfl, Nat.le_refl _, .inl ⟨rfl, rfl, rfl⟩, .inl ⟨rfl, rfl, rfl⟩⟩
  · have hcell : ∀ j u, (R.flatMap keyCells)[j]? = some u → w.cell? ⟨g, j, none⟩ = some u := by
      intro j u hj
      rw [cell_of_heap hg]
      have : (cur.toList.take (R.length * 32))[j]? = some u := by rw [ht]; exact hj
      rw [List.getElem?_take] at this
      split at this
      · simpa using this
      · cases this
    refine ⟨_, _, _, rfl, rfl, hc, .inr ⟨g, 0, cap, ?_, flat_len _, ?_⟩, ?_⟩
    · have e : (R.take k).length = k := by rw [List.length_take]; omega
      rw [e]
      unfold sliced
      rw [Nat.sub_zero, Nat.sub_zero]
      split <;> simp [Addr.add]
    · intro j u hj
      rw [Nat.zero_add]
      refine hcell j u ?_
      conv => lhs; rw [← List.take_append_drop k R, List.flatMap_append]
      rw [List.getElem?_append_left (List.getElem?_eq_some_iff.1 hj).1, hj]
    · have e : (R.drop k).length = R.length - k := by rw [List.length_drop]
      by_cases hck : cap = k
      · refine .inr ⟨g, 0, cap - k, ?_, flat_len _, ?_⟩
        · unfold sliced
          rw [if_pos hck, e]
        · intro j u hj
          exfalso
          have := (List.getElem?_eq_some_iff.1 hj).1
          rw [flat_len, e] at this
          omega
      · refine .inr ⟨g, k * 32, cap - k, ?_, flat_len _, ?_⟩
        · unfold sliced
          rw [if_neg hck, e]
          simp [Addr.add]
          omega
        · intro j u hj
          refine hcell (k * 32 + j) u ?_
          conv => lhs; rw [← List.take_append_drop k R, List.flatMap_append]
          have e2 : ((R.take k).flatMap keyCells).length = k * 32 := by rw [flat_len, List.length_take]; congr 1; omega
          rw [List.getElem?_append_right (by omega), e2, show k * 32 + j - k * 32 = j by omega, hj]
end Go.Proofs.YtdbceafejbnebaaGreatDoor
