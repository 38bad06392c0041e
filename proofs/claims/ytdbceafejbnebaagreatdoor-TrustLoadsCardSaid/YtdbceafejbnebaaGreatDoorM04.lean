/- Rows of keys: sorted, and each once. slices.Compact over keys. -/
import Derived.Test.YtdbceafejbnebaaGreatDoorM03
import Derived.Test.YtdbceafejbnebaaGreatDoorShelf
import Derived.Test.YtdbceafejbnebaaGreatDoorShelf2
import Derived.Deep.RegionHeld3
/-! Rows of keys: sorted, and each once. -/
namespace Go.Proofs.YtdbceafejbnebaaGreatDoor
open Go Go.RowKit
theorem run_part5 (xs : List UInt8) (i : Nat) (h : i < xs.length) (w : World) : (part 5 (xs.map byteV).toArray (i * 1)).run Tryz.prog w = .ok (byteV xs[i]) w := by
  have ha : (isAgg 5).run Tryz.prog w = .ok false w := by kernel_rfl
  simp only [part, Sem.run_bind, ha, Result.andThen_ok, Bool.false_eq_true, if_false, Nat.mul_one]
  simp [h]
theorem run_eqK (xs ys : List UInt8) (hx : xs.length = 32) (hy : ys.length = 32) (d : Nat) (w : World) :
    (Op.equalIn (d + 2) 31 (.agg (xs.map byteV).toArray) (.agg (ys.map byteV).toArray)).run Tryz.prog w = .ok (decide (xs = ys)) w := by
  have hsz : (sizeOf 5).run Tryz.prog w = .ok 1 w := by kernel_rfl
  rw [Op.equalIn]
  simp only [Sem.run_bind, run_underlying Tryz.underlying31, Result.andThen_ok, hsz]
  rw [Std.Legacy.Range.forIn_eq_forIn_range']
  have key : ∀ n s : Nat, s + n = 32 → (forIn (List.range' s n 1) ((none, ()) : Option Bool × Unit) fun i __s => do
            let a ← part 5 (List.map byteV xs).toArray (i * 1)
            let b ← part 5 (List.map byteV ys).toArray (i * 1)
            let c ← Op.equalIn (d + 1) 5 a b
            if (!c) = true then pure (ForInStep.done (some false, ())) else pure (ForInStep.yield (none, ())) : Sem (Option Bool × Unit)).run Tryz.prog w = .ok (if xs.drop s = ys.drop s then (none, ()) else (some false, ())) w := by
    intro n
    induction n with
    | zero =>
      intro s hs
      rw [List.drop_of_length_le (by omega), List.drop_of_length_le (by omega)]
      simp
    | succ n ih =>
      intro s hs
      have h1 : s < xs.length := by omega
      have h2 : s < ys.length := by omega
      have he : (Op.equalIn (d + 1) 5 (byteV xs[s]) (byteV ys[s])).run Tryz.prog w = .ok ((xs[s].toNat : Int) == (ys[s].toNat : Int)) w := run_equalIn_int w d 5 .u8 .u8 _ _ Tryz.underlying5
      rw [List.range'_succ, List.forIn_cons]
      simp only [Sem.run_bind, run_part5 xs s h1, run_part5 ys s h2, Result.andThen_ok, he, Sem.run_ite]
      have hd : (xs.drop s = ys.drop s) ↔ (xs[s] = ys[s] ∧ xs.drop (s + 1) = ys.drop (s + 1)) := by
        rw [List.drop_eq_getElem_cons h1, List.drop_eq_getElem_cons h2, List.cons.injEq]
      by_cases hc : xs[s] = ys[s]
      · rw [hc]
        simp only [beq_self_eq_true, Bool.not_true, Bool.false_eq_true, if_false, Sem.run_pure, Result.andThen_ok]
        rw [ih (s + 1) (by omega)]
        simp only [hd, hc, true_and]
      · have : ((xs[s].toNat : Int) == (ys[s].toNat : Int)) = false := by
          simp only [beq_eq_false_iff_ne, ne_eq]
          intro h
          exact hc (UInt8.toNat_inj.1 (by omega))
        simp only [this, Bool.not_false, if_true, Sem.run_pure, Result.andThen_ok, hd, hc, false_and, if_false]
  have h32 : (List.range' ([:32] : Std.Legacy.Range).start ([:32] : Std.Legacy.Range).size ([:32] : Std.Legacy.Range).step) = List.range' 0 32 1 := rfl
  rw [h32, key 32 0 rfl]
  simp only [List.drop_zero, Result.andThen_ok]
  by_cases h : xs = ys <;> simp [h]
theorem eqlK (x y : K) (w : World) : (binOp .eql 31 (.agg (keyCells x).toArray) (.agg (keyCells y).toArray)).run Tryz.prog w = .ok (.bool (decide (x = y))) w := by
  rw [run_eql_struct]
  have := run_eqK x.1 y.1 x.2 y.2 9998 w
  simp only [keyCells]
  rw [this]
  simp only [Result.andThen_ok, Subtype.ext_iff]
theorem neqK (x y : K) (w : World) : (binOp .neq 31 (.agg (keyCells x).toArray) (.agg (keyCells y).toArray)).run Tryz.prog w = .ok (.bool (!decide (x = y))) w := by
  rw [run_neq_struct]
  have := run_eqK x.1 y.1 x.2 y.2 9998 w
  simp only [keyCells]
  rw [this]
  simp only [Result.andThen_ok, Subtype.ext_iff]

/-- Block g is a row of 'cap' keys, of which the first are l. -/
def RowK (w : World) (g cap : Nat) (l : List K) : Prop :=
  ∃ sp : List Value, w.heap[g]? = some (.cells (l.flatMap keyCells ++ sp).toArray 31 (0, 0)) ∧ l.length * 32 + sp.length = cap * 32 ∧ cap ≤ maxLen
theorem flat_len (l : List K) : (l.flatMap keyCells).length = l.length * 32 := by
  induction l with
  | nil => rfl
  | cons k l ih => rw [List.flatMap_cons, List.length_append, ih, keyCells_len, List.length_cons]; omega
theorem flat_at (l : List K) : ∀ (i j : Nat) (hi : i < l.length) (_hj : j < 32), (l.flatMap keyCells)[i * 32 + j]? = (keyCells l[i])[j]? := by
  induction l with
  | nil => intro i j hi; simp at hi
  | cons k l ih =>
    intro i j hi hj
    rw [List.flatMap_cons]
    cases i with
    | zero => rw [Nat.zero_mul, Nat.zero_add, List.getElem?_append_left (by rw [keyCells_len]; exact hj)]; rfl
    | succ i =>
      rw [List.getElem?_append_right (by rw [keyCells_len]; omega), keyCells_len, show (i + 1) * 32 + j - 32 = i * 32 + j by omega, ih i j (by simpa using hi) hj]
      rfl
theorem RowK.range {w : World} {g cap : Nat} {l : List K} (h : RowK w g cap l) (i : Nat) (hi : i < l.length) : w.rangeAt g (i * 32) (keyCells l[i]) := by
  obtain ⟨sp, h1, h2, h3⟩ := h
  intro j v hj
  have hj32 : j < 32 := by have := (List.getElem?_eq_some_iff.1 hj).1; rwa [keyCells_len] at this
  rw [cell_of_heap h1]
  simp only [List.getElem?_toArray]
  rw [List.getElem?_append_left (by rw [flat_len]; omega), flat_at l i j hi hj32, hj]
theorem RowK.there {w : World} {g cap : Nat} {l : List K} (h : RowK w g cap l) (i : Nat) (hi : i < l.length) : w.there g (i * 32) 32 := by
  obtain ⟨sp, h1, h2, h3⟩ := h
  intro j hj
  refine ⟨?_, free_of_heap h1 _⟩
  rw [cell_of_heap h1]
  simp only [List.getElem?_toArray]
  rw [List.getElem?_eq_getElem (by rw [List.length_append, flat_len]; omega)]
  rfl
theorem RowK.of_owns {w : World} {base g n cap : Nat} {l : List K} (h : w.ownsRow base 31 32 (.slice (some ⟨g, 0, none⟩) n cap) n (l.flatMap keyCells)) : RowK w g cap l ∧ l.length = n ∧ base ≤ g ∧ n ≤ cap := by
  obtain ⟨h1, h2 | ⟨g', cap', cur, hv, hb, hg, hn, hm, hs, ht⟩⟩ := h
  · simp at h2
  · simp at hv
    obtain ⟨rfl, rfl⟩ := hv
    rw [flat_len] at h1
    refine ⟨⟨cur.toList.drop (n * 32), ?_, ?_, hm⟩, by omega, hb, hn⟩
    · rw [← ht, List.take_append_drop]; exact hg
    · simp; omega
theorem RowK.owns {w : World} {g cap : Nat} {l : List K} (h : RowK w g cap l) {base : Nat} (hb : base ≤ g) (n : Nat) (hn : n ≤ l.length) : w.ownsRow base 31 32 (.slice (some ⟨g, 0, none⟩) n cap) n ((l.take n).flatMap keyCells) := by
  obtain ⟨sp, h1, h2, h3⟩ := h
  refine ⟨by rw [flat_len, List.length_take, Nat.min_eq_left hn], .inr ⟨g, cap, _, rfl, hb, h1, by omega, h3, by rw [List.size_toArray, List.length_append, flat_len]; omega, ?_⟩⟩
  simp only []
  rw [List.take_append_of_le_length (by rw [flat_len]; omega)]
  conv => lhs; rw [← List.take_append_drop n l, List.flatMap_append]
  rw [List.take_left' (by rw [flat_len, List.length_take, Nat.min_eq_left hn])]

theorem flat_set (l : List K) (v : K) (tl : List Value) : ∀ (k : Nat), k < l.length → (l.flatMap keyCells ++ tl).take (k * 32) ++ keyCells v ++ (l.flatMap keyCells ++ tl).drop (k * 32 + 32) = (l.set k v).flatMap keyCells ++ tl := by
  induction l with
  | nil => intro k hk; simp at hk
  | cons x l ih =>
    intro k hk
    cases k with
    | zero =>
      simp only [Nat.zero_mul, List.take_zero, List.nil_append, Nat.zero_add, List.set_cons_zero, List.flatMap_cons, List.append_assoc]
      rw [List.drop_left' (keyCells_len x)]
    | succ k =>
      have := ih k (by simpa using hk)
      simp only [List.set_cons_succ, List.flatMap_cons, List.append_assoc] at this ⊢
      rw [← this, show (k + 1) * 32 = 32 + k * 32 by omega, List.take_append, List.drop_append, keyCells_len, List.take_of_length_le (by rw [keyCells_len]; omega), List.drop_of_length_le (by rw [keyCells_len]; omega), show 32 + k * 32 - 32 = k * 32 by omega, show 32 + k * 32 + 32 - 32 = k * 32 + 32 by omega]
      simp
theorem upd_setRow (w : World) (g : Nat) (cs : Array Value) : Upd [g] w (w.setRow g cs) := (Upd.refl [g] w).setRow (.inr (by simp)) cs
theorem RowK.setRow {w : World} {g cap : Nat} {l l' : List K} (h : RowK w g cap l) (cs : Array Value) (sp : List Value) (hc : cs = (l'.flatMap keyCells ++ sp).toArray) (hl : l'.length * 32 + sp.length = cap * 32) : RowK (w.setRow g cs) g cap l' := by
  obtain ⟨sp0, h1, h2, h3⟩ := h
  exact ⟨sp, by rw [← hc]; exact setRow_heap w g _ cs 31 (0, 0) h1, hl, h3⟩
/-- 's[k] = v' in a row of keys. -/
theorem wpList_store_key {ops : Array Oper} {rest : List Oper} {o : Oper} {a : Act} {w : World} {Q : Exit → Act → World → Prop} (hgd : o.guard = none) (x y : Operand) (ho : o.op = .store 31 x y)
    (g cap k : Nat) (l : List K) (v : K) (hx : a.eval x = .pointer (some ⟨g, k * 32, none⟩)) (hy : a.eval y = .agg (keyCells v).toArray) (hr : RowK w g cap l) (hk : k < l.length)
    (h : ∀ w', RowK w' g cap (l.set k v) → Upd [g] w w' → wpList Tryz.prog ops Q rest (a.put o.dst undef) w') : wpList Tryz.prog ops Q (o :: rest) a w := by
  refine wpList_plain hgd fun KK hKK => ?_
  obtain ⟨sp, h1, h2, h3⟩ := id hr
  have hst := run_storeCells_at (P := Tryz.prog) g (k * 32) 31 (keyCells v) 0 _ w h1 (by rw [List.size_toArray, List.length_append, flat_len, keyCells_len]; omega) (keyCells_one v)
  simp only [Nat.add_zero, keyCells_len] at hst
  rw [flat_set l v sp k hk] at hst
  have hsv : (storeVar 31 ⟨g, k * 32, none⟩ (.agg (keyCells v).toArray)).run Tryz.prog w = .ok () (w.setRow g ((l.set k v).flatMap keyCells ++ sp).toArray) := by
    have hi : (sizeOf 31).run Tryz.prog w = .ok 32 w := by kernel_rfl
    simp only [storeVar, Sem.run_bind, hi, Result.andThen_ok, Value.cells, List.size_toArray, keyCells_len]
    simpa using hst
  unfold Oper.wp execOp
  simp only [ho, hx, hy, Instr.storeAt, Instr.sureAddr, Sem.run_bind, Sem.run_pure, Result.andThen_ok, hsv]
  exact hKK _ _ (h _ (hr.setRow _ sp rfl (by simpa using h2)) (upd_setRow _ _ _))
end Go.Proofs.YtdbceafejbnebaaGreatDoor
/-! slices.Compact over keys. -/
namespace Go.Proofs.YtdbceafejbnebaaGreatDoor
open Go Go.RowKit

def dstep (R : List K) (x : K) : List K := if R.getLast? = some x then R else R ++ [x]
/-- Each of neighbours that are alike once. -/
def dedupF (l : List K) : List K := l.foldl dstep []
theorem dedupF_snoc (l : List K) (x : K) : dedupF (l ++ [x]) = dstep (dedupF l) x := by simp [dedupF]
theorem dedupF_last (l : List K) : (dedupF l).getLast? = l.getLast? := by
  rcases List.eq_nil_or_concat l with rfl | ⟨l, x, rfl⟩
  · rfl
  · rw [List.concat_eq_append, dedupF_snoc, dstep]
    split
    · rename_i h; rw [h]; simp
    · simp
theorem foldl_dstep_len (l : List K) : ∀ R, (l.foldl dstep R).length ≤ R.length + l.length := by
  induction l with
  | nil => intro R; simp
  | cons x l ih =>
    intro R
    have h := ih (dstep R x)
    have h2 : (dstep R x).length ≤ R.length + 1 := by unfold dstep; split <;> simp
    rw [List.foldl_cons, List.length_cons]
    omega
theorem dedupF_len (l : List K) : (dedupF l).length ≤ l.length := by have := foldl_dstep_len l []; simpa [dedupF] using this
theorem dedupF_short (l : List K) (h : l.length < 2) : dedupF l = l := by
  match l, h with
  | [], _ => rfl
  | [x], _ => simp [dedupF, dstep]
/-- One more, unlike the one ahead of it. -/
theorem dedupF_keep {l : List K} {k : Nat} (hk : k < l.length) (h1 : 1 ≤ k) (h : dedupF (l.take k) = l.take k) (hne : l[k] ≠ l[k - 1]) : dedupF (l.take (k + 1)) = l.take (k + 1) := by
  rw [← List.take_append_getElem hk, dedupF_snoc, h, dstep, if_neg]
  rw [List.getLast?_eq_getElem?, List.length_take, Nat.min_eq_left (by omega), List.getElem?_take, if_pos (by omega), List.getElem?_eq_getElem (by omega)]
  intro e
  exact hne (Option.some.inj e).symm

theorem World.rangeAt_drewN {w : World} {b o : Nat} {cs : List Value} (h : w.rangeAt b o cs) (n : Nat) : (w.drewN n).rangeAt b o cs := h
/-- The load of a key in a region that draws its order and only reads. -/
theorem wpQuiet_load_key {ops : Array Oper} {rest : List Oper} {o : Oper} {a : Act} {w : World} {Q : Act → Prop} (hg : o.guard = none) (x : Operand) (ho : o.op = .load 31 x)
    (g off : Nat) (v : K) (hx : a.eval x = .pointer (some ⟨g, off, none⟩)) (hr : w.rangeAt g off (keyCells v)) (h : wpQuiet Tryz.prog ops (fun w' => ∃ n, w' = w.drewN n) Q rest (a.put o.dst (.agg (keyCells v).toArray))) :
    wpQuiet Tryz.prog ops (fun w' => ∃ n, w' = w.drewN n) Q (o :: rest) a := by
  refine wpQuiet_step fun KK hKK => ?_
  rw [if_pos (by simp [Region.wanted, hg])]
  refine ⟨.agg (keyCells v).toArray, ?_, hKK _ h⟩
  rintro w' ⟨n, rfl⟩
  have hrun := run_loadAt_mid (P := Tryz.prog) (w.drewN n) g off 31 (keyCells v) _ (World.rangeAt_drewN hr n) Tryz.underlying31 rfl (by rw [Tryz.size31, keyCells_len])
  unfold Oper.quietAt execOp
  simp only [ho, hx, Sem.run_bind, hrun, Result.andThen_ok, Sem.run_pure]
  exact ⟨rfl, rfl⟩
theorem hu31 (k : K) : (Tryz.prog.info? 31).map (·.size) = some (keyCells k).length := by rw [Tryz.size31, keyCells_len]
theorem RowK.front {w : World} {g cap : Nat} {a b : List K} (h : RowK w g cap (a ++ b)) : RowK w g cap a := by
  obtain ⟨sp, h1, h2, h3⟩ := h
  refine ⟨b.flatMap keyCells ++ sp, ?_, ?_, h3⟩
  · rw [List.flatMap_append, List.append_assoc] at h1
    exact h1
  · rw [List.length_append] at h2
    rw [List.length_append, flat_len]
    omega
theorem zero31 (w : World) : (zeroValue 31).run Tryz.prog w = .ok (.agg (keyCells zeroK).toArray) w := by kernel_rfl
theorem clear_keys {w : World} {g cap : Nat} {R : List K} {xs : List K} (h : RowK w g cap (R ++ xs)) (off : Nat) (hoff : off = R.length * 32) (n c : Nat) (hn : n = xs.length) :
    ∃ w', (∀ ty, (Builtin.clear_ #[28] ty #[.slice (some ⟨g, off, none⟩) n c]).run Tryz.prog w = .ok (.tuple #[]) w') ∧ RowK w' g cap R ∧ Upd [g] w w' := by
  subst hoff hn
  obtain ⟨sp, h1, h2, h3⟩ := id h
  by_cases hz : xs = []
  · subst hz
    refine ⟨w, fun ty => ?_, h.front, Upd.refl _ _⟩
    simp [Builtin.clear_, run_underlying Tryz.underlying28]
  · have hlen : xs.length ≠ 0 := by simpa using hz
    have hsz : (Builtin.zeroCells (keyCells zeroK).toArray xs.length).toList.length = xs.length * 32 := by simp [Builtin.zeroCells, keyCells_len]
    have hst := run_storeCells_at (P := Tryz.prog) g (R.length * 32) 31 (Builtin.zeroCells (keyCells zeroK).toArray xs.length).toList 0 _ w h1
      (by rw [hsz, List.size_toArray, List.length_append, flat_len, List.length_append]; rw [List.length_append] at h2; omega)
      (by
        intro v hv
        have : v ∈ keyCells zeroK := by
          simp [Builtin.zeroCells] at hv
          obtain ⟨i, hi, rfl⟩ := hv
          have h32 : i % (keyCells zeroK).length < (keyCells zeroK).length := Nat.mod_lt _ (by rw [keyCells_len]; omega)
          rw [List.getElem?_eq_getElem h32]
          exact List.getElem_mem h32
        exact keyCells_one zeroK v this)
    simp only [Nat.add_zero] at hst
    obtain ⟨cs, hcs, hst⟩ : ∃ cs : Array Value, cs = (R.flatMap keyCells ++ ((Builtin.zeroCells (keyCells zeroK).toArray xs.length).toList ++ (List.drop (R.length * 32 + xs.length * 32) ((R ++ xs).flatMap keyCells ++ sp)))).toArray ∧
        (storeCells ⟨g, R.length * 32, none⟩ (Builtin.zeroCells (keyCells zeroK).toArray xs.length).toList 0).run Tryz.prog w = .ok () (w.setRow g cs) := by
      refine ⟨_, ?_, hst⟩
      rw [hsz]
      rw [List.take_append_of_le_length (by rw [flat_len, List.length_append]; omega), List.flatMap_append, List.take_left' (flat_len R), List.append_assoc]
    refine ⟨w.setRow g cs, fun ty => ?_, h.setRow (l' := R) cs _ hcs ?_, upd_setRow w g cs⟩
    · have e0 : (#[28] : Array TypeId)[0]? = some 28 := rfl
      have e1 : (#[Value.slice (some ⟨g, R.length * 32, none⟩) xs.length c] : Array Value)[0]? = some (Value.slice (some ⟨g, R.length * 32, none⟩) xs.length c) := rfl
      obtain ⟨n, hn⟩ : ∃ n, xs.length = n + 1 := ⟨xs.length - 1, by omega⟩
      rw [hn] at hst e1 ⊢
      simp only [Builtin.clear_, e0, e1, Sem.run_bind, run_underlying Tryz.underlying28, Result.andThen_ok, zero31, Value.cells, hst]
      rfl
    · rw [List.length_append, hsz, List.length_drop, List.length_append, flat_len, List.length_append] at *
      omega
theorem RowK.tail {w : World} {g cap c : Nat} {R l : List K} (h : RowK w g cap (R ++ l.drop c)) (hc : c = R.length) (i : Nat) (h1 : c ≤ i) (hi : i < l.length) : w.rangeAt g (i * 32) (keyCells l[i]) := by
  subst hc
  have hlt : i < (R ++ l.drop R.length).length := by rw [List.length_append, List.length_drop]; omega
  have := h.range i hlt
  rw [List.getElem_append_right h1, List.getElem_drop] at this
  have e : R.length + (i - R.length) = i := by omega
  simpa only [e] using this
theorem set_next {R l : List K} {c : Nat} (hc : c = R.length) (hlt : c < l.length) (v : K) : (R ++ l.drop c).set c v = (R ++ [v]) ++ l.drop (c + 1) := by
  subst hc
  rw [List.set_append_right _ _ (Nat.le_refl _), Nat.sub_self, List.drop_eq_getElem_cons hlt, List.set_cons_zero, List.append_assoc]
  rfl
theorem dedupF_same {l : List K} {i : Nat} (h1 : 1 ≤ i) (hi : i < l.length) (he : l[i] = l[i - 1]) : dedupF (l.take (i + 1)) = dedupF (l.take i) := by
  rw [← List.take_append_getElem hi, dedupF_snoc, dstep, if_pos]
  rw [dedupF_last, List.getLast?_eq_getElem?, List.length_take, Nat.min_eq_left (by omega), List.getElem?_take, if_pos (by omega), List.getElem?_eq_getElem (by omega), he]
theorem dedupF_new {l : List K} {i : Nat} (h1 : 1 ≤ i) (hi : i < l.length) (he : l[i] ≠ l[i - 1]) : dedupF (l.take (i + 1)) = dedupF (l.take i) ++ [l[i]] := by
  rw [← List.take_append_getElem hi, dedupF_snoc, dstep, if_neg]
  rw [dedupF_last, List.getLast?_eq_getElem?, List.length_take, Nat.min_eq_left (by omega), List.getElem?_take, if_pos (by omega), List.getElem?_eq_getElem (by omega)]
  intro e
  exact he (Option.some.inj e).symm
set_option maxHeartbeats 2000000 in
set_option maxRecDepth 100000 in
theorem compact69 (g cap : Nat) (l : List K) (w : World) (hr : RowK w g cap l) (hl : l.length ≤ 1000) :
    Calls Tryz.prog 69 #[.slice (some ⟨g, 0, none⟩) l.length cap] w fun e w' => e = .returned (.slice (some ⟨g, 0, none⟩) (dedupF l).length cap) ∧ Upd [g] w w' ∧ RowK w' g cap (dedupF l) := by
  have HL := Lib.hid hl
  have hcap : l.length ≤ cap := by obtain ⟨sp, _, h2, _⟩ := hr; omega
  clear hl
  by_cases h2 : l.length < 2
  · have h2' : (l.length : Int) < 2 := by omega
    have HR := Lib.hid hr
    clear hr
    go_enter Tryz.func69, Tryz.ntmps69
    go_wp2
    go_ret
    have hd := dedupF_short l h2
    rw [hd]
    exact ⟨rfl, Upd.refl _ _, HR.out⟩
  · have h2' : (2 : Int) ≤ (l.length : Int) := by omega
    have d2 : decide ((l.length : Int) < 2) = false := by simp; omega
    go_enter Tryz.func69, Tryz.ntmps69
    go_wp2
    have HR0 := Lib.hid (show RowK w g cap l ∧ dedupF (l.take 1) = l.take 1 from ⟨hr, dedupF_short _ (by simp; omega)⟩)
    have hll := HL.out
    have hI : (l.length : Int) ≤ 1000 := by omega
    clear hr hll
    go_loopw [3] (fun i wr => ∃ k : Nat, i = .int .i64 ((k : Int) + 1) ∧ k + 1 ≤ l.length ∧ Hid (RowK wr g cap l ∧ dedupF (l.take (k + 1)) = l.take (k + 1)) ∧ Upd [g] w wr) (fun i _ => l.length - (intOf i).toNat)
    case atStart => exact ⟨0, rfl, by omega, HR0, Upd.refl _ _⟩
    case round =>
      obtain ⟨k, rfl, hkn, hR, hu⟩ := hrel
      by_cases hlt : k + 1 < l.length
      · have r1 := hR.out.1.range (k + 1) hlt
        have r2 := hR.out.1.range k (by omega)
        have q := eqlK l[k + 1] l[k]
        obtain ⟨b0, hb0⟩ : ∃ b0 : Bool, b0 = decide (l[k + 1] = l[k]) := ⟨_, rfl⟩
        rw [← hb0] at q
        have HB0 := Lib.hid hb0
        clear hb0
        have i1 : (k : Int) + 1 < (l.length : Int) := by omega
        have wk : IntKind.i64.wrap ((k : Int) + 1 - 1) = (k : Int) := by rw [show (k : Int) + 1 - 1 = k by omega]; exact IntWalk.i64_in _ (by omega)
        have i4 : (k : Int) < (l.length : Int) := by omega
        have i5 : ((k : Int) + 1).toNat = k + 1 := by omega
        have R1 := Lib.hid r1
        have R2 := Lib.hid r2
        clear r1 r2
        go_wp2
        refine wp_region_quiet_lit (by kernel_rfl) (by kernel_rfl) ?_
        iterate 3 (go_big_quiet_want; go_big_quiet_op; go_big_quiet_on)
        refine wpQuiet_load_key rfl _ rfl g ((k + 1) * 32) l[k + 1] rfl R1.out ?_
        go_simp
        iterate 4 (go_big_quiet_want; go_big_quiet_op; go_big_quiet_on)
        refine wpQuiet_load_key rfl _ rfl g (k * 32) l[k] rfl R2.out ?_
        go_simp
        go_big_quiet_want
        go_big_quiet_op
        go_big_quiet_on
        refine wpQuiet_nil ?_
        intro nq
        clear q
        cases b0 with
        | true =>
          have he : l[k + 1] = l[k] := by have := HB0.out; simpa using this.symm
          have hd0 : dedupF (l.take (k + 1 + 1)) = l.take (k + 1) := by
            rw [← List.take_append_getElem hlt, dedupF_snoc, hR.out.2, dstep, if_pos]
            rw [List.getLast?_eq_getElem?, List.length_take, Nat.min_eq_left (by omega), List.getElem?_take, if_pos (by omega), List.getElem?_eq_getElem (by omega)]
            exact congrArg some he.symm
          clear he
          have i6 : k + 1 < l.length := hlt
          have hI2 : l.length ≤ 1000 := HL.out
          have c1 : ((l.length - (k + 1) : Nat) : Int) = (l.length : Int) - ((k : Int) + 1) := by omega
          have HW := Lib.hid hd0
          clear hd0
          go_wp2
          go_loopw [3, 5] (fun i j w2 => ∃ c m : Nat, i = .int .i64 (c : Int) ∧ j = .int .i64 (m : Int) ∧ 1 ≤ m ∧ k + 1 + m ≤ l.length ∧ 1 ≤ c ∧ c ≤ k + m ∧
              Hid (RowK w2 g cap (dedupF (l.take (k + 1 + m)) ++ l.drop c) ∧ c = (dedupF (l.take (k + 1 + m))).length) ∧ Upd [g] w w2) (fun _ j _ => l.length - (intOf j).toNat)
          case atStart =>
            refine ⟨k + 1, 1, by simp, rfl, by omega, by omega, by omega, by omega, Lib.hid ?_, hu.drewN nq⟩
            have e := HW.out
            rw [e]
            refine ⟨?_, ?_⟩
            · rw [List.take_append_drop]; exact hR.out.1
            · rw [List.length_take]; omega
          case round =>
            obtain ⟨c, m, rfl, rfl, hm1, hm2, hc1, hc2, hS, hu2⟩ := hrel
            by_cases hlt2 : m < l.length - (k + 1)
            · have hS1 := hS.out.1.tail hS.out.2 (k + 1 + m) (by omega) (by omega)
              have hS2 := hS.out.1.tail hS.out.2 (k + m) (by omega) (by omega)
              rw [Nat.add_mul (k + 1) m 32] at hS1
              rw [show (k + m) * 32 = (k + 1) * 32 + (m - 1) * 32 by omega] at hS2
              have q3 := neqK l[k + 1 + m] l[k + m]
              obtain ⟨bb, hbb⟩ : ∃ bb : Bool, bb = !decide (l[k + 1 + m] = l[k + m]) := ⟨_, rfl⟩
              rw [← hbb] at q3
              have HBB := Lib.hid hbb
              clear hbb
              have R3 := Lib.hid hS1
              have R4 := Lib.hid hS2
              clear hS1 hS2
              have j1 : (m : Int) < (l.length : Int) - ((k : Int) + 1) := by omega
              have j2 : m < l.length - (k + 1) := hlt2
              have j3 : m - 1 < l.length - (k + 1) := by omega
              have j4 : ((m : Int) - 1) = ((m - 1 : Nat) : Int) := by omega
              go_wp2
              refine wp_region_quiet_lit (by kernel_rfl) (by kernel_rfl) ?_
              iterate 3 (go_big_quiet_want; go_big_quiet_op; go_big_quiet_on)
              refine wpQuiet_load_key rfl _ rfl g ((k + 1) * 32 + m * 32) l[k + 1 + m] rfl R3.out ?_
              go_simp
              iterate 4 (go_big_quiet_want; go_big_quiet_op; go_big_quiet_on)
              refine wpQuiet_load_key rfl _ rfl g ((k + 1) * 32 + (m - 1) * 32) l[k + m] rfl R4.out ?_
              go_simp
              go_big_quiet_want
              go_big_quiet_op
              go_big_quiet_on
              refine wpQuiet_nil ?_
              intro nq2
              have k1 : (c : Int) < (l.length : Int) := by omega
              have k2 : c < l.length := by omega
              have k3 : c < (dedupF (l.take (k + 1 + m)) ++ l.drop c).length := by rw [List.length_append, ← hS.out.2, List.length_drop]; omega
              clear q3
              cases bb with
              | false =>
                have he2 : l[k + 1 + m] = l[k + m] := by have := HBB.out; simpa using this.symm
                have hd2 := dedupF_same (l := l) (i := k + 1 + m) (by omega) (by omega) (by simp only [show k + 1 + m - 1 = k + m by omega]; exact he2)
                have HE2 := Lib.hid hd2
                clear hd2 he2
                go_wp2
                go_roundw
                case rel =>
                  refine ⟨c, m + 1, rfl, by simp, by omega, by omega, by omega, by omega, Lib.hid ?_, hu2.drewN nq2⟩
                  have e := HE2.out
                  rw [show k + 1 + (m + 1) = k + 1 + m + 1 by omega, e]
                  exact hS.out
                case measure => simp [intOf]; omega
              | true =>
                have he2 : l[k + 1 + m] ≠ l[k + m] := by have := HBB.out; simpa using this.symm
                have hd2 := dedupF_new (l := l) (i := k + 1 + m) (by omega) (by omega) (by simp only [show k + 1 + m - 1 = k + m by omega]; exact he2)
                have HE2 := Lib.hid hd2
                clear hd2 he2
                go_wp2_with (first
                  | (refine wpList_load_mid rfl 31 _ rfl g ((k + 1) * 32 + m * 32) rfl (keyCells l[k + 1 + m]) _ R3.out Tryz.underlying31 rfl (hu31 _) ?_)
                  | (refine wpList_store_key rfl _ _ rfl g cap c _ l[k + 1 + m] rfl rfl hS.out.1 k3 ?_; intro w3 hr3 hu3))
                go_roundw
                case rel =>
                  have e := HE2.out
                  refine ⟨c + 1, m + 1, by simp, by simp, by omega, by omega, by omega, by omega, Lib.hid ?_, (hu2.drewN nq2).trans hu3⟩
                  rw [show k + 1 + (m + 1) = k + 1 + m + 1 by omega, e, List.length_append, ← hS.out.2]
                  rw [set_next hS.out.2 k2] at hr3
                  exact ⟨hr3, rfl⟩
                case measure => simp [intOf]; omega
            · have hm3 : k + 1 + m = l.length := by omega
              have k1 : (c : Int) ≤ (l.length : Int) := by omega
              have k2 : c ≤ l.length := by omega
              have hRR : RowK wr g cap (dedupF l ++ l.drop c) ∧ c = (dedupF l).length := by
                have := hS.out
                rw [hm3, List.take_length] at this
                exact this
              obtain ⟨w4, hcl, hr4, hu4⟩ := clear_keys hRR.1 (c * 32) (by rw [hRR.2]) (l.length - c) (cap - c) (by rw [List.length_drop])
              have HRR := Lib.hid (show RowK w4 g cap (dedupF l) ∧ c = (dedupF l).length from ⟨hr4, hRR.2⟩)
              have HM := Lib.hid hm3
              have m1 : (l.length : Int) - ((k : Int) + 1) ≤ (m : Int) := by omega
              clear hRR hm3 hr4
              go_wp2_with (simp only [hcl])
              go_ret
              have e := HRR.out
              rw [← e.2]
              exact ⟨rfl, hu2.trans hu4, e.1⟩
        | false =>
          have he : ¬ l[k + 1] = l[k] := by have := HB0.out; simpa using this.symm
          have HE := Lib.hid he
          clear he
          go_wp2
          go_roundw
          case rel =>
            refine ⟨k + 1, by simp, by omega, Lib.hid ⟨hR.out.1, ?_⟩, hu.drewN nq⟩
            exact dedupF_keep hlt (by omega) hR.out.2 HE.out
          case measure => simp [intOf]; omega
      · have hk : k + 1 = l.length := by omega
        have HK := Lib.hid hk
        clear hk
        go_wp2
        go_ret
        have hk := HK.out
        have hd : dedupF l = l := by have := hR.out.2; rw [hk] at this; simpa using this
        rw [hd]
        exact ⟨rfl, hu, hR.out.1⟩
end Go.Proofs.YtdbceafejbnebaaGreatDoor
