/- Operations inside a fence, by what they run to. Books: Bytes. -/
import Derived.Test.YtdbceafejbnebaaGreatDoorM09
/-! Operations inside a fence, by what they run to. -/
namespace Go.Proofs.YtdbceafejbnebaaGreatDoor
open Go Go.RowKit
section
variable {F : Fence} {n : Nat} {P : Program} {ops : Array Oper} {rest : List Oper} {o : Oper} {a : Act} {w w' : World} {Q : Exit → Act → World → Prop}
theorem wpListIn_run (hg : o.guard = none) (hd : ∀ c, o.op ≠ .defer c) (hab : o.about P w a.eval = none) (v : Value) (hrun : (execOp a.eval o).run P w = .ok (.value v) w') (h : wpListIn F n P ops Q rest (a.put o.dst v) w') : wpListIn F n P ops Q (o :: rest) a w := by
  refine wpListIn_plain hg fun K hK => ?_
  unfold Oper.wpIn
  rw [Oper.semAt_plain F _ _ hd, hrun]
  exact ⟨fun f hf => absurd hf (by rw [hab]; simp), hK _ _ h⟩
theorem wpListIn_run_skip (hg : o.guard = none) (hd : ∀ c, o.op ≠ .defer c) (hab : o.about P w a.eval = none) (hrun : (execOp a.eval o).run P w = .ok .skip w') (h : wpListIn F n P ops Q rest (a.put o.dst undef) w') : wpListIn F n P ops Q (o :: rest) a w := by
  refine wpListIn_plain hg fun K hK => ?_
  unfold Oper.wpIn
  rw [Oper.semAt_plain F _ _ hd, hrun]
  exact ⟨fun f hf => absurd hf (by rw [hab]; simp), hK _ _ h⟩
theorem wpListIn_load_mid (hg : o.guard = none) (ty : TypeId) (x : Operand) (ho : o.op = .load ty x) (b off : Nat) (hx : a.eval x = .pointer (some ⟨b, off, none⟩)) (cs : List Value) (d : TypeDesc) (hr : w.rangeAt b off cs)
    (hu : P.underlying ty = some d) (hd : d.isRow = true) (hi : (P.info? ty).map (·.size) = some cs.length) (h : wpListIn F n P ops Q rest (a.put o.dst (.agg cs.toArray)) w) : wpListIn F n P ops Q (o :: rest) a w :=
  wpListIn_run hg (by rw [ho]; intro c hc; cases hc) (by simp [Oper.about, ho]) _ (run_exec_load_mid a.eval o ho b off d cs hx hr hu hd hi) h
theorem wpListIn_store_whole (hg : o.guard = none) (ty : TypeId) (x y : Operand) (ho : o.op = .store ty x y) (b : Nat) (cells cur : Array Value) (hx : a.eval x = .pointer (some ⟨b, 0, none⟩)) (hy : a.eval y = .agg cells) (hb : w.heap[b]? = some (.cells cur ty (0, 0)))
    (hs : cells.size = cur.size) (hi : (P.info? ty).map (·.size) = some cells.size) (h1 : cells.all (·.oneCell') = true) (h : wpListIn F n P ops Q rest (a.put o.dst undef) (w.setRow b cells)) : wpListIn F n P ops Q (o :: rest) a w := by
  have ht : w.there b 0 cells.size := by
    intro j hj
    refine ⟨?_, free_of_heap hb _⟩
    rw [cell_of_heap hb, Nat.zero_add, Array.getElem?_eq_getElem (by omega)]
    rfl
  have hrun := run_exec_store_mid (P := P) (w := w) a.eval o ho b 0 cells hx hy ht hi h1
  have e := setCells_eq (w := w) 0 cells.toList hb (by simp; omega) (fun v hv => (Array.all_eq_true_iff_forall_mem.1 h1) v (by simpa using hv))
  rw [List.take_zero, List.nil_append, Nat.zero_add, List.drop_of_length_le (by simp; omega), List.append_nil, Array.toArray_toList] at e
  rw [e] at hrun
  exact wpListIn_run_skip hg (by rw [ho]; intro c hc; cases hc) (by simp [Oper.about, ho]) hrun h
theorem wpListIn_build2 (hg : o.guard = none) (t : TypeId) (i j : Nat) (x y : Operand) (ho : o.op = .build t #[(i, x), (j, y)])
    (vx vy v : Value) (hx : a.eval x = vx) (hy : a.eval y = vy) (hrun : (Instr.build t #[(i, vx), (j, vy)]).run P w = .ok v w)
    (h : wpListIn F n P ops Q rest (a.put o.dst v) w) : wpListIn F n P ops Q (o :: rest) a w := by
  refine wpListIn_run hg (by rw [ho]; intro c hc; cases hc) (by simp [Oper.about, ho]) v ?_ h
  unfold execOp
  simp only [ho, List.map_toArray, List.map_cons, List.map_nil, hx, hy, Sem.run_bind, hrun, Result.andThen_ok, Sem.run_pure]
theorem wpListIn_slice1 (hg : o.guard = none) (t e : TypeId) (x : Operand) (ho : o.op = .buildSlice t 1 #[(0, x)])
    (v : Value) (hx : a.eval x = v) (cs : List Value) (k : Nat) (hv : v.cells = cs.toArray) (hl : cs.length = k) (hn : Hid (0 < k ∧ k ≤ 1000)) (ie : TypeInfo) (z : Value)
    (hu : P.underlying t = some (.slice e)) (hie : P.info? e = some ie) (hz : ie.zero = some z) (hsz : ie.size = k)
    (h : wpListIn F n P ops Q rest (a.put o.dst (.slice (some ⟨w.heap.size, 0, none⟩) 1 1)) (w.alloc (.cells cs.toArray e))) : wpListIn F n P ops Q (o :: rest) a w := by
  obtain ⟨h1, h2⟩ := hn.out
  refine wpListIn_run hg (by rw [ho]; intro c hc; cases hc) (by simp [Oper.about, ho]) _ ?_ h
  have hf := run_buildSlice (P := P) w t e 1 (#[(0, x)].map fun (i, x) => (i, a.eval x)) cs.toArray ie z hu hie hz (by omega) (by omega) (by
    simp only [List.map_toArray, List.map_cons, List.map_nil, hx]
    exact fill_one (n := k) (by simp [hsz]) hl (by simp [hsz]) _ hv)
  unfold execOp
  simp only [ho, Sem.run_bind, hf, Result.andThen_ok, Sem.run_pure]
end
/-- A block that is cells stays where only a block turns that is none. -/
theorem kept_cells {X Y : World} {row : Option Nat} (hg : X.grownBy Y row) (hr : ∀ r, row = some r → ∃ o : Obj, X.heap[r]? = some o ∧ o.isCells = false) {q : Nat} {cs : Array Value} {t : TypeId} {fz : Nat × Nat} (h : X.heap[q]? = some (.cells cs t fz)) : Y.heap[q]? = some (.cells cs t fz) := by
  refine (hg.block q (lt_of_heap h) ?_).trans h
  intro e
  obtain ⟨o, ho, hc⟩ := hr q e.symm
  rw [h] at ho
  cases ho
  cases hc
theorem kept_owns {X Y : World} {row : Option Nat} (hg : X.grownBy Y row) (hr : ∀ r, row = some r → ∃ o : Obj, X.heap[r]? = some o ∧ o.isCells = false) {base size n : Nat} {e : TypeId} {v : Value} {xs : List Value} (h : X.ownsRow base e size v n xs) : Y.ownsRow base e size v n xs := by
  refine ⟨h.1, ?_⟩
  rcases h.2 with h2 | ⟨g, cap, cur, hv, hb, hgg, r⟩
  · exact .inl h2
  · exact .inr ⟨g, cap, cur, hv, hb, kept_cells hg hr hgg, r⟩
theorem kept_upd {S : List Nat} {W0 X Y : World} {row : Option Nat} (hu : Upd S W0 X) (hg : X.grownBy Y row) (hr : ∀ r, row = some r → W0.heap.size ≤ r) : Upd S W0 Y :=
  ⟨hg.os.trans hu.os, hg.tape.trans hu.tape, hg.output.trans hu.output, Nat.le_trans hu.size hg.size, fun k hk hS =>
    (hg.block k (Nat.lt_of_lt_of_le hk hu.size) (fun e => by have := hr k e.symm; omega)).trans (hu.block k hk hS)⟩
/-- What a body leaves as it was, at or beyond B: whatever is no cells. -/
theorem keepsFrom_of_upd {S : List Nat} {B : Nat} {W W' : World} (h : Upd S W W') (hS : ∀ s ∈ S, ∃ cs t fz, W.heap[s]? = some (.cells cs t fz)) : KeepsFrom B W W' := by
  refine ⟨h.size, fun k o hk ho hc => ?_⟩
  refine h.heap ho ?_
  intro hkS
  obtain ⟨cs, t, fz, e⟩ := hS k hkS
  rw [ho] at e
  cases e
  cases hc
end Go.Proofs.YtdbceafejbnebaaGreatDoor
/-! Books: Bytes. -/
namespace Go.Proofs.YtdbceafejbnebaaGreatDoor
open Go Go.RowKit Go.Shelf
attribute [local go_sem] Oper.semAt_some
def onesUpto (m : Cs) (k : Nat) : List One := (List.range k).filterMap fun a => if stOf m (UInt8.ofNat a) = 0 then none else some (UInt8.ofNat a, stOf m (UInt8.ofNat a), knOf m (UInt8.ofNat a))
theorem onesUpto_succ (m : Cs) (k : Nat) : onesUpto m (k + 1) = onesUpto m k ++ (if stOf m (UInt8.ofNat k) = 0 then [] else [(UInt8.ofNat k, stOf m (UInt8.ofNat k), knOf m (UInt8.ofNat k))]) := by
  unfold onesUpto
  rw [List.range_succ, List.filterMap_append]
  congr 1
  by_cases h : stOf m (UInt8.ofNat k) = 0 <;> simp [h]
def onesOf (m : Cs) : List One := onesUpto m 8
def bookB (acct : UInt8) (own : List K) (m : Cs) : List UInt8 := [acct] ++ (lenB own.length ++ keysB own) ++ (lenB (onesOf m).length ++ onesB (onesOf m))
/-- The marks that ranges over functions have left. -/
def Marks (ds : List Deferred) (w : World) : Prop := ∀ d ∈ ds, ∃ D, d = { target := .collected D, args := #[] } ∧ w.heap[D]? = some (.deferred (some []))
theorem leaves_marks {F : Fence} {n : Nat} {P : Program} {fn : Func} {tmps : Array Value} {R : Ending → World → Prop} {B : Nat} : ∀ (ds : List Deferred) (w : World), (∀ d ∈ ds, ∃ D, B ≤ D ∧ d = { target := .collected D, args := #[] } ∧ w.heap[D]? = some (.deferred (some []))) → ds.Nodup →
    (∀ w', (∀ k, k < B → w'.heap[k]? = w.heap[k]?) → (∀ (k : Nat) (o : Obj), w.heap[k]? = some o → o.isCells = true → w'.heap[k]? = some o) → w'.os = w.os → w'.tape = w.tape → w'.output = w.output → w.heap.size ≤ w'.heap.size → LeavesInM F n P fn tmps R [] .returning w') → LeavesInM F n P fn tmps R ds .returning w := by
  intro ds
  induction ds with
  | nil => intro w _ _ h; exact h w (fun _ _ => rfl) (fun _ _ h _ => h) rfl rfl rfl (Nat.le_refl _)
  | cons d ds ih =>
    intro w hd hn h
    obtain ⟨D, hB, rfl, hD⟩ := hd d (by simp)
    rw [List.nodup_cons] at hn
    refine ⟨by simp, .inl ⟨D, _, rfl, run_takeDeferred hD, ?_⟩⟩
    refine ih _ ?_ hn.2 ?_
    · intro e he
      obtain ⟨D', hB', rfl, hD'⟩ := hd e (by simp [he])
      refine ⟨D', hB', rfl, ?_⟩
      rw [World.putObj_heap_other]
      · exact hD'
      · intro e2
        subst e2
        exact hn.1 he
    · intro w' h1 h2 h3 h4 h5 h6
      refine h w' ?_ ?_ (h3.trans rfl) (h4.trans rfl) (h5.trans rfl) (by simpa using h6)
      · intro k hk
        rw [h1 k hk, World.putObj_heap_other (by omega)]
      · intro k o hk ho
        refine h2 k o ?_ ho
        have hne : k ≠ D := by
          intro e
          subst e
          rw [hD] at hk
          cases hk
          cases ho
        exact (World.putObj_heap_other hne).trans hk
/-- An Out of the call's own, w1 being the world ahead of it. -/
def OutR (w1 W : World) (p : Nat) (xs : List UInt8) : Prop := ∃ g, OutAt W p g xs ∧ Upd [] w1 W ∧ w1.heap.size ≤ p ∧ w1.heap.size ≤ g
theorem OutR.step {w1 W W' : World} {p g g' : Nat} {xs : List UInt8} (hu : Upd [] w1 W) (hp : w1.heap.size ≤ p) (hg : w1.heap.size ≤ g) (h : OutAt W' p g' xs ∧ (g' = g ∨ W.heap.size ≤ g') ∧ Upd [p, g] W W') : OutR w1 W' p xs := by
  obtain ⟨h1, h2, h3⟩ := h
  have := hu.size
  refine ⟨g', h1, hu.trans' h3 ?_, hp, by omega⟩
  intro y hy
  simp only [List.mem_cons, List.not_mem_nil, or_false] at hy
  exact .inr (by omega)
theorem u8R {w1 W : World} {p : Nat} {xs : List UInt8} (h : OutR w1 W p xs) (c : UInt8) (hl : xs.length + 1 ≤ 65536) :
    Calls Tryz.prog 38 #[.pointer (some ⟨p, 0, none⟩), .slice (some ⟨W.heap.size, 0, none⟩) 1 1] (W.alloc (.cells #[.int .u8 (c.toNat : Int)] 5)) fun e W' => e = .returned (.tuple #[]) ∧ Hid (OutR w1 W' p (xs ++ [c])) := by
  obtain ⟨g, h1, h2, h3, h4⟩ := h
  have hu := Upd.new W (.cells #[.int .u8 (c.toNat : Int)] 5)
  refine (u8_38 (h1.upd hu (by simp) (by simp)) ⟨W.heap.size, 0, none⟩ 1 [c] (World.news_of_block (heap_alloc_new W (.cells #[.int .u8 (c.toNat : Int)] 5 (0, 0)))) (by simp) (by simpa using hl)).mono ?_
  rintro e W' ⟨rfl, g', z⟩
  exact ⟨rfl, Lib.hid (OutR.step (h2.trans hu) h3 h4 z)⟩
theorem keysR {w1 W : World} {p : Nat} {xs : List UInt8} (h : OutR w1 W p xs) (gk cap : Nat) (l : List K) (hr : RowK W gk cap l) (hn : l.length ≤ 4) (hl : xs.length + 2 + l.length * 32 ≤ 65536) (hgk : gk < w1.heap.size) :
    Calls Tryz.prog 39 #[.pointer (some ⟨p, 0, none⟩), .int .i64 4, .slice (some ⟨gk, 0, none⟩) l.length cap, .func (.func 40) #[] #[]] W fun e W' => e = .returned (.tuple #[]) ∧ Hid (OutR w1 W' p (xs ++ lenB l.length ++ keysB l)) := by
  obtain ⟨g, h1, h2, h3, h4⟩ := h
  refine (putList39 h1 4 gk cap l hr (by omega) hn hl (by omega)).mono ?_
  rintro e W' ⟨rfl, g', z⟩
  exact ⟨rfl, Lib.hid (OutR.step h2 h3 h4 z)⟩
theorem onesR {w1 W : World} {p : Nat} {xs : List UInt8} (h : OutR w1 W p xs) (base b2 : Nat) (v : Value) (l : List One) (cells : List Value) (hv : W.ownsRow b2 70 3 v l.length cells) (hc : OnesAt base W l cells) (h8 : ∀ x ∈ l, x.2.2.length ≤ 4) (hn : l.length ≤ 8) (hl : xs.length + 2 + l.length * 136 ≤ 65536) :
    Calls Tryz.prog 41 #[.pointer (some ⟨p, 0, none⟩), .int .i64 8, v, .func (.func 42) #[] #[]] W fun e W' => e = .returned (.tuple #[]) ∧ Hid (OutR w1 W' p (xs ++ lenB l.length ++ onesB l)) := by
  obtain ⟨g, h1, h2, h3, h4⟩ := h
  refine (putOnes h1 8 base b2 v l cells hv hc h8 (by omega) hn hl).mono ?_
  rintro e W' ⟨rfl, g', z⟩
  exact ⟨rfl, Lib.hid (OutR.step h2 h3 h4 z)⟩
theorem onesOf_le (m : Cs) : (onesOf m).length ≤ 8 := by
  have := List.length_filterMap_le (fun a => if stOf m (UInt8.ofNat a) = 0 then none else some ((UInt8.ofNat a, stOf m (UInt8.ofNat a), knOf m (UInt8.ofNat a)) : One)) (List.range 8)
  rw [List.length_range] at this
  exact this
theorem knOf_le (m : Cs) (a : UInt8) : (knOf m a).length ≤ 4 := by
  unfold knOf
  cases conOf m a with
  | none => simp
  | some c => exact conUpto_len c 4
theorem onesOf_four (m : Cs) : ∀ x ∈ onesOf m, x.2.2.length ≤ 4 := by
  intro x hx
  unfold onesOf onesUpto at hx
  obtain ⟨a, _, h⟩ := List.mem_filterMap.1 hx
  split at h
  · cases h
  · cases h; exact knOf_le _ _
/-- Between two rounds over the accounts. -/
def Rel8 (w : World) (m : Cs) (k : Nat) (v : Value) (ds : List Deferred) (w' : World) : Prop :=
  Upd [] w w' ∧ (∃ cells, w'.ownsRow w.heap.size 70 3 v (onesUpto m k).length cells ∧ OnesAt w.heap.size w' (onesUpto m k) cells) ∧
    (∀ d ∈ ds, ∃ D, w.heap.size ≤ D ∧ d = { target := .collected D, args := #[] } ∧ w'.heap[D]? = some (.deferred (some []))) ∧ ds.Nodup
set_option maxHeartbeats 4000000 in
set_option maxRecDepth 100000 in
theorem bytes_book {w : World} {b g cap r : Nat} {acct : UInt8} {own : List K} {m : Cs} (hB : BookAt w b g cap r acct own m) (ho1 : 1 ≤ own.length) (ho : own.length ≤ 4) :
    Calls Tryz.prog 8 #[bookV b] w fun e w' => ∃ h c, e = .returned (.slice (some ⟨h, 0, none⟩) (bookB acct own m).length c) ∧ w'.ownsRow w.heap.size 5 1 (.slice (some ⟨h, 0, none⟩) (bookB acct own m).length c) (bookB acct own m).length ((bookB acct own m).map byteV) ∧ Upd [] w w' := by
  have HB := Lib.hid hB
  clear hB
  unfold bookV
  refine (callsIn_wide (n := 5)).1 (callsIn_of_wp_marks Tryz.func8 rfl trivial ?_ rfl)
  simp only [Tryz.ntmps8, List.size_toArray, List.length_cons, List.length_nil, Nat.reduceAdd, Nat.reduceSub, Array.replicate_succ, Array.replicate_zero, List.push_toArray, List.append_toArray, List.nil_append, List.cons_append]
  refine wpIn_wide.2 ?_
  go_upto_region 4 with fail
  go_wp2
  refine wp_loop (fun a w' => ∃ (v u4 u5 u14 u15 u16 u17 u18 u19 u20 u21 u22 u23 u24 u25 u26 u38 u39 u40 u41 u42 : Value) (k : Nat) (ds : List Deferred), a = ⟨#[.pointer (some ⟨b, 0, none⟩), undef, .slice none 0 0, v, u4, u5, undef, undef, undef, undef, undef, .pointer (some ⟨b, 0, none⟩), .bool false, .int .u8 (k : Int), u14, u15, u16, u17, u18, u19, u20, u21, u22, u23, u24, u25, u26, undef, undef, undef, undef, undef, undef, undef, undef, undef, undef, undef, u38, u39, u40, u41, u42, undef, undef, undef, undef, undef, undef, undef, undef, undef, undef, undef, undef, undef, undef, undef, undef, undef, undef, undef, undef, undef, undef, undef], ds⟩ ∧ k ≤ 8 ∧ IsSl v ∧ Hid (Rel8 w m k v ds w')) (fun a _ => 8 - (intOf (a.tmps.getD 13 undef)).toNat) ?start ?round
  case start =>
    refine ⟨.slice none 0 0, undef, undef, undef, undef, undef, undef, undef, undef, undef, undef, undef, undef, undef, undef, undef, undef, undef, undef, undef, undef, 0, [], rfl, by omega, ⟨none, 0, 0, rfl⟩, Lib.hid ⟨Upd.refl [] w, ⟨[], ⟨rfl, .inl ⟨rfl, rfl⟩⟩, rfl⟩, by simp, by simp⟩⟩
  case round =>
    rintro a w1 ⟨v, u4, u5, u14, u15, u16, u17, u18, u19, u20, u21, u22, u23, u24, u25, u26, u38, u39, u40, u41, u42, k, ds, rfl, hk, ⟨va, vn, vc, rfl⟩, HR⟩
    by_cases hlt : k < 8
    · have hltI : (k : Int) < 8 := by omega
      have hst := state_book (HB.out.upd0 HR.out.1) (UInt8.ofNat k)
      have hofk : byteV (UInt8.ofNat k) = .int .u8 (k : Int) := by
        unfold byteV
        have : (UInt8.ofNat k).toNat = k := by simp; omega
        rw [this]
      rw [hofk] at hst
      obtain ⟨st, hste⟩ : ∃ st, st = stOf m (UInt8.ofNat k) := ⟨_, rfl⟩
      rw [← hste] at hst
      unfold bookV byteV at hst
      have HST := Lib.hid hste
      clear hste hofk
      go_upto_if 23 with (go_at_call 14; refine hst.mono ?_; clear hst; rintro e w2 ⟨rfl, rfl⟩)
      have hbook := HB.out.upd0 HR.out.1
      obtain ⟨W1, hW1⟩ : ∃ X, w2.alloc (Obj.cells #[Value.int IntKind.u8 (k : Int), Value.int IntKind.u8 (st.toNat : Int), Value.slice none 0 0] 70) = X := ⟨_, rfl⟩
      have hu1 : Upd [] w2 W1 := by rw [← hW1]; exact Upd.new w2 _
      have hb1 : W1.heap[w2.heap.size]? = some (.cells #[.int .u8 (k : Int), .int .u8 (st.toNat : Int), .slice none 0 0] 70 (0, 0)) := by rw [← hW1]; exact heap_alloc_new w2 _
      have HS1 := Lib.hid (show W1.heap.size = w2.heap.size + 1 by rw [← hW1]; simp)
      rw [hW1]
      clear hW1
      have HU1 := Lib.hid hu1
      have HB1 := Lib.hid hb1
      by_cases h0 : st = 0
      · have hz : ((st.toNat : Int) != 0) = false := by rw [h0]; rfl
        have HZ := Lib.hid h0
        clear h0 hbook hu1 hb1
        go_wp2
        refine ⟨⟨.slice va vn vc, _, _, _, _, _, _, _, _, _, _, _, _, _, _, _, _, _, _, _, _, k + 1, ds, rfl, by omega, ⟨va, vn, vc, rfl⟩, Lib.hid ?_⟩, ?_⟩
        · obtain ⟨r1, ⟨cells, r2, r3⟩, r4, r5⟩ := HR.out
          have hu := HU1.out
          have e : onesUpto m (k + 1) = onesUpto m k := by
            rw [onesUpto_succ, ← HST.out, if_pos HZ.out, List.append_nil]
          refine ⟨r1.trans hu, ⟨cells, ?_, ?_⟩, ?_, r5⟩
          · rw [e]; exact owns_upd r2 hu (by simp)
          · rw [e]; exact r3.same (SameRows.of_upd hu (by simp))
          · intro d hd
            obtain ⟨D, z1, z2, z3⟩ := r4 d hd
            exact ⟨D, z1, z2, hu.heap z3 (by simp)⟩
        · simp [intOf]; omega
      · have hz : ((st.toNat : Int) != 0) = true := by
          have : st.toNat ≠ 0 := fun e => h0 (UInt8.toNat_inj.1 e)
          rw [bne_iff_ne]; omega
        have HZ := Lib.hid h0
        have h18 := keys18 (some ⟨b, 0, none⟩) (UInt8.ofNat k) W1
        have hofk : byteV (UInt8.ofNat k) = .int .u8 (k : Int) := by
          unfold byteV
          have : (UInt8.ofNat k).toNat = k := by simp; omega
          rw [this]
        rw [hofk] at h18
        unfold keysV at h18
        clear h0 hbook hu1 hb1
        go_wp2_with (go_at_call 18; refine h18.mono ?_; clear h18; rintro e w3 ⟨rfl, rfl⟩)
        obtain ⟨W0, hW0⟩ : ∃ X, (W1.alloc (Obj.cells #[Value.pointer (some ⟨b, 0, none⟩)] 24)).alloc (Obj.cells #[Value.int IntKind.u8 (k : Int)] 5) = X := ⟨_, rfl⟩
        have hu01 : Upd [] W1 W0 := by rw [← hW0]; exact (Upd.new W1 _).trans (Upd.new _ _)
        have hs01 : W0.heap.size = W1.heap.size + 2 := by rw [← hW0]; simp
        have hb01 : W0.heap[W1.heap.size]? = some (.cells #[bookV b] 24 (0, 0)) := by rw [← hW0]; exact heap_alloc2_old W1 _ _
        have hb02 : W0.heap[W1.heap.size + 1]? = some (.cells #[byteV (UInt8.ofNat k)] 5 (0, 0)) := by rw [← hW0, hofk]; exact heap_alloc2_new W1 _ _
        have hs1 := HS1.out
        obtain ⟨L, hL⟩ : ∃ L, L = w2.heap.size := ⟨_, rfl⟩
        have hbL : W0.heap[L]? = some (.cells #[.int .u8 (k : Int), .int .u8 (st.toNat : Int), .slice none 0 0] 70 (0, 0)) := by rw [hL]; exact hu01.heap HB1.out (by simp)
        have hbook0 := ((HB.out.upd0 HR.out.1).upd0 HU1.out).upd0 hu01
        rw [hW0, ← hL]
        have HLL := Lib.hid (show _ ∧ _ ∧ _ from ⟨hL, hs1, hs01⟩)
        clear hW0 hL hs1 hs01
        refine (wpIn_wide (n := 5)).1 ?_
        refine wpIn_rangeFunc_ownH rfl (by omega) (gf := 53) (lb := #[.pointer (some ⟨W1.heap.size, 0, none⟩), .pointer (some ⟨W1.heap.size + 1, 0, none⟩)]) rfl trivial (enters_of Tryz.func53 (by kernel_rfl) rfl)
          (keys_stops 4 (by omega) W1.heap.size (W1.heap.size + 1) (UInt8.ofNat k) W0 hbook0 hb01 hb02) keepT_t (fun W l o o' _ h hc _ => keepT_b W l o o' h hc) (Below.refl _ _) (fun _ => rfl)
          (fun pre W => Upd [L] W0 W ∧ ∃ vv, W.heap[L]? = some (.cells #[.int .u8 (k : Int), .int .u8 (st.toNat : Int), vv] 70 (0, 0)) ∧ IsSl vv ∧ W.ownsRow W0.heap.size 73 33 vv pre.length (pre.flatMap knCells))
          (fun _ _ _ => False)
          (fun pre X Y row hs hg hr => by
            obtain ⟨q1, vv, q2, q3, q4⟩ := hs
            have hr2 : ∀ r, row = some r → ∃ o : Obj, X.heap[r]? = some o ∧ o.isCells = false := fun r e => (hr r e).2
            exact ⟨kept_upd q1 hg (fun r e => (hr r e).1), vv, kept_cells hg hr2 q2, q3, kept_owns hg hr2 q4⟩)
          (fun _ _ _ _ _ hs _ _ => hs)
          ⟨Upd.refl _ _, .slice none 0 0, hbL, ⟨_, _, _, rfl⟩, ⟨rfl, .inl ⟨rfl, rfl⟩⟩⟩
          (fun x a' W => ∃ B3 B4 : Nat, W.heap[B3]? = some (.cells #[.int .u8 (k : Int), .int .u8 (x.1.toNat : Int)] 49 (0, 0)) ∧ W.heap[B4]? = some (.cells (keyCells x.2).toArray 31 (0, 0)) ∧ a' = { tmps := #[.pointer (some ⟨b, 0, none⟩), undef, .slice none 0 0, .slice va vn vc, .int .u8 (k : Int), .pointer (some ⟨L, 0, none⟩), .pointer (some ⟨B3, 0, none⟩), .pointer (some ⟨B4, 0, none⟩), undef, undef, undef, .pointer (some ⟨b, 0, none⟩), .bool false, .int .u8 (k : Int), .bool true, .int .u8 (k : Int), .int .u8 (k : Int), .pointer (some ⟨b, 0, none⟩), .int .u8 (k : Int), .int .u8 (st.toNat : Int), .agg #[.int .u8 (k : Int), .int .u8 (st.toNat : Int), .slice none 0 0], .pointer (some ⟨L, 1, none⟩), .int .u8 (st.toNat : Int), .bool true, .pointer (some ⟨b, 0, none⟩), .int .u8 (k : Int), .func (.func 53) #[] #[.pointer (some ⟨W1.heap.size, 0, none⟩), .pointer (some ⟨W1.heap.size + 1, 0, none⟩)], .agg #[.int .u8 (k : Int), .int .u8 (x.1.toNat : Int)], .agg (keyCells x.2).toArray, undef, undef, undef, undef, undef, undef, undef, undef, undef, u38, u39, u40, u41, u42, undef, undef, undef, undef, undef, undef, undef, undef, undef, undef, undef, undef, undef, undef, undef, undef, undef, undef, undef, undef, undef, undef, undef], defers := [] })
          (fun x a' _ X Y row hs hg hr => by
            obtain ⟨B3, B4, q1, q2, q3⟩ := hs
            have hr2 : ∀ r, row = some r → ∃ o : Obj, X.heap[r]? = some o ∧ o.isCells = false := fun r e => (hr r e).2
            exact ⟨B3, B4, kept_cells hg hr2 q1, kept_cells hg hr2 q2, q3⟩)
          ?assign ?body ?done ?stop
        case assign =>
          intro l pre x W K hi hK
          have hz31 : ((W.alloc (.cells #[.int .u8 (k : Int), .int .u8 (x.1.toNat : Int)] 49)).alloc (.cells zc.toArray 31)).heap[W.heap.size + 1]? = some (.cells zc.toArray 31 (0, 0)) := heap_alloc2_new W _ _
          have HZ31 := Lib.hid hz31
          clear hz31
          simp only [encKn, devV, hofk]
          unfold byteV
          gi_wp2_with (first | (refine wpListIn_store_whole rfl 31 _ _ rfl (W.heap.size + 1) (keyCells x.2).toArray zc.toArray rfl rfl HZ31.out (by simp [keyCells_len, zc_len]) (size31 (keyCells_len x.2)) (keyCells_all x.2) ?_))
          have ha := setRow_heap ((W.alloc (.cells #[.int .u8 (k : Int), .int .u8 (x.1.toNat : Int)] 49)).alloc (.cells zc.toArray 31)) (W.heap.size + 1) zc.toArray (keyCells x.2).toArray 31 (0, 0) HZ31.out
          have hu2 : Upd [] W (((W.alloc (.cells #[.int .u8 (k : Int), .int .u8 (x.1.toNat : Int)] 49)).alloc (.cells zc.toArray 31)).setRow (W.heap.size + 1) (keyCells x.2).toArray) := ((Upd.new W _).trans (Upd.new _ _)).setRow (.inl (by omega)) _
          have hb : (((W.alloc (.cells #[.int .u8 (k : Int), .int .u8 (x.1.toNat : Int)] 49)).alloc (.cells zc.toArray 31)).setRow (W.heap.size + 1) (keyCells x.2).toArray).heap[W.heap.size]? = some (.cells #[.int .u8 (k : Int), .int .u8 (x.1.toNat : Int)] 49 (0, 0)) := by
            rw [setRow_other _ _ _ _ (by omega)]
            exact heap_alloc2_old W _ _
          obtain ⟨hi1, vv, hi2, hi3, hi4⟩ := hi
          refine hK _ _ (keepsFrom_of_upd hu2 (by simp)) hu2.keepT0 ⟨hi1.trans (hu2.mono (by simp)), vv, hu2.heap hi2 (by simp), hi3, owns_upd hi4 hu2 (by simp)⟩ ⟨W.heap.size, W.heap.size + 1, hb, ha, rfl⟩
        case body =>
          rintro l pre x a' W hl _ ⟨hu, vv, hLc, ⟨ad, an, ac, rfl⟩, hown⟩ ⟨B3, B4, h3, h4, rfl⟩ hlen
          obtain ⟨i0, hi, hz0, hz1, hz2⟩ := info_parts Tryz.info73
          have hs0 : W0.heap.size ≤ W.heap.size := hu.size
          have c1 : W.cell? ⟨L, 2, none⟩ = some (.slice ad an ac) := cell_of_heap hLc 2
          have c2 : W.cell? ⟨B3, 1, none⟩ = some (.int .u8 (x.1.toNat : Int)) := cell_of_heap h3 1
          have c3 : W.rangeAt B4 0 (keyCells x.2) := by
            intro j u hj
            rw [cell_of_heap h4, Nat.zero_add]
            simp only [List.getElem?_toArray]
            exact hj
          have hua : Upd [] W (W.alloc (.cells (knCells x).toArray 73)) := Upd.new W _
          have hna := heap_alloc_new W (.cells (knCells x).toArray 73 (0, 0))
          have hpost : ∀ v1 w3, w3.ownsRow W0.heap.size 73 33 v1 (pre.length + 1) (pre.flatMap knCells ++ knCells x) → (W.alloc (.cells (knCells x).toArray 73)).grownBy w3 (Value.slice ad an ac).ownBlock →
              Hid (w3.heap[L]? = some (.cells #[.int .u8 (k : Int), .int .u8 (st.toNat : Int), .slice ad an ac] 70 (0, 0)) ∧ IsSl v1 ∧ Upd [L] W0 (w3.setCell ⟨L, 2, none⟩ v1) ∧ KeepsFrom W0.heap.size W (w3.setCell ⟨L, 2, none⟩ v1) ∧ KeepT W (w3.setCell ⟨L, 2, none⟩ v1) ∧
                (w3.setCell ⟨L, 2, none⟩ v1).heap[L]? = some (.cells #[.int .u8 (k : Int), .int .u8 (st.toNat : Int), v1] 70 (0, 0)) ∧ (w3.setCell ⟨L, 2, none⟩ v1).ownsRow W0.heap.size 73 33 v1 (pre ++ [x]).length ((pre ++ [x]).flatMap knCells)) := by
            intro v1 w3 q1 q2
            have hL0 : L < W0.heap.size := lt_of_heap hbL
            have hob : ∀ q, (Value.slice ad an ac).ownBlock = some q → W0.heap.size ≤ q ∧ ∃ cs fz, W.heap[q]? = some (.cells cs 73 fz) := by
              intro q hq
              obtain ⟨_, ⟨z, _⟩ | ⟨g', cap', cur, z, z2, z3, _⟩⟩ := hown
              · rw [z] at hq; simp [Value.ownBlock] at hq
              · rw [z] at hq
                simp [Value.ownBlock] at hq
                subst hq
                exact ⟨z2, _, _, z3⟩
            have hu3 : Upd [L] W0 w3 := upd_grown (hu.trans (hua.mono (by simp))) q2 (fun q hq => (hob q hq).1)
            have hwq : Upd (match (Value.slice ad an ac).ownBlock with | some q => [q] | none => []) W w3 := by
              refine ⟨q2.os.trans hua.os, q2.tape.trans hua.tape, q2.output.trans hua.output, Nat.le_trans hua.size q2.size, fun q hq hS => ?_⟩
              refine (q2.block q (Nat.lt_of_lt_of_le hq hua.size) ?_).trans (hua.block q hq (by simp))
              intro e
              rw [← e] at hS
              simp at hS
            have hL3 : w3.heap[L]? = some (.cells #[.int .u8 (k : Int), .int .u8 (st.toNat : Int), .slice ad an ac] 70 (0, 0)) := by
              refine (q2.block L (Nat.lt_of_lt_of_le (lt_of_heap hLc) hua.size) ?_).trans (hua.heap hLc (by simp))
              intro e
              have := (hob L e.symm).1
              omega
            have hwL : Upd (L :: (match (Value.slice ad an ac).ownBlock with | some q => [q] | none => [])) W (w3.setCell ⟨L, 2, none⟩ v1) := (hwq.mono (fun x hx _ => List.mem_cons_of_mem _ hx)).setCell (.inr (by simp)) _
            have hcells : ∀ s ∈ (L :: (match (Value.slice ad an ac).ownBlock with | some q => [q] | none => [])), ∃ cs t fz, W.heap[s]? = some (.cells cs t fz) ∧ (t = 70 ∨ t = 73) := by
              intro s hs
              rcases List.mem_cons.1 hs with rfl | hs
              · exact ⟨_, _, _, hLc, .inl rfl⟩
              · cases hq : (Value.slice ad an ac).ownBlock with
                | none => rw [hq] at hs; simp at hs
                | some q =>
                  rw [hq] at hs
                  simp at hs
                  subst hs
                  obtain ⟨_, cs, fz, z⟩ := hob s hq
                  exact ⟨cs, 73, fz, z, .inr rfl⟩
            refine Lib.hid ⟨hL3, owns_isSl q1, hu3.setCell (.inr (by simp)) _, keepsFrom_of_upd hwL (fun s hs => by obtain ⟨cs, t, fz, z, _⟩ := hcells s hs; exact ⟨cs, t, fz, z⟩), hwL.keepT ?_, heap_setCell_same hL3 2 _, ?_⟩
            · intro s hs cs t fz hz
              obtain ⟨cs', t', fz', z, ht⟩ := hcells s hs
              rw [hz] at z
              cases z
              rcases ht with rfl | rfl <;> decide
            · rw [List.length_append, List.flatMap_append]
              simp only [List.length_cons, List.length_nil, List.flatMap_cons, List.flatMap_nil, List.append_nil]
              refine ⟨q1.1, ?_⟩
              rcases q1.2 with z | ⟨g', cap', cur, z1, z2, z3, z4⟩
              · exact .inl z
              · exact .inr ⟨g', cap', cur, z1, z2, (Below.heap_setCell _ _ _ _ (by show g' ≠ L; omega)).trans z3, z4⟩
          have HP := Lib.hid hpost
          have HO := Lib.hid (show _ ∧ _ ∧ _ from ⟨owns_upd hown hua (by simp), hna, c3⟩)
          have hm1 : pre.length + 1 ≤ maxLen := Nat.le_trans (show pre.length + 1 ≤ 5 by omega) (by decide)
          have hm2 : (pre.length + 1) * 33 ≤ 140737488355328 := by omega
          have HM := Lib.hid (show _ ∧ _ ∧ _ from ⟨hm1, hm2, hs0⟩)
          clear hm1 hm2 hs0 hpost hua hna c3 hown h3 h4 hLc
          gi_wp2_with (first
            | (refine wpListIn_load_mid rfl 31 _ rfl B4 0 rfl (keyCells x.2) _ HO.out.2.2 Tryz.underlying31 rfl (hu31 _) ?_)
            | (refine wpListIn_build2 rfl 73 0 1 _ _ rfl (.int .u8 (x.1.toNat : Int)) (.agg (keyCells x.2).toArray) (.agg (knCells x).toArray) rfl rfl (run_build73 x.1 (keyCells x.2) (keyCells_len x.2) _) ?_)
            | (refine wpListIn_slice1 rfl 68 73 _ rfl (.agg (knCells x).toArray) rfl (knCells x) 33 rfl (knCells_len x) (Lib.hid ⟨by omega, by omega⟩) i0 _ Tryz.underlying68 hi hz0 hz1 ?_)
            | (gi_at_builtin; refine wpListIn_append_own _ rfl _ _ 68 rfl W0.heap.size 73 i0 _ 33 33 Tryz.underlying68 hi hz0 hz1 hz2 rfl (by decide) _ pre.length (pre.flatMap knCells) rfl HO.out.1 _ 1 1 (knCells x) rfl (by rw [knCells_len]) (World.news_of_block HO.out.2.1) (knCells_one x) HM.out.1 HM.out.2.1 (by have := HM.out.2.2; simp; omega) ?_; intro v1 w3 hown3 hgrow3 _; have HQ := HP.out v1 w3 hown3 hgrow3; have d1 := cell_of_heap HQ.out.1 2; have d2 := free_of_heap HQ.out.1 2; obtain ⟨a1, n1, k1, rfl⟩ := HQ.out.2.1))
          exact ⟨HQ.out.2.2.2.1, HQ.out.2.2.2.2.1, HQ.out.2.2.1, _, HQ.out.2.2.2.2.2.1, HQ.out.2.1, HQ.out.2.2.2.2.2.2⟩
        case done =>
          rintro D ys W hD rfl ⟨hu, vv, hLc, ⟨ad, an, ac, rfl⟩, hown⟩ hK
          obtain ⟨r1, ⟨cells, r2, r3⟩, r4, r5⟩ := HR.out
          obtain ⟨hL, hs1, hs01⟩ := HLL.out
          have huW : Upd [] w2 W := ((HU1.out.trans hu01).trans' hu (by intro y hy; rw [List.mem_singleton] at hy; subst hy; exact .inr (by omega)))
          have c0 : W.cell? ⟨L, 0, none⟩ = some (.int .u8 (k : Int)) := cell_of_heap hLc 0
          have c1 : W.cell? ⟨L, 1, none⟩ = some (.int .u8 (st.toNat : Int)) := cell_of_heap hLc 1
          have c2 : W.cell? ⟨L, 2, none⟩ = some (.slice ad an ac) := cell_of_heap hLc 2
          obtain ⟨i0, hi, hz0, hz1, hz2⟩ := info_parts Tryz.info70
          have hs0 : w.heap.size ≤ W.heap.size := Nat.le_trans r1.size huW.size
          have hlen : (onesUpto m k).length ≤ 8 := by
            have := List.length_filterMap_le (fun a => if stOf m (UInt8.ofNat a) = 0 then none else some ((UInt8.ofNat a, stOf m (UInt8.ofNat a), knOf m (UInt8.ofNat a)) : One)) (List.range k)
            rw [List.length_range] at this
            exact Nat.le_trans this (by omega)
          obtain ⟨W5, hW5⟩ : ∃ X, W.alloc (.cells #[.int .u8 (k : Int), .int .u8 (st.toNat : Int), .slice ad an ac] 70) = X := ⟨_, rfl⟩
          have hu5 : Upd [] W W5 := by rw [← hW5]; exact Upd.new W _
          have hn5 : W5.heap[W.heap.size]? = some (.cells #[.int .u8 (k : Int), .int .u8 (st.toNat : Int), .slice ad an ac] 70 (0, 0)) := by rw [← hW5]; exact heap_alloc_new W _
          have hown5 : W5.ownsRow w.heap.size 70 3 (.slice va vn vc) (onesUpto m k).length cells := owns_upd r2 (huW.trans hu5) (by simp)
          have hone5 : OneAt w.heap.size W5 (UInt8.ofNat k, st, knOf m (UInt8.ofNat k)) [.int .u8 (k : Int), .int .u8 (st.toNat : Int), .slice ad an ac] := by
            refine ⟨.slice ad an ac, ?_, ⟨_, _, _, rfl⟩, owns_upd (owns_base hown (by have := r1.size; omega)) hu5 (by simp)⟩
            rw [hofk]
            rfl
          have hones5 : OnesAt w.heap.size W5 (onesUpto m k) cells := r3.same (SameRows.of_upd (huW.trans hu5) (by simp))
          have hmarks : ∀ d ∈ ({ target := .collected D, args := #[] } : Deferred) :: ds, ∃ D', w.heap.size ≤ D' ∧ d = { target := .collected D', args := #[] } ∧ W5.heap[D']? = some (.deferred (some [])) := by
            intro d hd
            rcases List.mem_cons.1 hd with rfl | hd
            · exact ⟨D, by have := r1.size; omega, rfl, hu5.heap hK (by simp)⟩
            · obtain ⟨D', z1, z2, z3⟩ := r4 d hd
              exact ⟨D', z1, z2, (huW.trans hu5).heap z3 (by simp)⟩
          have hnd : (({ target := .collected D, args := #[] } : Deferred) :: ds).Nodup := by
            rw [List.nodup_cons]
            refine ⟨?_, r5⟩
            intro hmem
            obtain ⟨D', z1, z2, z3⟩ := r4 _ hmem
            simp only [Deferred.mk.injEq, Target.collected.injEq, and_true] at z2
            have := lt_of_heap z3
            omega
          have hpost : ∀ v1 w4, w4.ownsRow w.heap.size 70 3 v1 ((onesUpto m k).length + 1) (cells ++ [.int .u8 (k : Int), .int .u8 (st.toNat : Int), .slice ad an ac]) → W5.grownBy w4 (Value.slice va vn vc).ownBlock →
              Hid (IsSl v1 ∧ Rel8 w m (k + 1) v1 (({ target := .collected D, args := #[] } : Deferred) :: ds) w4) := by
            intro v1 w4 q1 q2
            have hob : ∀ q, (Value.slice va vn vc).ownBlock = some q → w.heap.size ≤ q ∧ ∃ cs fz, W5.heap[q]? = some (.cells cs 70 fz) := by
              intro q hq
              obtain ⟨_, ⟨z, _⟩ | ⟨g', cap', cur, z, z2, z3, _⟩⟩ := hown5
              · rw [z] at hq; simp [Value.ownBlock] at hq
              · rw [z] at hq
                simp [Value.ownBlock] at hq
                subst hq
                exact ⟨z2, _, _, z3⟩
            have hu4 : Upd [] w w4 := upd_grown ((r1.trans huW).trans hu5) q2 (fun q hq => (hob q hq).1)
            have hsame : SameRows 73 W5 w4 := by
              intro q cur hq
              refine q2.block q (lt_of_heap hq) ?_
              intro e
              obtain ⟨_, cs, fz, z⟩ := hob q e.symm
              rw [hq] at z
              simp at z
            have e : onesUpto m (k + 1) = onesUpto m k ++ [(UInt8.ofNat k, st, knOf m (UInt8.ofNat k))] := by
              rw [onesUpto_succ, ← HST.out, if_neg HZ.out]
            refine Lib.hid ⟨owns_isSl q1, hu4, ⟨cells ++ [.int .u8 (k : Int), .int .u8 (st.toNat : Int), .slice ad an ac], ?_, ?_⟩, ?_, hnd⟩
            · rw [e, List.length_append]; exact q1
            · rw [e]; exact (hones5.same hsame).snoc (hone5.same hsame)
            · intro d hd
              obtain ⟨D', z1, z2, z3⟩ := hmarks d hd
              refine ⟨D', z1, z2, (q2.block D' (lt_of_heap z3) ?_).trans z3⟩
              intro e2
              obtain ⟨_, cs, fz, z⟩ := hob D' e2.symm
              rw [z3] at z
              cases z
          have HP := Lib.hid hpost
          have HO := Lib.hid (show _ ∧ _ ∧ _ from ⟨hown5, hn5, hs0⟩)
          have hm1 : (onesUpto m k).length + 1 ≤ maxLen := Nat.le_trans (show (onesUpto m k).length + 1 ≤ 9 by omega) (by decide)
          have hm2 : ((onesUpto m k).length + 1) * 32 ≤ 140737488355328 := by omega
          have HM := Lib.hid (show _ ∧ _ ∧ _ ∧ _ from ⟨hm1, hm2, hW5, hu5.size⟩)
          clear hm1 hm2 hs0 hpost hown5 hn5 hW5 hu5 hone5 hones5 hmarks hnd hlen r1 r2 r3 r4 r5 hL hs1 hs01 huW hu hLc hown hK hofk hbook0 hb01 hb02 hbL hu01
          go_simp
          go_wp2_with (first
            | (refine wpList_slice1 rfl 66 70 _ rfl (.agg #[.int .u8 (k : Int), .int .u8 (st.toNat : Int), .slice ad an ac]) rfl [.int .u8 (k : Int), .int .u8 (st.toNat : Int), .slice ad an ac] 3 rfl rfl (Lib.hid ⟨by omega, by omega⟩) i0 _ Tryz.underlying66 hi hz0 hz1 ?_; rw [HM.out.2.2.1])
            | (at_builtin; (refine wpList_append_own _ rfl _ _ 66 rfl w.heap.size 70 i0 _ 3 32 Tryz.underlying66 hi hz0 hz1 hz2 rfl (by decide) _ (onesUpto m k).length cells rfl HO.out.1 _ 1 1 [.int .u8 (k : Int), .int .u8 (st.toNat : Int), .slice ad an ac] rfl rfl (World.news_of_block HO.out.2.1) (by simp [Value.oneCell']) HM.out.1 HM.out.2.1 (Nat.le_trans HO.out.2.2 HM.out.2.2.2) ?_); intro v1 w4 hown4 hgrow4 _; have HQ := HP.out v1 w4 hown4 hgrow4))
          refine ⟨?_, by simp [intOf]; omega⟩
          refine ⟨v1, ?_⟩
          iterate 20 apply Exists.intro
          refine ⟨k + 1, _, ⟨?_, rfl⟩, by omega, HQ.out.1, Lib.hid HQ.out.2⟩
          repeat (first | exact rfl | refine ⟨rfl, ?_⟩)
        case stop =>
          rintro D c pre W _ _ h _
          exact h.elim
    · obtain rfl : k = 8 := by omega
      obtain ⟨r1, ⟨cells, r2, r3⟩, r4, r5⟩ := HR.out
      have hb := HB.out
      have hb0 : ∀ W, Upd [] w1 W → W.cell? ⟨b, 0, none⟩ = some (.int .u8 (acct.toNat : Int)) := fun W h => cell_of_heap ((r1.trans h).heap hb.cell (by simp)) 0
      have hb1 : ∀ W, Upd [] w1 W → W.cell? ⟨b, 1, none⟩ = some (.slice (some ⟨g, 0, none⟩) own.length cap) := fun W h => cell_of_heap ((r1.trans h).heap hb.cell (by simp)) 1
      have hgl : g < w1.heap.size := by obtain ⟨sp, z, _⟩ := hb.row; exact Nat.lt_of_lt_of_le (lt_of_heap z) r1.size
      have k39 : ∀ W, Hid (OutR w1 W w1.heap.size [acct]) → Calls Tryz.prog 39 #[.pointer (some ⟨w1.heap.size, 0, none⟩), .int .i64 4, .slice (some ⟨g, 0, none⟩) own.length cap, .func (.func 40) #[] #[]] W fun e W' => e = .returned (.tuple #[]) ∧ Hid (OutR w1 W' w1.heap.size ([acct] ++ lenB own.length ++ keysB own)) := by
        intro W h
        obtain ⟨g', z1, z2, z3⟩ := h.out
        exact keysR h.out g cap own (hb.row.upd (r1.trans z2) (by simp)) ho (by simp; omega) hgl
      have k41 : ∀ W, Hid (OutR w1 W w1.heap.size ([acct] ++ lenB own.length ++ keysB own)) → Calls Tryz.prog 41 #[.pointer (some ⟨w1.heap.size, 0, none⟩), .int .i64 8, .slice va vn vc, .func (.func 42) #[] #[]] W fun e W' => e = .returned (.tuple #[]) ∧ Hid (OutR w1 W' w1.heap.size (bookB acct own m)) := by
        intro W h
        obtain ⟨g', z1, z2, z3⟩ := h.out
        have q := onesR h.out w.heap.size w.heap.size (.slice va vn vc) (onesOf m) cells (owns_upd r2 z2 (by simp)) (r3.same (SameRows.of_upd z2 (by simp))) (onesOf_four m) (onesOf_le m) (by
          have := onesOf_le m
          rw [List.length_append, List.length_append, keysB_len]
          simp [lenB]
          omega)
        rw [List.append_assoc ([acct] ++ lenB own.length ++ keysB own), List.append_assoc [acct]] at q
        exact q
      have hbl : 0 < (bookB acct own m).length ∧ (bookB acct own m).length ≤ 65536 := by
        have h1 := onesB_len (onesOf m) (onesOf_four m)
        have h2 := onesOf_le m
        unfold bookB
        rw [List.length_append, List.length_append, List.length_append, List.length_append, keysB_len]
        simp only [lenB, List.length_cons, List.length_nil]
        omega
      have k45 : ∀ W, Hid (OutR w1 W w1.heap.size (bookB acct own m)) → Calls Tryz.prog 45 #[.pointer (some ⟨w1.heap.size, 0, none⟩)] W fun e W' => ∃ h c, e = .returned (.tuple #[.slice (some ⟨h, 0, none⟩) (bookB acct own m).length c, .int .i64 0]) ∧ Hid (W'.ownsRow w.heap.size 5 1 (.slice (some ⟨h, 0, none⟩) (bookB acct own m).length c) (bookB acct own m).length ((bookB acct own m).map byteV) ∧ Upd [] w1 W') := by
        intro W h
        obtain ⟨g', z1, z2, z3⟩ := h.out
        refine (bytes45 z1 hbl.1 hbl.2).mono ?_
        rintro e W' ⟨h', c, rfl, y1, y2⟩
        exact ⟨h', c, rfl, Lib.hid ⟨owns_base y1 (Nat.le_trans r1.size z2.size), z2.trans y2⟩⟩
      have h37 := newOut37 w1
      clear r1 r2 r3 r4 r5 hb hgl hbl
      go_wp2_with (first
        | (go_at_call 37; refine h37.mono ?_; clear h37; rintro e wa ⟨rfl, o1, o2⟩; have d0 := hb0 wa o2; have HOa : Hid (OutR w1 wa w1.heap.size []) := Lib.hid ⟨w1.heap.size, o1, o2, Nat.le_refl _, Nat.le_refl _⟩; have k38 := u8R HOa.out acct (by simp))
        | (go_at_call 38; refine k38.mono ?_; clear k38; rintro e wb ⟨rfl, HOb⟩; have d1 := hb1 wb (by obtain ⟨_, _, z, _⟩ := HOb.out; exact z); have k39b := k39 wb HOb)
        | (go_at_call 39; refine k39b.mono ?_; clear k39b; rintro e wc ⟨rfl, HOc⟩; have k41c := k41 wc HOc)
        | (go_at_call 41; refine k41c.mono ?_; clear k41c; rintro e wd ⟨rfl, HOd⟩; have k45d := k45 wd HOd)
        | (go_at_call 45; refine k45d.mono ?_; clear k45d; rintro e we ⟨h, c, rfl, HOe⟩))
      obtain ⟨r1, _, r4, r5⟩ := HR.out
      obtain ⟨y1, y2⟩ := HOe.out
      refine leaves_marks (B := w.heap.size) ds we (fun d hd => ?_) r5 ?_
      · obtain ⟨D, z1, z2, z3⟩ := r4 d hd
        exact ⟨D, z1, z2, y2.heap z3 (by simp)⟩
      · intro w' a1 a2 a3 a4 a5 a6
        have hu := r1.trans y2
        refine ⟨_, results_tmp rfl _ _ _, h, c, rfl, ⟨y1.1, ?_⟩, ⟨a3.trans hu.os, a4.trans hu.tape, a5.trans hu.output, Nat.le_trans hu.size a6, fun q hq hS => (a1 q hq).trans (hu.block q hq hS)⟩⟩
        rcases y1.2 with z | ⟨g', cap', cur, z1, z2, z3, z4⟩
        · exact .inl z
        · exact .inr ⟨g', cap', cur, z1, z2, a2 _ _ z3 rfl, z4⟩
end Go.Proofs.YtdbceafejbnebaaGreatDoor
