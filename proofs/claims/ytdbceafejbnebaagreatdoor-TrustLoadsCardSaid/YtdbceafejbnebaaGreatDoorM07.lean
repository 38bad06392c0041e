/- Regions that draw their order, in a round too: what only reads is taken first. The iterator over an account's keys. -/
import Derived.Test.YtdbceafejbnebaaGreatDoorM06
import Derived.RangeFuncNested
import Derived.RangeFuncBound
import Derived.RangeFuncCalls
import Derived.RangeFuncLeaves
import Derived.Shelf.Abstract
import Derived.Shelf.RegionOpen
import Derived.WalkKit
import Derived.OwnWalkIn
import Derived.TacticsInMore
import Derived.LoopNIn
import Derived.LoopIn
import Derived.OrdersHeld
import Derived.Sort.QuietThIn
import Derived.Sort.BigQuietIn
/-! Regions that draw their order, in a round too: what only reads is taken first. -/
namespace Go.Proofs.YtdbceafejbnebaaGreatDoor
open Go Go.RowKit
section
variable {F : Fence} {n : Nat} {P : Program} {ops : Array Oper} {Q : Exit → Act → World → Prop} {md : Region.Mode} {S : World → Prop}
/-- No operation of these is a defer statement. -/
def NoDefer (ops : Array Oper) : Prop := ∀ (j : Nat) (o : Oper), ops[j]? = some o → ∀ c, o.op ≠ .defer c
def noDeferB (ops : Array Oper) : Bool := ops.all fun o => match o.op with | .defer _ => false | _ => true
theorem noDefer_of (h : noDeferB ops = true) : NoDefer ops := by
  intro j o ho c hc
  unfold noDeferB at h
  rw [Array.all_eq_true] at h
  obtain ⟨hj, rfl⟩ := Array.getElem?_eq_some_iff.1 ho
  have := h j hj
  rw [hc] at this
  exact absurd this (by simp)
/-! Quiet regions. -/
theorem wpIn_of_quiet' {C : World → Prop} {o : Oper} {a : Act} {K : Act → Prop} {K' : Act → World → Prop} {Q' : Exit → Act → World → Prop} {w : World} (hd : ∀ c, o.op ≠ .defer c) (hw : C w) (h : ∀ a w', C w' → K a → K' a w')
    (ha : o.askedIn F P a C) (hh : o.quietIn F n P a C K) : o.wpIn F n P a w K' Q' := by
  obtain ⟨v, h1, h2⟩ := hh
  have h3 := h1 w hw
  unfold Oper.quietAtIn at h3
  unfold Oper.wpIn
  refine ⟨ha w hw, ?_⟩
  rw [Oper.semAt_plain F _ _ hd]
  generalize (execOp a.eval o).run P w = r at *
  cases r with
  | ok x w' =>
    cases x <;> simp only [Oper.quietUponIn] at h3 <;> simp only [Oper.uponIn]
    case value u =>
      obtain ⟨e1, e2⟩ := h3
      rw [e1, e2]
      exact h _ _ hw h2
    case skip =>
      obtain ⟨e1, e2⟩ := h3
      rw [e1, ← e2]
      exact h _ _ hw h2
    case enter f args =>
      obtain ⟨e1, hd, hc⟩ := h3
      rw [e1]
      exact ⟨hd, hc.mono fun e w'' ⟨he, hw''⟩ => by subst he; exact h _ _ hw'' h2⟩
  | halt x w' => simp only [Oper.quietUponIn] at h3
theorem wpOpIn_of_qOpIn' {C : World → Prop} {i : Nat} {a : Act} {K : Act → Prop} {K' : Act → World → Prop} {Q' : Exit → Act → World → Prop} {w : World} (hnd : NoDefer ops) (hC : C w) (h : ∀ a w', C w' → K a → K' a w')
    (hh : qOpIn F n P ops C i K a) : wpOpIn F n P ops Q' i K' a w := by
  unfold qOpIn at hh
  unfold wpOpIn
  split
  · rename_i ho; simp only [ho] at hh; exact h _ _ hC hh
  · rename_i o ho
    simp only [ho] at hh
    obtain ⟨ha, hh⟩ := hh
    split
    · rename_i hw; simp only [hw, if_true] at hh; exact wpIn_of_quiet' (hnd i o ho) hC h ha hh
    · rename_i hw; simp only [hw] at hh; exact ⟨ha w hC, h _ _ hC hh⟩
theorem wpAnyIn_of_quiet' {C : World → Prop} {Q : Act → Prop} {Q' : Exit → Act → World → Prop} (hnd : NoDefer ops) (hQ : ∀ a w, C w → Q a → Q' .normal a w) : ∀ (fuel : Nat) (listed : Array Bool) (a : Act) (w : World), C w →
    wpAnyQIn F n P md ops C Q fuel listed a → wpAnyIn F n P md ops Q' fuel listed a w
  | 0, _, _, _, hw, h => ⟨h.1, hQ _ _ hw h.2⟩
  | fuel + 1, _, _, _, hw, h => ⟨fun h0 => hQ _ _ hw (h.1 h0), fun i hi => wpOpIn_of_qOpIn' hnd hw (fun a' w' hw' => wpAnyIn_of_quiet' hnd hQ fuel _ a' w' hw') (h.2 i hi)⟩
/-- A quiet region, in a round too. -/
theorem wpIn_region_quiet_any {id : Nat} {Q : Exit → Act → World → Prop} {a : Act} {w : World} {l : List Oper} (hnd : noDeferB l.toArray = true) (hm : P.follows .mixedOrders = true) (hB : Region.lexB .any l.toArray = true)
    (h : wpQuietIn F n P l.toArray (fun w' => ∃ n, w' = w.drewN n) (fun a' => ∀ w', (∃ n, w' = w.drewN n) → Q .normal a' w') l a) : (Code.region id l.toArray true).wpIn F n P Q a w := by
  simp only [Region.lexB, Bool.and_eq_true] at hB
  refine wpIn_region_any hm (wpAnyIn_of_quiet' (C := fun w' => ∃ n, w' = w.drewN n) (Q := fun a' => ∀ w', (∃ n, w' = w.drewN n) → Q .normal a' w') (noDefer_of hnd) (fun _ w' hw' h => h w' hw') _ _ _ _ ⟨1, rfl⟩ ?_)
  have := wpAnyQIn_lex (F := F) (n := n) (C := fun w' => ∃ n, w' = w.drewN n) (md := .any) hB.1 l 0 (Array.replicate l.toArray.size false) a (by simp) (by simpa using hB.2) h
  simpa using this
/-! One by one. -/
theorem takeIn (i : Nat) (d : Option Tmp) (v : Value) {oi : Oper} {fuel : Nat} {listed : Array Bool} {a : Act} {w : World} (hro : F.round = none) (hi : ops[i]? = some oi) (hd : oi.dst = d)
    (hs : Region.noSelect ops = true) (hf : Region.free md ops listed i = true) (hr : (Region.ready md ops listed).contains i = true)
    (hQ : ∀ c a w, Q (.panic c) (a.put d v) w → Q (.panic c) a w) (hw : Region.wanted oi (yielded ops a.tmps) = true) (hrun : ∀ w, (execOp a.eval oi).run P w = .ok (.value v) w) (hab : ∀ w, oi.about P w a.eval = none)
    (h : wpAnyIn F n P md ops Q fuel (listed.setIfInBounds i true) (a.put d v) w) : wpAnyIn F n P md ops Q (fuel + 1) listed a w := by
  subst hd
  exact wpAnyIn_take hro hi hs hf hr hQ ⟨.inl ⟨hw, hrun⟩, hab⟩ h
theorem opRead {i : Nat} {oi : Oper} {v : Value} {a : Act} {w : World} {K : Act → World → Prop} (hro : F.round = none) (hi : ops[i]? = some oi) (hw : Region.wanted oi (yielded ops a.tmps) = true) (hrun : (execOp a.eval oi).run P w = .ok (.value v) w) (hab : oi.about P w a.eval = none)
    (h : K (a.put oi.dst v) w) : wpOpIn F n P ops Q i K a w := by
  unfold wpOpIn
  simp only [hi, hw, if_true, Oper.wpIn, hro, Oper.semAt_none, hrun, Oper.uponIn]
  exact ⟨fun f hf => absurd hf (by rw [hab]; simp), h⟩
theorem oneRead (i : Nat) (d : Option Tmp) (v : Value) {oi : Oper} {fuel : Nat} {listed : Array Bool} {a : Act} {w : World} (hro : F.round = none) (hi : ops[i]? = some oi) (hd : oi.dst = d)
    (hr : Region.ready md ops listed = [i]) (hw : Region.wanted oi (yielded ops a.tmps) = true) (hrun : (execOp a.eval oi).run P w = .ok (.value v) w) (hab : oi.about P w a.eval = none)
    (h : wpAnyIn F n P md ops Q fuel (listed.setIfInBounds i true) (a.put d v) w) : wpAnyIn F n P md ops Q (fuel + 1) listed a w := by
  subst hd
  exact wpAnyIn_all hr (by simp) (fun j hj => by rw [List.mem_singleton] at hj; subst hj; exact opRead hro hi hw hrun hab h)
theorem twoReads (i j : Nat) (di dj : Option Tmp) (vi vj : Value) {oi oj : Oper} {fuel : Nat} {listed : Array Bool} {a : Act} {w : World} (hro : F.round = none) (hi : ops[i]? = some oi) (hj : ops[j]? = some oj) (hdi : oi.dst = di) (hdj : oj.dst = dj)
    (hr : Region.ready md ops listed = [i, j]) (hwi : Region.wanted oi (yielded ops a.tmps) = true) (hwj : Region.wanted oj (yielded ops a.tmps) = true)
    (hri : (execOp a.eval oi).run P w = .ok (.value vi) w) (hrj : (execOp a.eval oj).run P w = .ok (.value vj) w) (hai : oi.about P w a.eval = none) (haj : oj.about P w a.eval = none)
    (h1 : wpAnyIn F n P md ops Q fuel (listed.setIfInBounds i true) (a.put di vi) w) (h2 : wpAnyIn F n P md ops Q fuel (listed.setIfInBounds j true) (a.put dj vj) w) : wpAnyIn F n P md ops Q (fuel + 1) listed a w := by
  subst hdi hdj
  refine wpAnyIn_all hr (by simp) (fun k hk => ?_)
  rcases List.mem_cons.1 hk with rfl | hk
  · exact opRead hro hi hwi hri hai h1
  · rw [List.mem_singleton] at hk
    subst hk
    exact opRead hro hj hwj hrj haj h2
theorem wpOpIn_round {i : Nat} {o : Oper} {a : Act} {w w' : World} {l : Nat} {fn : FuncId} {tmps : Array Value} {assign body : Code} {K : Act → World → Prop} (hro : F.round = none)
    (hi : ops[i]? = some o) (hw : Region.wanted o (yielded ops a.tmps) = true) (hab : ∀ f, o.about P w a.eval = some f → F.fn f) (hrun : (execOp a.eval o).run P w = .ok (.round l fn tmps assign body) w') (hn : F.depth.isSome = true → 1 ≤ n)
    (h : RoundIn F (n - 1) P l fn tmps assign body w' fun
      | .returned v, w'' => K (a.put o.dst v) w''
      | .panicked chain, w'' => Q (.panic chain) a w''
      | .outgrown, _ => LetsOut Q) : wpOpIn F n P ops Q i K a w := by
  unfold wpOpIn
  simp only [hi, hw, if_true, Oper.wpIn, hro, Oper.semAt_none, hrun, Oper.uponIn_round]
  exact ⟨hab, hn, h⟩
theorem takeRound (i : Nat) (d : Option Tmp) {o : Oper} {fuel : Nat} {listed : Array Bool} {a : Act} {w w' : World} {l : Nat} {fn : FuncId} {tmps : Array Value} {assign body : Code} (hro : F.round = none)
    (hi : ops[i]? = some o) (hd : o.dst = d) (hr : Region.ready md ops listed = [i]) (hw : Region.wanted o (yielded ops a.tmps) = true) (hF : ∀ f, F.fn f) (hrun : (execOp a.eval o).run P w = .ok (.round l fn tmps assign body) w') (hn : F.depth.isSome = true → 1 ≤ n)
    (R : Ending → World → Prop) (h : RoundIn F (n - 1) P l fn tmps assign body w' R)
    (hR : ∀ e w'', R e w'' → ∃ v, e = .returned v ∧ wpAnyIn F n P md ops Q fuel (listed.setIfInBounds i true) (a.put d v) w'') : wpAnyIn F n P md ops Q (fuel + 1) listed a w := by
  subst hd
  refine wpAnyIn_all hr (by simp) (fun j hj => ?_)
  rw [List.mem_singleton] at hj
  subst hj
  refine wpOpIn_round hro hi hw (fun f _ => hF f) hrun hn (h.mono ?_)
  intro e w'' he
  obtain ⟨v, rfl, h2⟩ := hR e w'' he
  exact h2
end
end Go.Proofs.YtdbceafejbnebaaGreatDoor
/-! The iterator over an account's keys. -/
namespace Go.Proofs.YtdbceafejbnebaaGreatDoor
open Go Go.RowKit Go.Shelf
attribute [local go_sem] Oper.semAt_some
theorem sz82 : (Tryz.prog.info? 82).map (·.size) = some 133 := by kernel_rfl
theorem run_exec_load_mid {P : Program} {w : World} (ρ : Operand → Value) (o : Oper) {x : Operand} {ty : TypeId} (ho : o.op = .load ty x) (b off : Nat) (d : TypeDesc) (cs : List Value) (hx : ρ x = .pointer (some ⟨b, off, none⟩)) (hr : w.rangeAt b off cs)
    (hu : P.underlying ty = some d) (hd : d.isRow = true) (hi : (P.info? ty).map (·.size) = some cs.length) : (execOp ρ o).run P w = .ok (.value (.agg cs.toArray)) w := by
  have hrun := run_loadAt_mid (P := P) w b off ty cs d hr hu hd hi
  unfold execOp
  simp only [ho, hx, Sem.run_bind, hrun, Result.andThen_ok, Sem.run_pure]
theorem run_exec_store_mid {P : Program} {w : World} (ρ : Operand → Value) (o : Oper) {x y : Operand} {ty : TypeId} (ho : o.op = .store ty x y) (b off : Nat) (cells : Array Value) (hx : ρ x = .pointer (some ⟨b, off, none⟩)) (hy : ρ y = .agg cells)
    (ht : w.there b off cells.size) (hi : (P.info? ty).map (·.size) = some cells.size) (h1 : cells.all (·.oneCell') = true) : (execOp ρ o).run P w = .ok .skip (w.setCells b off cells.toList) := by
  unfold execOp
  simp only [ho, hx, hy, Instr.storeAt, Instr.sureAddr, Sem.run_bind, Sem.run_pure, Result.andThen_ok, run_storeVar_mid w b off ty cells ht hi h1]
def zeroCon : Con := ⟨[zeroK, zeroK, zeroK, zeroK], [false, false, false, false], 0, rfl, rfl⟩
theorem run_exec_alloc82 (ρ : Operand → Value) (o : Oper) (ho : o.op = .alloc 82) (w : World) : (execOp ρ o).run Tryz.prog w = .ok (.value (.pointer (some ⟨w.heap.size, 0, none⟩))) (w.alloc (.cells (conCells zeroCon).toArray 82)) := by
  unfold execOp
  simp only [ho]
  kernel_rfl
theorem wpAnyH_one {P : Program} {ops : Array Oper} {Q : Exit → Act → World → Prop} {md : Region.Mode} {S : World → Prop} {i : Nat} {fuel : Nat} {listed : Array Bool} {a : Act} {w : World} (hr : Region.ready md ops listed = [i])
    (h : wpOp P ops Q i (fun a' w' => S w' ∧ wpAnyH P md ops Q S fuel (listed.setIfInBounds i true) a' w') a w) : wpAnyH P md ops Q S (fuel + 1) listed a w :=
  wpAnyH_all hr (by simp) (fun j hj => by rw [List.mem_singleton] at hj; subst hj; exact h)
theorem wpOp_run {P : Program} {ops : Array Oper} {Q : Exit → Act → World → Prop} {i : Nat} {o : Oper} {a : Act} {w w' : World} {v : Value} {K : Act → World → Prop} (hi : ops[i]? = some o) (hw : Region.wanted o (yielded ops a.tmps) = true)
    (hrun : (execOp a.eval o).run P w = .ok (.value v) w') (h : K (a.put o.dst v) w') : wpOp P ops Q i K a w := by
  unfold wpOp
  simp only [hi, hw, if_true, Oper.wp, hrun, Oper.upon]
  exact .inl h
theorem wpOp_run_skip {P : Program} {ops : Array Oper} {Q : Exit → Act → World → Prop} {i : Nat} {o : Oper} {a : Act} {w w' : World} {K : Act → World → Prop} (hi : ops[i]? = some o) (hw : Region.wanted o (yielded ops a.tmps) = true)
    (hrun : (execOp a.eval o).run P w = .ok .skip w') (h : K (a.put o.dst undef) w') : wpOp P ops Q i K a w := by
  unfold wpOp
  simp only [hi, hw, if_true, Oper.wp, hrun, Oper.upon]
  exact .inl h
theorem load82 {w : World} {ρ : Operand → Value} {o : Oper} {x : Operand} {p : Nat} {c : Con} (ho : o.op = .load 82 x) (hx : ρ x = .pointer (some ⟨p, 0, none⟩)) (hr : w.rangeAt p 0 (conCells c)) :
    (execOp ρ o).run Tryz.prog w = .ok (.value (.agg (conCells c).toArray)) w :=
  run_exec_load_mid ρ o ho p 0 _ (conCells c) hx hr Tryz.underlying82 rfl (by rw [conCells_len]; exact sz82)
theorem store82 {w : World} {ρ : Operand → Value} {o : Oper} {x y : Operand} {p : Nat} {c : Con} (ho : o.op = .store 82 x y) (hx : ρ x = .pointer (some ⟨p, 0, none⟩)) (hy : ρ y = .agg (conCells c).toArray) (ht : w.there p 0 133) :
    (execOp ρ o).run Tryz.prog w = .ok .skip (w.setCells p 0 (conCells c)) := by
  have := run_exec_store_mid (P := Tryz.prog) (w := w) ρ o ho p 0 (conCells c).toArray hx hy (by rw [List.size_toArray, conCells_len]; exact ht) (by rw [List.size_toArray, conCells_len]; exact sz82) (all_oneCell_toArray (conCells_one c))
  rw [List.toList_toArray] at this
  exact this
theorem load31 {w : World} {ρ : Operand → Value} {o : Oper} {x : Operand} {p off : Nat} {k : K} (ho : o.op = .load 31 x) (hx : ρ x = .pointer (some ⟨p, off, none⟩)) (hr : w.rangeAt p off (keyCells k)) :
    (execOp ρ o).run Tryz.prog w = .ok (.value (.agg (keyCells k).toArray)) w :=
  run_exec_load_mid ρ o ho p off _ (keyCells k) hx hr Tryz.underlying31 rfl (hu31 k)
/-- What a round keeps: the blocks of the types that the iterator reads. -/
def KeepT (W W' : World) : Prop := W.heap.size ≤ W'.heap.size ∧ ∀ (k : Nat) (cs : Array Value) (t : TypeId) (fz : Nat × Nat), W.heap[k]? = some (.cells cs t fz) → (t = 24 ∨ t = 5 ∨ t = 82) → W'.heap[k]? = some (.cells cs t fz)
theorem KeepT.refl (W : World) : KeepT W W := ⟨Nat.le_refl _, fun _ _ _ _ h _ => h⟩
theorem keepT_t {A B C : World} (h : KeepT A B) (k : KeepT B C) : KeepT A C :=
  ⟨Nat.le_trans h.1 k.1, fun i cs t fz hi ht => k.2 i cs t fz (h.2 i cs t fz hi ht) ht⟩
theorem keepT_b (W : World) (l : Nat) (o o' : Obj) (h : W.heap[l]? = some o) (hc : o.isCells = false) : KeepT W (W.putObj l o') := by
  refine ⟨by simp, fun k cs t fz hk _ => ?_⟩
  have hne : k ≠ l := by
    intro e
    subst e
    rw [h] at hk
    cases hk
    cases hc
  rw [World.putObj_heap_other hne]
  exact hk
theorem Upd.keepT {S : List Nat} {W W' : World} (h : Upd S W W') (hS : ∀ s ∈ S, ∀ cs t fz, W.heap[s]? = some (.cells cs t fz) → t ≠ 24 ∧ t ≠ 5 ∧ t ≠ 82) : KeepT W W' :=
  ⟨h.size, fun k cs t fz hk ht => h.heap hk (fun hkS => by
    obtain ⟨a, b, c⟩ := hS k hkS cs t fz hk
    rcases ht with ht | ht | ht
    · exact a ht
    · exact b ht
    · exact c ht)⟩
theorem Upd.keepT0 {W W' : World} (h : Upd [] W W') : KeepT W W' := h.keepT (by simp)
/-- The keys of the first k devices. -/
def conUpto (c : Con) (k : Nat) : List Kn := (List.range k).filterMap fun d => if c.hs[d]? = some true then c.ks[d]?.map fun x => (UInt8.ofNat d, x) else none
theorem conUpto_succ (c : Con) (k : Nat) (hk : k < 4) : conUpto c (k + 1) = conUpto c k ++ (if c.hs[k]'(by rw [c.hh]; exact hk) = true then [(UInt8.ofNat k, c.ks[k]'(by rw [c.hk]; exact hk))] else []) := by
  unfold conUpto
  rw [List.range_succ, List.filterMap_append]
  congr 1
  have e1 : c.hs[k]? = some (c.hs[k]'(by rw [c.hh]; exact hk)) := List.getElem?_eq_getElem _
  have e2 : c.ks[k]? = some (c.ks[k]'(by rw [c.hk]; exact hk)) := List.getElem?_eq_getElem _
  simp only [List.filterMap_cons, List.filterMap_nil, e1, e2, Option.some.injEq]
  split <;> simp_all
theorem conUpto_len (c : Con) (k : Nat) : (conUpto c k).length ≤ k := by
  unfold conUpto
  have := List.length_filterMap_le (fun d => if c.hs[d]? = some true then c.ks[d]?.map fun x => ((UInt8.ofNat d, x) : Kn) else none) (List.range k)
  simpa using this
theorem conUpto_prefix (c : Con) {k : Nat} (hk : k < 4) : conUpto c (k + 1) <+: conUpto c 4 := by
  unfold conUpto
  have : List.range (k + 1) <+: List.range 4 := by
    refine ⟨(List.range 4).drop (k + 1), ?_⟩
    have e : List.range (k + 1) = (List.range 4).take (k + 1) := by rw [List.take_range]; congr 1; omega
    rw [e, List.take_append_drop]
  exact this.filterMap _
def conKn (c : Con) : List Kn := conUpto c 4
def knOf (m : Cs) (a : UInt8) : List Kn := ((conOf m a).map conKn).getD []
def encKn (a : UInt8) (x : Kn) : Array Value := #[devV a x.1, .agg (keyCells x.2).toArray]
theorem grown_of_upd {w w' : World} (h : Upd [] w w') : w.grownBy w' none := ⟨h.os, h.tape, h.output, h.size, fun _ hk _ => h.block _ hk (by simp)⟩
theorem abides_upd {β : Type} {B : Nat} {J : β → World → Prop} (h : AbidesFrom B J) {s : β} {W W' : World} (hs : J s W) (hu : Upd [] W W') : J s W' :=
  h s W W' none hs (grown_of_upd hu) (fun r e => by cases e)
set_option maxHeartbeats 1000000 in
theorem keys_nil_in (l B1 B2 : Nat) (J : List Kn → World → Prop) (W : World) (hJ : AbidesFrom W.heap.size J)
    (h1 : W.heap[B1]? = some (.cells #[.pointer none] 24 (0, 0))) (h0 : J [] W) :
    Calls Tryz.prog 53 #[.func (.yield l) #[] #[], .pointer (some ⟨B1, 0, none⟩), .pointer (some ⟨B2, 0, none⟩)] W fun e W' => (∃ v, e = .returned v) ∧ J [] W' := by
  have hc1 : W.cell? ⟨B1, 0, none⟩ = some (.pointer none) := cell_of_heap h1 0
  go_enter Tryz.func53, Tryz.ntmps53
  go_upto_region 0 with fail
  go_quiet (fail)
  go_wp2
  refine bodyPost_ret (results_none rfl _ _ _) rfl ?_
  exact ⟨⟨_, rfl⟩, abides_upd hJ h0 ((Upd.refl [] W).drewN _)⟩
set_option maxHeartbeats 1000000 in
set_option maxRecDepth 100000 in
theorem keys_in (n : Nat) (hn : 1 ≤ n) (l B1 B2 : Nat) (a : UInt8) {b g cap r : Nat} {acct : UInt8} {own : List K} {m : Cs} (J Jx : List Kn → World → Prop) (W : World) (hJ : AbidesFrom W.heap.size J) (hJx : AbidesFrom W.heap.size Jx)
    (hY : ∀ pre x W1, J pre W1 → pre.length < 4 → YieldAt Fence.wide (n - 1) Tryz.prog l (encKn a x) W1 fun e W' =>
      (e = .returned (.bool true) ∧ J (pre ++ [x]) W' ∧ KeepT W1 W') ∨ (e = .returned (.bool false) ∧ Jx (pre ++ [x]) W'))
    (hB : BookAt W b g cap r acct own m) (h1 : W.heap[B1]? = some (.cells #[bookV b] 24 (0, 0))) (h2 : W.heap[B2]? = some (.cells #[byteV a] 5 (0, 0)))
    (h0 : J [] W) :
    CallsIn Fence.wide n Tryz.prog 53 #[.func (.yield l) #[] #[], .pointer (some ⟨B1, 0, none⟩), .pointer (some ⟨B2, 0, none⟩)] W fun e W' => (∃ v, e = .returned v) ∧
      ((∃ ys, ys = knOf m a ∧ J ys W') ∨ (∃ pre, pre <+: knOf m a ∧ Jx pre W')) := by
  refine callsIn_wide.2 ?_
  have hc1 : W.cell? ⟨B1, 0, none⟩ = some (.pointer (some ⟨b, 0, none⟩)) := cell_of_heap h1 0
  have hc2 : W.cell? ⟨B2, 0, none⟩ = some (.int .u8 (a.toNat : Int)) := cell_of_heap h2 0
  have hbm : W.cell? ⟨b, 2, none⟩ = some (.map (some r)) := cell_of_heap hB.cell 2
  have hlk : ∀ n, (Instr.lookup 78 (.map (some r)) (.int .u8 (a.toNat : Int)) false).run Tryz.prog (W.drewN n) = .ok (ptrOf ((look a m).map (·.1))) (W.drewN n) := by
    intro n
    have := (hB.upd0 ((Upd.refl [] W).drewN n)).map.lookup a
    rw [look_ptrs] at this
    exact this
  have HB := Lib.hid hB
  have HJ := Lib.hid hJ
  have HJx := Lib.hid hJx
  have HY := Lib.hid hY
  have H0 := Lib.hid h0
  have H1 := Lib.hid h1
  have H2 := Lib.hid h2
  clear hJ hJx hY h0 h1 h2
  cases hl : look a m with
  | none =>
    rw [hl] at hlk
    have hk : knOf m a = [] := by unfold knOf conOf; rw [hl]; rfl
    clear hl hB
    simp only [Option.map_none, ptrOf] at hlk
    go_enter Tryz.func53, Tryz.ntmps53
    go_upto_region 0 with fail
    go_quiet (fail)
    go_wp2
    refine bodyPost_ret (results_none rfl _ _ _) rfl ?_
    exact ⟨⟨_, rfl⟩, .inl ⟨[], hk.symm, abides_upd HJ.out H0.out ((Upd.refl [] W).drewN _)⟩⟩
  | some x =>
    obtain ⟨p, c⟩ := x
    rw [hl] at hlk
    have hcon := hB.con _ (look_mem hl)
    have hk' : knOf m a = conKn c := by unfold knOf conOf; rw [hl]; rfl
    have hl0 := Lib.hid hl
    clear hl hB
    simp only [Option.map_some, ptrOf] at hlk
    go_enter Tryz.func53, Tryz.ntmps53
    go_upto_region 0 with fail
    go_quiet (fail)
    go_upto_region 1 with fail
    obtain ⟨W1, hW1⟩ : ∃ X, W.drewN nq = X := ⟨_, rfl⟩
    have hu1 : Upd [] W W1 := by rw [← hW1]; exact (Upd.refl [] W).drewN nq
    rw [hW1]
    have hB1 := HB.out.upd0 hu1
    have hd1 : ∀ w', Upd [] W1 w' → w'.cell? ⟨B1, 0, none⟩ = some (.pointer (some ⟨b, 0, none⟩)) := fun w' h => cell_of_heap (h.heap (hu1.heap H1.out (by simp)) (by simp)) 0
    have hd2 : ∀ w', Upd [] W1 w' → w'.cell? ⟨B2, 0, none⟩ = some (.int .u8 (a.toNat : Int)) := fun w' h => cell_of_heap (h.heap (hu1.heap H2.out (by simp)) (by simp)) 0
    have hdm : ∀ w', Upd [] W1 w' → w'.cell? ⟨b, 2, none⟩ = some (.map (some r)) := fun w' h => cell_of_heap (h.heap hB1.cell (by simp)) 2
    have hlk1 : ∀ w', Upd [] W1 w' → (Instr.lookup 78 (.map (some r)) (.int .u8 (a.toNat : Int)) false).run Tryz.prog w' = .ok (.pointer (some ⟨p, 0, none⟩)) w' := by
      intro w' h
      have := (hB1.upd0 h).map.lookup a
      rw [look_ptrs, hl0.out] at this
      exact this
    have hrow : ∀ w', Upd [] W1 w' → w'.rangeAt p 0 (conCells c) := by
      intro w' h j v hj
      rw [cell_of_heap (h.heap (hcon.upd hu1 (by simp)) (by simp)), Nat.zero_add]
      simp only [List.getElem?_toArray]
      exact hj
    clear hW1 hc1 hc2 hbm hlk
    refine wp_region_held (S := Upd [] W1) (by kernel_rfl) ?_
    have s0 : Upd [] W1 W1.drew := (Upd.refl [] W1).drew
    change wpAnyH _ _ _ _ _ _ _ _ W1.drew
    refine wpAnyH_take (i := 0) (v := .pointer (some ⟨b, 0, none⟩)) rfl (by kernel_rfl) (by kernel_rfl) (by kernel_rfl) (fun _ _ _ h => h) (.inl ⟨by kernel_rfl, ?_⟩) s0 ?_
    · intro w' hw'
      have q := hd1 w' hw'; go_simp
    refine wpAnyH_take (i := 1) (v := .pointer (some ⟨b, 0, none⟩)) rfl (by kernel_rfl) (by kernel_rfl) (by kernel_rfl) (fun _ _ _ h => h) (.inl ⟨by kernel_rfl, ?_⟩) s0 ?_
    · intro w' hw'
      go_simp
    refine wpAnyH_take (i := 2) (v := .pointer (some ⟨b, 2, none⟩)) rfl (by kernel_rfl) (by kernel_rfl) (by kernel_rfl) (fun _ _ _ h => h) (.inl ⟨by kernel_rfl, ?_⟩) s0 ?_
    · intro w' hw'
      go_simp
    refine wpAnyH_take (i := 3) (v := .map (some r)) rfl (by kernel_rfl) (by kernel_rfl) (by kernel_rfl) (fun _ _ _ h => h) (.inl ⟨by kernel_rfl, ?_⟩) s0 ?_
    · intro w' hw'
      have q := hdm w' hw'; go_simp
    refine wpAnyH_take (i := 4) (v := .int .u8 (a.toNat : Int)) rfl (by kernel_rfl) (by kernel_rfl) (by kernel_rfl) (fun _ _ _ h => h) (.inl ⟨by kernel_rfl, ?_⟩) s0 ?_
    · intro w' hw'
      have q := hd2 w' hw'; go_simp
    refine wpAnyH_take (i := 5) (v := .pointer (some ⟨p, 0, none⟩)) rfl (by kernel_rfl) (by kernel_rfl) (by kernel_rfl) (fun _ _ _ h => h) (.inl ⟨by kernel_rfl, ?_⟩) s0 ?_
    · intro w' hw'
      have q := hlk1 w' hw'; go_simp
    refine wpAnyH_take (i := 6) (v := .pointer (some ⟨p, 0, none⟩)) rfl (by kernel_rfl) (by kernel_rfl) (by kernel_rfl) (fun _ _ _ h => h) (.inl ⟨by kernel_rfl, ?_⟩) s0 ?_
    · intro w' hw'
      go_simp
    refine wpAnyH_take (i := 7) (v := .agg (conCells c).toArray) rfl (by kernel_rfl) (by kernel_rfl) (by kernel_rfl) (fun _ _ _ h => h) (.inl ⟨by kernel_rfl, ?_⟩) s0 ?_
    · intro w' hw'
      exact load82 (x := .tmp 24) rfl (by go_simp) (hrow w' hw')
    refine wpAnyH_one (i := 8) (by kernel_rfl) (wpOp_run rfl (by kernel_rfl) (run_exec_alloc82 _ _ rfl _) ?_)
    have s1 := s0.alloc (.cells (conCells zeroCon).toArray 82)
    refine ⟨s1, ?_⟩
    have hnew : (W1.drew.alloc (.cells (conCells zeroCon).toArray 82)).heap[W1.heap.size]? = some (.cells (conCells zeroCon).toArray 82 (0, 0)) := heap_alloc_new W1.drew _
    have hth : (W1.drew.alloc (.cells (conCells zeroCon).toArray 82)).there W1.heap.size 0 133 := by
      intro j hj
      refine ⟨?_, free_of_heap hnew _⟩
      rw [cell_of_heap hnew, Nat.zero_add]
      simp only [List.getElem?_toArray]
      rw [List.getElem?_eq_getElem (by rw [conCells_len]; exact hj)]
      rfl
    obtain ⟨W2, hW2⟩ : ∃ X, (W1.drew.alloc (.cells (conCells zeroCon).toArray 82)).setCells W1.heap.size 0 (conCells c) = X := ⟨_, rfl⟩
    have e2 := setCells_eq 0 (conCells c) hnew (by rw [List.size_toArray, conCells_len, conCells_len]; omega) (conCells_one c)
    have hrw := setRow_heap (W1.drew.alloc (.cells (conCells zeroCon).toArray 82)) W1.heap.size _ (List.take 0 (conCells zeroCon).toArray.toList ++ conCells c ++ List.drop (0 + (conCells c).length) (conCells zeroCon).toArray.toList).toArray 82 (0, 0) hnew
    have hC2 : ConAt W2 W1.heap.size c := by
      rw [← hW2, e2]
      unfold ConAt
      rw [hrw, List.toList_toArray, List.take_zero, List.nil_append, List.drop_of_length_le (by rw [conCells_len, conCells_len]; omega), List.append_nil]
    have hU2 : Upd [] W1 W2 := by
      rw [← hW2, e2]
      exact s1.setRow (.inl (Nat.le_refl _)) _
    refine wpAnyH_one (i := 9) (by kernel_rfl) (wpOp_run_skip rfl (by kernel_rfl) (store82 (x := .tmp 4) (y := .tmp 25) (p := W1.heap.size) (c := c) rfl (by go_simp) (by go_simp) hth) ?_)
    rw [hW2]
    refine ⟨hU2, ?_⟩
    refine wpAnyH_done (by kernel_rfl) ?_ _
    rw [show W1.drew.heap.size = W1.heap.size from rfl]
    obtain ⟨L, hL⟩ : ∃ L, L = W1.heap.size := ⟨_, rfl⟩
    rw [← hL] at hC2 ⊢
    have HC2 := Lib.hid hC2
    have HU2 := Lib.hid (hu1.trans hU2)
    have HCON := Lib.hid hcon
    clear hnew hth hW2 e2 hrw hC2 hU2 hL hcon s0 s1 hrow hlk1 hdm hd1 hd2 hB1 hu1
    have hs128 : ∀ d (hd : d < 4), W2.cell? ⟨L, 128 + d, none⟩ = some (.bool (c.hs[d]'(by rw [c.hh]; exact hd))) := fun d hd => HC2.out.has d hd
    have q0 := hs128 0 (by omega)
    have q1 := hs128 1 (by omega)
    have q2 := hs128 2 (by omega)
    have q3 := hs128 3 (by omega)
    obtain ⟨h0, hh0⟩ : ∃ x, x = c.hs[0]'(by rw [c.hh]; omega) := ⟨_, rfl⟩
    obtain ⟨h1, hh1⟩ : ∃ x, x = c.hs[1]'(by rw [c.hh]; omega) := ⟨_, rfl⟩
    obtain ⟨h2, hh2⟩ : ∃ x, x = c.hs[2]'(by rw [c.hh]; omega) := ⟨_, rfl⟩
    obtain ⟨h3, hh3⟩ : ∃ x, x = c.hs[3]'(by rw [c.hh]; omega) := ⟨_, rfl⟩
    rw [← hh0] at q0
    rw [← hh1] at q1
    rw [← hh2] at q2
    rw [← hh3] at q3
    simp only [Nat.add_zero, Nat.reduceAdd] at q0 q1 q2 q3
    have HH := Lib.hid (show _ ∧ _ ∧ _ ∧ _ from ⟨hh0, hh1, hh2, hh3⟩)
    clear hs128 hh0 hh1 hh2 hh3
    go_upto_region 2 with fail
    go_wp2
    have HJ2 := Lib.hid (show J (conUpto c 0) W2 ∧ KeepT W2 W2 from ⟨abides_upd HJ.out H0.out HU2.out, KeepT.refl W2⟩)
    go_loopw [28] (fun i wr => ∃ k : Nat, i = .int .i64 (k : Int) ∧ k ≤ 4 ∧ Hid (J (conUpto c k) wr ∧ KeepT W2 wr)) (fun i _ => 4 - (intOf i).toNat)
    case atStart => exact ⟨0, rfl, by omega, HJ2⟩
    case round =>
      obtain ⟨k, rfl, hk4, hR⟩ := hrel
      by_cases hlt : k < 4
      · have hidx : ∃ hk : Bool, hk = c.hs[k]'(by rw [c.hh]; exact hlt) ∧ ∀ w, (Instr.index 29 (.agg #[.bool h0, .bool h1, .bool h2, .bool h3]) (.int .i64 (k : Int))).run Tryz.prog w = .ok (.bool hk) w := by
          obtain ⟨e0, e1, e2, e3⟩ := HH.out
          have : k = 0 ∨ k = 1 ∨ k = 2 ∨ k = 3 := by omega
          rcases this with rfl | rfl | rfl | rfl
          · exact ⟨h0, e0, fun w => by kernel_rfl⟩
          · exact ⟨h1, e1, fun w => by kernel_rfl⟩
          · exact ⟨h2, e2, fun w => by kernel_rfl⟩
          · exact ⟨h3, e3, fun w => by kernel_rfl⟩
        obtain ⟨hb, hhb, hix⟩ := hidx
        have HHB := Lib.hid hhb
        clear hhb
        have hltI : (k : Int) < 4 := by omega
        go_upto_region 5 with fail
        cases hb with
        | false =>
          have e1 := conUpto_succ c k hlt
          rw [if_neg (by rw [← HHB.out]; simp), List.append_nil] at e1
          have HE := Lib.hid e1
          clear e1
          go_quiet (fail)
          go_wp2
          go_roundw
          case rel =>
            refine ⟨k + 1, rfl, by omega, Lib.hid ?_⟩
            rw [HE.out]
            have hd := (Upd.refl [] wr).drewN nq
            exact ⟨abides_upd HJ.out hR.out.1 hd, keepT_t hR.out.2 hd.keepT0⟩
          case measure => simp [intOf]; omega
        | true =>
          have e1 := conUpto_succ c k hlt
          rw [if_pos HHB.out.symm] at e1
          obtain ⟨ck, hck⟩ : ∃ ck, ck = c.ks[k]'(by rw [c.hk]; exact hlt) := ⟨_, rfl⟩
          rw [← hck] at e1
          have hJd := abides_upd HJ.out hR.out.1 ((Upd.refl [] wr).drew)
          obtain ⟨fn, tmps, assign, body, hy, hround⟩ := HY.out _ (UInt8.ofNat k, ck) wr.drew hJd (Nat.lt_of_le_of_lt (conUpto_len c k) hlt)
          have hofk : (UInt8.ofNat k).toNat = k := by simp; omega
          have henc : encKn a (UInt8.ofNat k, ck) = #[.agg #[.int .u8 (a.toNat : Int), .int .u8 (k : Int)], .agg (keyCells ck).toArray] := by
            unfold encKn devV byteV
            simp only [hofk]
          rw [henc] at hy
          have hconr : ConAt wr L c := hR.out.2.2 _ _ _ _ HC2.out (by simp)
          have hb2r : wr.heap[B2]? = some (.cells #[byteV a] 5 (0, 0)) := hR.out.2.2 _ _ _ _ (HU2.out.heap H2.out (by simp)) (by simp)
          have HE := Lib.hid (show _ ∧ _ from ⟨e1, hck⟩)
          have HKY := Lib.hid (show ∀ w', ConAt w' L c → w'.rangeAt L (k * 32) (keyCells ck) from fun w' h => by rw [hck]; exact h.key k hlt)
          have HRO := Lib.hid hround
          have wk : IntKind.u8.wrap (k : Int) = (k : Int) := IntWalk.u8_in _ (by omega)
          clear e1 hck hJd hround henc
          refine (wpIn_wide (n := n)).1 ?_
          refine wpIn_region_any (by kernel_rfl) ?_
          change wpAnyIn _ _ _ _ _ _ _ _ _ wr.drew
          have qa : wr.drew.cell? ⟨B2, 0, none⟩ = some (.int .u8 (a.toNat : Int)) := cell_of_heap hb2r 0
          have HKY2 := Lib.hid (HKY.out wr.drew hconr)
          clear hconr hb2r
          refine takeIn 0 (some 32) (.bool true) rfl rfl rfl (by kernel_rfl) (by kernel_rfl) (by kernel_rfl) (fun _ _ _ h => h) (by kernel_rfl) (fun w' => by go_simp) (fun _ => rfl) ?_
          refine takeIn 1 (some 33) (.bool true) rfl rfl rfl (by kernel_rfl) (by kernel_rfl) (by kernel_rfl) (fun _ _ _ h => h) (by kernel_rfl) (fun w' => by go_simp) (fun _ => rfl) ?_
          refine takeIn 2 (some 34) (.func (.yield l) #[] #[]) rfl rfl rfl (by kernel_rfl) (by kernel_rfl) (by kernel_rfl) (fun _ _ _ h => h) (by kernel_rfl) (fun w' => by go_simp) (fun _ => rfl) ?_
          refine takeIn 4 (some 36) (.int .i64 (k : Int)) rfl rfl rfl (by kernel_rfl) (by kernel_rfl) (by kernel_rfl) (fun _ _ _ h => h) (by kernel_rfl) (fun w' => by go_simp) (fun _ => rfl) ?_
          refine takeIn 5 (some 37) (.int .u8 (k : Int)) rfl rfl rfl (by kernel_rfl) (by kernel_rfl) (by kernel_rfl) (fun _ _ _ h => h) (by kernel_rfl) (fun w' => by go_simp) (fun _ => rfl) ?_
          refine takeIn 7 (some 39) (.int .i64 (k : Int)) rfl rfl rfl (by kernel_rfl) (by kernel_rfl) (by kernel_rfl) (fun _ _ _ h => h) (by kernel_rfl) (fun w' => by go_simp) (fun _ => rfl) ?_
          refine takeIn 8 (some 40) (.pointer (some ⟨L, 0, none⟩)) rfl rfl rfl (by kernel_rfl) (by kernel_rfl) (by kernel_rfl) (fun _ _ _ h => h) (by kernel_rfl) (fun w' => by go_simp) (fun _ => rfl) ?_
          refine takeIn 9 (some 41) (.pointer (some ⟨L, k * 32, none⟩)) rfl rfl rfl (by kernel_rfl) (by kernel_rfl) (by kernel_rfl) (fun _ _ _ h => h) (by kernel_rfl) (fun w' => by go_simp) (fun _ => rfl) ?_
          refine twoReads 3 10 (some 35) (some 42) (.int .u8 (a.toNat : Int)) (.agg (keyCells ck).toArray) rfl rfl rfl rfl rfl (by kernel_rfl) (by kernel_rfl) (by kernel_rfl) (by go_simp) (load31 (x := .tmp 41) (p := L) (off := k * 32) (k := ck) rfl (by go_simp) HKY2.out) rfl rfl ?o1 ?o2
          case o1 =>
            refine takeIn 6 (some 38) (.agg #[.int .u8 (a.toNat : Int), .int .u8 (k : Int)]) rfl rfl rfl (by kernel_rfl) (by kernel_rfl) (by kernel_rfl) (fun _ _ _ h => h) (by kernel_rfl) (fun w' => by go_simp) (fun _ => rfl) ?_
            refine oneRead 10 (some 42) (.agg (keyCells ck).toArray) rfl rfl rfl (by kernel_rfl) (by kernel_rfl) (load31 (x := .tmp 41) (p := L) (off := k * 32) (k := ck) rfl (by go_simp) HKY2.out) rfl ?_
            refine takeRound 11 (some 43) rfl rfl rfl (by kernel_rfl) (by kernel_rfl) (fun _ => trivial) (w' := wr.drew) (l := l) (fn := fn) (tmps := tmps) (assign := assign) (body := body) (by go_simp) (fun _ => hn) _ HRO.out ?_
            rintro e w3 (⟨rfl, hJ3, hk3⟩ | ⟨rfl, hJx3⟩)
            · refine ⟨_, rfl, ?_⟩
              refine oneRead 12 (some 44) (.bool false) rfl rfl rfl (by kernel_rfl) (by kernel_rfl) (by go_simp) rfl ?_
              refine oneRead 13 (some 45) (.bool false) rfl rfl rfl (by kernel_rfl) (by kernel_rfl) (by go_simp) rfl ?_
              refine wpAnyIn_done (by kernel_rfl) ?_ _
              clear hy qa
              go_simp
              go_wp2
              go_roundw
              case rel =>
                refine ⟨k + 1, rfl, by omega, Lib.hid ?_⟩
                rw [HE.out.1]
                exact ⟨hJ3, keepT_t hR.out.2 (keepT_t ((Upd.refl [] wr).drew).keepT0 hk3)⟩
              case measure => simp [intOf]; omega
            · refine ⟨_, rfl, ?_⟩
              refine oneRead 12 (some 44) (.bool true) rfl rfl rfl (by kernel_rfl) (by kernel_rfl) (by go_simp) rfl ?_
              refine oneRead 13 (some 45) (.bool true) rfl rfl rfl (by kernel_rfl) (by kernel_rfl) (by go_simp) rfl ?_
              refine wpAnyIn_done (by kernel_rfl) ?_ _
              clear hy qa
              go_simp
              go_wp2
              refine bodyPost_ret (results_none rfl _ _ _) rfl ?_
              refine ⟨⟨_, rfl⟩, .inr ⟨_, ?_, hJx3⟩⟩
              rw [hk', ← HE.out.1]
              exact conUpto_prefix c hlt
          case o2 =>
            refine oneRead 3 (some 35) (.int .u8 (a.toNat : Int)) rfl rfl rfl (by kernel_rfl) (by kernel_rfl) (by go_simp) rfl ?_
            refine takeIn 6 (some 38) (.agg #[.int .u8 (a.toNat : Int), .int .u8 (k : Int)]) rfl rfl rfl (by kernel_rfl) (by kernel_rfl) (by kernel_rfl) (fun _ _ _ h => h) (by kernel_rfl) (fun w' => by go_simp) (fun _ => rfl) ?_
            refine takeRound 11 (some 43) rfl rfl rfl (by kernel_rfl) (by kernel_rfl) (fun _ => trivial) (w' := wr.drew) (l := l) (fn := fn) (tmps := tmps) (assign := assign) (body := body) (by go_simp) (fun _ => hn) _ HRO.out ?_
            rintro e w3 (⟨rfl, hJ3, hk3⟩ | ⟨rfl, hJx3⟩)
            · refine ⟨_, rfl, ?_⟩
              refine oneRead 12 (some 44) (.bool false) rfl rfl rfl (by kernel_rfl) (by kernel_rfl) (by go_simp) rfl ?_
              refine oneRead 13 (some 45) (.bool false) rfl rfl rfl (by kernel_rfl) (by kernel_rfl) (by go_simp) rfl ?_
              refine wpAnyIn_done (by kernel_rfl) ?_ _
              clear hy qa
              go_simp
              go_wp2
              go_roundw
              case rel =>
                refine ⟨k + 1, rfl, by omega, Lib.hid ?_⟩
                rw [HE.out.1]
                exact ⟨hJ3, keepT_t hR.out.2 (keepT_t ((Upd.refl [] wr).drew).keepT0 hk3)⟩
              case measure => simp [intOf]; omega
            · refine ⟨_, rfl, ?_⟩
              refine oneRead 12 (some 44) (.bool true) rfl rfl rfl (by kernel_rfl) (by kernel_rfl) (by go_simp) rfl ?_
              refine oneRead 13 (some 45) (.bool true) rfl rfl rfl (by kernel_rfl) (by kernel_rfl) (by go_simp) rfl ?_
              refine wpAnyIn_done (by kernel_rfl) ?_ _
              clear hy qa
              go_simp
              go_wp2
              refine bodyPost_ret (results_none rfl _ _ _) rfl ?_
              refine ⟨⟨_, rfl⟩, .inr ⟨_, ?_, hJx3⟩⟩
              rw [hk', ← HE.out.1]
              exact conUpto_prefix c hlt
      · obtain rfl : k = 4 := by omega
        go_wp2
        go_end0
        exact ⟨⟨_, rfl⟩, .inl ⟨_, by rw [hk']; rfl, hR.out.1⟩⟩
theorem upd_below {w W : World} (h : Below w.heap.size w W) : Upd [] w W := (Upd.refl [] w).below h
theorem keys_stops (n : Nat) (hn : 1 ≤ n) (B1 B2 : Nat) (a : UInt8) {b g cap r : Nat} {acct : UInt8} {own : List K} {m : Cs} (w : World) (hB : BookAt w b g cap r acct own m)
    (h1 : w.heap[B1]? = some (.cells #[bookV b] 24 (0, 0))) (h2 : w.heap[B2]? = some (.cells #[byteV a] 5 (0, 0))) :
    SeqStopsK Fence.wide n Tryz.prog 53 #[.pointer (some ⟨B1, 0, none⟩), .pointer (some ⟨B2, 0, none⟩)] (encKn a) KeepT (fun xs => xs = knOf m a) (fun pre => pre <+: knOf m a) 4 w := by
  intro l J Jx W hb hJ hJx hY h0
  have hu := upd_below hb
  exact keys_in n hn l B1 B2 a J Jx W hJ hJx hY (hB.upd0 hu) (hu.heap h1 (by simp)) (hu.heap h2 (by simp)) h0
theorem keys_stops_nil (n : Nat) (B1 B2 : Nat) (a : UInt8) (w : World) (h1 : w.heap[B1]? = some (.cells #[.pointer none] 24 (0, 0))) :
    SeqStopsK Fence.wide n Tryz.prog 53 #[.pointer (some ⟨B1, 0, none⟩), .pointer (some ⟨B2, 0, none⟩)] (encKn a) KeepT (fun xs => xs = []) (fun pre => pre <+: []) 4 w := by
  intro l J Jx W hb hJ hJx hY h0
  have hu := upd_below hb
  refine callsIn_wide.2 ((keys_nil_in l B1 B2 J W hJ (hu.heap h1 (by simp)) h0).mono ?_)
  rintro e W' ⟨h2, h3⟩
  exact ⟨h2, .inl ⟨[], rfl, h3⟩⟩
def keysV (b1 b2 : Nat) : Value := .func (.func 53) #[] #[.pointer (some ⟨b1, 0, none⟩), .pointer (some ⟨b2, 0, none⟩)]
theorem keys18 (ad : Option Addr) (a : UInt8) (w : World) : Calls Tryz.prog 18 #[.pointer ad, byteV a] w fun e w' => e = .returned (keysV w.heap.size (w.heap.size + 1)) ∧ w' = (w.alloc (.cells #[.pointer ad] 24)).alloc (.cells #[byteV a] 5) := by
  unfold byteV
  go_enter Tryz.func18, Tryz.ntmps18
  go_wp2
  go_ret
  exact ⟨rfl, rfl⟩
end Go.Proofs.YtdbceafejbnebaaGreatDoor
