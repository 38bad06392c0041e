/- The document's Load: small laws. The document's Load: words for its walk. -/
import Derived.Test.YtdbceafejbnebaaGreatDoorM28
import Derived.Test.YtdbceafejbnebaaGreatDoorM29
/-! The document's Load: small laws. -/
namespace Go.Proofs.YtdbceafejbnebaaGreatDoor
open Go Go.RowKit
theorem size37 : (Tryz.prog.info? 37).map (·.size) = some 1066 := by kernel_rfl
theorem refCells_len (acct : UInt8) (ov : Value) (ρ : Rb) : (refCells acct ov ρ).length = 1066 := by
  have key : ∀ n, ((List.range n).flatMap fun a => rcCells (ρ (UInt8.ofNat a))).length = n * 133 := by
    intro n
    induction n with
    | zero => rfl
    | succ n ih => rw [List.range_succ, List.flatMap_append, List.length_append, ih]; simp [rcCells_len]; omega
  unfold refCells
  rw [List.length_cons, List.length_cons, key]
theorem size37c (acct : UInt8) (ov : Value) (ρ : Rb) : (Tryz.prog.info? 37).map (·.size) = some (refCells acct ov ρ).toArray.size := by
  rw [size37, List.size_toArray, refCells_len]
theorem refCells_all (acct : UInt8) (ov : Value) (ρ : Rb) (h : ov.oneCell' = true) : (refCells acct ov ρ).toArray.all (·.oneCell') = true := by
  refine all_oneCell_toArray ?_
  intro u hu
  unfold refCells at hu
  rw [List.mem_cons, List.mem_cons, List.mem_flatMap] at hu
  rcases hu with rfl | rfl | ⟨a, _, ha⟩
  · rfl
  · exact h
  · exact rcCells_one _ u ha
theorem run_exec_alloc37 (ρ : Operand → Value) (o : Oper) (ho : o.op = .alloc 37) (w : World) : (execOp ρ o).run Tryz.prog w = .ok (.value (.pointer (some ⟨w.heap.size, 0, none⟩))) (w.alloc (.cells (refCells 0 (.slice none 0 0) noneR).toArray 37)) := by
  unfold execOp
  simp only [ho]
  kernel_rfl
theorem run_build37 (acct : UInt8) (w : World) : (Instr.build 37 #[(0, byteV acct)]).run Tryz.prog w = .ok (.agg (refCells acct (.slice none 0 0) noneR).toArray) w := by kernel_rfl
theorem run_build37z (w : World) : (Instr.build 37 #[]).run Tryz.prog w = .ok (.agg (refCells 0 (.slice none 0 0) noneR).toArray) w := by kernel_rfl
theorem wpList_runV {ops : Array Oper} {rest : List Oper} {o : Oper} {a : Act} {w : World} {Q : Exit → Act → World → Prop} (hg : o.guard = none) (d : Option Tmp) (hd : o.dst = d)
    (v : Value) (w' : World) (hrun : (execOp a.eval o).run Tryz.prog w = .ok (.value v) w') (h : wpList Tryz.prog ops Q rest (a.put d v) w') : wpList Tryz.prog ops Q (o :: rest) a w := by
  subst hd
  refine wpList_plain hg fun K hK => ?_
  unfold Oper.wp
  rw [hrun, Oper.upon_value]
  exact hK _ _ h
/-- The cut, and what is left of it. -/
def CutS (w : World) (p : Nat) (ad : Option Addr) (cx : Nat) (xs : List UInt8) : Option (List UInt8) → Prop
  | some ys => ∃ a, a ≤ xs.length ∧ ys = xs.drop a ∧ CutAt w p (.slice ad xs.length cx) (a : Int)
  | none => CutAt w p (.slice ad xs.length cx) (-1)
theorem CutS.cut {w : World} {p cx : Nat} {ad : Option Addr} {xs : List UInt8} {st : Option (List UInt8)} (h : CutS w p ad cx xs st) : ∃ x : Int, CutAt w p (.slice ad xs.length cx) x ∧ ((0 ≤ x ∧ st ≠ none ∧ x ≤ xs.length ∧ (x = xs.length ↔ st = some [])) ∨ (x = -1 ∧ st = none)) := by
  cases st with
  | none => exact ⟨-1, h, .inr ⟨rfl, rfl⟩⟩
  | some ys =>
    obtain ⟨a, h1, rfl, h3⟩ := h
    refine ⟨_, h3, .inl ⟨by omega, by simp, by omega, ?_⟩⟩
    rw [Option.some.injEq, List.drop_eq_nil_iff]
    omega
theorem CutS.upd {S : List Nat} {w w' : World} {p cx : Nat} {ad : Option Addr} {xs : List UInt8} {st : Option (List UInt8)} (h : CutS w p ad cx xs st) (hu : Upd S w w') (hS : p ∉ S) : CutS w' p ad cx xs st := by
  cases st with
  | none => exact hu.heap h hS
  | some ys => obtain ⟨a, h1, h2, h3⟩ := h; exact ⟨a, h1, h2, hu.heap h3 hS⟩
theorem CutS.lt {w : World} {p cx : Nat} {ad : Option Addr} {xs : List UInt8} {st : Option (List UInt8)} (h : CutS w p ad cx xs st) : p < w.heap.size := by
  cases st with
  | none => exact lt_of_heap h
  | some ys => obtain ⟨a, h1, h2, h3⟩ := h; exact lt_of_heap h3
/-- Bytes that lie from off on in block g. -/
def LieAt (w : World) (g off : Nat) (l : List UInt8) : Prop := ∀ j (hj : j < l.length), w.cell? ⟨g, off + j, none⟩ = some (.int .u8 (l[j].toNat : Int))
theorem LieAt.upd {S : List Nat} {w w' : World} {g off : Nat} {l : List UInt8} (h : LieAt w g off l) (hu : Upd S w w') (hS : g ∉ S) : LieAt w' g off l := by
  intro j hj
  rw [cell_same (hu.block g (World.block_lt_of_cell? w ⟨g, off + j, none⟩ (h j hj)) hS)]
  exact h j hj
theorem LieAt.at {w : World} {g off : Nat} {l : List UInt8} (h : LieAt w g off l) (j : Nat) (hj : j < l.length) : w.cell? ⟨g, off + j, none⟩ = some (.int .u8 ((l[j]?.getD 0).toNat : Int)) := by
  rw [h j hj, List.getElem?_eq_getElem hj, Option.getD_some]
/-- What the caller handed in. -/
def InAt (w : World) (B : Nat) (ad : Option Addr) (cx : Nat) (xs : List UInt8) : Prop := xs.length ≤ cx ∧ xs.length ≤ 3000 ∧ (xs = [] ∨ ∃ g off, ad = some ⟨g, off, none⟩ ∧ g < B ∧ LieAt w g off xs)
theorem InAt.upd {S : List Nat} {w w' : World} {B cx : Nat} {ad : Option Addr} {xs : List UInt8} (h : InAt w B ad cx xs) (hu : Upd S w w') (hS : ∀ k ∈ S, B ≤ k) : InAt w' B ad cx xs := by
  obtain ⟨h1, h2, h3⟩ := h
  refine ⟨h1, h2, ?_⟩
  rcases h3 with h3 | ⟨g, off, e, hg, hl⟩
  · exact .inl h3
  · exact .inr ⟨g, off, e, hg, hl.upd hu (fun q => by have := hS g q; omega)⟩
theorem next30 {w : World} {p cx B : Nat} {ad : Option Addr} {xs : List UInt8} {st : Option (List UInt8)} (n : Nat) (hc : CutS w p ad cx xs st) (hv : InAt w B ad cx xs) (hn : 1 ≤ n) (hn2 : n ≤ 32) (hp : B ≤ p) :
    Calls Tryz.prog 30 #[.pointer (some ⟨p, 0, none⟩), .int .i64 n] w fun e w' => ∃ g off c, e = .returned (.slice (some ⟨g, off, none⟩) n c) ∧ (g < B ∨ w.heap.size ≤ g) ∧ g < w'.heap.size ∧ LieAt w' g off (rZ n st) ∧ CutS w' p ad cx xs (rTake n st) ∧ Upd [p] w w' := by
  obtain ⟨hcx, h3, hv⟩ := hv
  have few : ∀ (x : Int), CutAt w p (.slice ad xs.length cx) x → (x = -1 ∨ (0 ≤ x ∧ (xs.length : Int) - x < n)) → x ≤ 3000 → rZ n st = List.replicate n 0 → rTake n st = none →
      Calls Tryz.prog 30 #[.pointer (some ⟨p, 0, none⟩), .int .i64 n] w fun e w' => ∃ g off c, e = .returned (.slice (some ⟨g, off, none⟩) n c) ∧ (g < B ∨ w.heap.size ≤ g) ∧ g < w'.heap.size ∧ LieAt w' g off (rZ n st) ∧ CutS w' p ad cx xs (rTake n st) ∧ Upd [p] w w' := by
    intro x hx h hx3 e1 e2
    refine (cut_few x n hx h h3 hx3 hn2).mono ?_
    rintro e w' ⟨g, rfl, hb, hg, hc', hu⟩
    refine ⟨g, 0, n, rfl, .inr hg, lt_of_heap hb, ?_, ?_, hu⟩
    · rw [e1]
      intro j hj
      rw [cell_of_heap hb, Nat.zero_add]
      simp only [List.getElem?_toArray, List.getElem?_map, List.getElem?_eq_getElem hj, Option.map_some]
      rfl
    · rw [e2]; exact hc'
  cases st with
  | none => exact few (-1) hc (.inl rfl) (by omega) rfl rfl
  | some ys =>
    obtain ⟨a, ha, rfl, hca⟩ := hc
    by_cases hl : n ≤ (xs.drop a).length
    · have hl2 : a + n ≤ xs.length := by rw [List.length_drop] at hl; omega
      rcases hv with hv | ⟨g, off, rfl, hg, hlie⟩
      · rw [hv] at hl2; simp at hl2; omega
      · refine (cut_has a n hca hl2 hn hcx h3).mono ?_
        rintro e w' ⟨⟨c, rfl⟩, hc', hu⟩
        have hgw : g < w.heap.size := World.block_lt_of_cell? w ⟨g, off + 0, none⟩ (hlie 0 (by omega))
        refine ⟨g, off + a, c, rfl, .inl hg, Nat.lt_of_lt_of_le hgw hu.size, ?_, ?_, hu⟩
        · rw [rZ_has hl]
          intro j hj
          rw [List.length_take] at hj
          have hl3 := hlie.upd hu (by simp; omega) (a + j) (by omega)
          rw [← Nat.add_assoc] at hl3
          rw [hl3]
          simp
        · rw [rTake_has hl]
          exact ⟨a + n, hl2, by rw [List.drop_drop], hc'⟩
    · refine few a hca (.inr ⟨by omega, by rw [List.length_drop] at hl; omega⟩) (by omega) (rZ_few hl) (rTake_few hl)
theorem num31 {w : World} {g off c : Nat} (st : Option (List UInt8)) (h : LieAt w g off (rZ 2 st)) : Calls Tryz.prog 31 #[.slice (some ⟨g, off, none⟩) 2 c] w fun e w' => e = .returned (.int .u64 (numZ st)) ∧ w' = w := by
  have := of31 g off c (rZ 2 st) h (by rw [rZ_len]; exact Nat.le_refl _)
  rw [rZ_len] at this
  exact this
theorem key32 {w : World} {g off c : Nat} (st : Option (List UInt8)) (h : LieAt w g off (rZ 32 st)) (hg : g < w.heap.size) : Calls Tryz.prog 32 #[.slice (some ⟨g, off, none⟩) 32 c] w fun e w' => e = .returned (.agg (keyCells (kOf st)).toArray) ∧ Upd [] w w' :=
  ofKey32 g off c (rZ 32 st) h (rZ_len 32 st) hg
end Go.Proofs.YtdbceafejbnebaaGreatDoor
/-! The document's Load: words for its walk. -/
namespace Go.Proofs.YtdbceafejbnebaaGreatDoor
open Go Go.RowKit
theorem RefAt.setOwn {w : World} {g : Nat} {acct : UInt8} {ov : Value} {ρ : Rb} (h : RefAt w g acct ov ρ) (v : Value) : RefAt (w.setCell ⟨g, 1, none⟩ v) g acct v ρ ∧ Upd [g] w (w.setCell ⟨g, 1, none⟩ v) := by
  refine ⟨?_, (Upd.refl [g] w).setCell (.inr (by simp)) _⟩
  unfold RefAt
  rw [heap_setCell_same h]
  congr 2
theorem rlearn33 {w : World} {g : Nat} {acct : UInt8} {ov : Value} {ρ : Rb} (hr : RefAt w g acct ov ρ) (a d : UInt8) (k : K) :
    Calls Tryz.prog 33 #[.pointer (some ⟨g, 0, none⟩), devV a d, .agg (keyCells k).toArray] w fun e w' => ∃ b ρ', e = .returned (.tuple #[.bool b, .int .i64 (mayE acct a d)]) ∧ RefAt w' g acct ov ρ' ∧ (mayE acct a d = 0 → ρ' = ρ.put a (rlearnC (ρ a) d.toNat k)) ∧ Upd [g] w w' := by
  by_cases h : mayE acct a d = 0
  · refine (rlearn_has hr a d k h).mono ?_
    rintro e w' ⟨⟨b, rfl⟩, h2, h3⟩
    exact ⟨b, _, by rw [h], h2, fun _ => rfl, h3⟩
  · refine (rlearn_not hr a d k h).mono ?_
    rintro e w' ⟨rfl, h3⟩
    have h2 : mayE acct a d = 2 := by
      unfold mayE at h ⊢
      split
      · rfl
      · rename_i q; rw [if_neg q] at h; exact absurd rfl h
    exact ⟨false, ρ, by rw [h2], hr.upd h3 (by simp), fun q => absurd q h, h3.mono (by simp)⟩
/-- What stands when the keys of one's own are in. -/
structure Mid (w W2 we : World) (xs : List UInt8) (r p bb cx : Nat) (ad : Option Addr) (L : List K) (st : Option (List UInt8)) (v : Value) : Prop where
  ref : RefAt we bb (zAt 1 (some xs) 0) v noneR
  own : we.ownsRow W2.heap.size 31 32 v L.length (L.flatMap keyCells)
  cut : CutS we p ad cx xs st
  upd : Upd [p, bb] W2 we
  len : L.length ≤ 4
/-- The blocks of the call. -/
structure Lay (w W2 : World) (xs : List UInt8) (r p bb cx : Nat) (ad : Option Addr) : Prop where
  inp : InAt W2 w.heap.size ad cx xs
  res : RefAt W2 r 0 (.slice none 0 0) noneR
  upd : Upd [] w W2
  rB : w.heap.size ≤ r
  pB : w.heap.size ≤ p
  bB : w.heap.size ≤ bb
  rp : r ≠ p
  rb : r ≠ bb
  pb : p ≠ bb
  bl : bb < W2.heap.size
  pl : p < W2.heap.size
/-- What stands while the accounts come in. -/
structure Run (W2 we : World) (xs : List UInt8) (p bb cx : Nat) (ad : Option Addr) (acct : UInt8) (L : List K) (v : Value) (st : Option (List UInt8)) (ρ : Rb) : Prop where
  ref : RefAt we bb acct v ρ
  own : we.ownsRow W2.heap.size 31 32 v L.length (L.flatMap keyCells)
  cut : CutS we p ad cx xs st
  upd : Upd [p, bb] W2 we
section
variable {w W2 we we' : World} {xs : List UInt8} {r p bb cx : Nat} {ad : Option Addr} {acct : UInt8} {L : List K} {v : Value} {st st' : Option (List UInt8)} {ρ ρ' : Rb}
theorem Run.upd0 (h : Run W2 we xs p bb cx ad acct L v st ρ) (hu : Upd [] we we') : Run W2 we' xs p bb cx ad acct L v st ρ :=
  ⟨h.ref.upd hu (by simp), owns_upd h.own hu (by simp), h.cut.upd hu (by simp), h.upd.trans (hu.mono (by simp))⟩
theorem Run.next (h : Run W2 we xs p bb cx ad acct L v st ρ) (hc : CutS we' p ad cx xs st') (hu : Upd [p] we we') (hY : Lay w W2 xs r p bb cx ad) : Run W2 we' xs p bb cx ad acct L v st' ρ :=
  ⟨h.ref.upd hu (by have := hY.pb; simp; omega), owns_upd h.own hu (by have := hY.pl; simpa using this), hc, h.upd.trans (hu.mono (by simp))⟩
theorem Run.turn (h : Run W2 we xs p bb cx ad acct L v st ρ) (hr : RefAt we' bb acct v ρ') (hu : Upd [bb] we we') (hY : Lay w W2 xs r p bb cx ad) : Run W2 we' xs p bb cx ad acct L v st ρ' :=
  ⟨hr, owns_upd h.own hu (by have := hY.bl; simpa using this), h.cut.upd hu (by have := hY.pb; simpa using this), h.upd.trans (hu.mono (by simp))⟩
theorem Run.inp (h : Run W2 we xs p bb cx ad acct L v st ρ) (hY : Lay w W2 xs r p bb cx ad) : InAt we w.heap.size ad cx xs :=
  hY.inp.upd h.upd (by have := hY.pB; have := hY.bB; simp; omega)
theorem Run.apart {g : Nat} (h : Run W2 we xs p bb cx ad acct L v st ρ) (hY : Lay w W2 xs r p bb cx ad) (hg : g < w.heap.size ∨ we.heap.size ≤ g) : g ≠ p ∧ g ≠ bb := by
  have h1 := h.cut.lt
  have h2 := lt_of_heap h.ref
  have h3 := hY.pB
  have h4 := hY.bB
  omega
/-- The document's next, in a run. -/
theorem Run.calls (h : Run W2 we xs p bb cx ad acct L v st ρ) (hY : Lay w W2 xs r p bb cx ad) (n : Nat) (hn : 1 ≤ n) (hn2 : n ≤ 32) :
    Calls Tryz.prog 30 #[.pointer (some ⟨p, 0, none⟩), .int .i64 n] we fun e w' => ∃ g off c, e = .returned (.slice (some ⟨g, off, none⟩) n c) ∧ g ≠ p ∧ g ≠ bb ∧ g < w'.heap.size ∧ LieAt w' g off (rZ n st) ∧ Upd [p] we w' ∧ Run W2 w' xs p bb cx ad acct L v (rTake n st) ρ := by
  refine (next30 n h.cut (h.inp hY) hn hn2 hY.pB).mono ?_
  rintro e w' ⟨g, off, c, rfl, hg, hgl, hlie, hc, hu⟩
  have := h.apart hY hg
  exact ⟨g, off, c, rfl, this.1, this.2, hgl, hlie, hu, h.next hc hu hY⟩
end
theorem LieAt.first {w : World} {g off n : Nat} {st : Option (List UInt8)} (h : LieAt w g off (rZ n st)) (hn : 1 ≤ n) : w.cell? ⟨g, off, none⟩ = some (.int .u8 ((zAt n st 0).toNat : Int)) := by
  have := h.at 0 (by rw [rZ_len]; omega)
  rwa [Nat.add_zero] at this
theorem LieAt.second {w : World} {g off n : Nat} {st : Option (List UInt8)} (h : LieAt w g off (rZ n st)) (hn : 2 ≤ n) : w.cell? ⟨g, off + 1, none⟩ = some (.int .u8 ((zAt n st 1).toNat : Int)) :=
  h.at 1 (by rw [rZ_len]; omega)
/-- An append of keys, in whatever region: of what was there but S nothing turns. -/
theorem wpOp_app28S {ops : Array Oper} {Q : Exit → Act → World → Prop} {i : Nat} (d : Option Tmp) {o : Oper} {a : Act} {w W : World} {S : List Nat} {KK : Act → World → Prop} (hi : ops[i]? = some o) (hd : o.dst = d) (hw : Region.wanted o (yielded ops a.tmps) = true)
    (s x : Operand) (ho : o.op = .call { callee := .builtin .append, args := #[s, x], argTypes := #[28, 28] }) (v xv : Value) (hs : a.eval s = v) (hx : a.eval x = xv) (B : Nat) (R ys : List K)
    (hown : w.ownsRow B 31 32 v R.length (R.flatMap keyCells)) (hv : ViewAt 32 w xv ys.length (ys.flatMap keyCells)) (hl : R.length + ys.length ≤ 1000) (hB : W.heap.size ≤ B) (hb : B ≤ w.heap.size) (hu : Upd S W w)
    (h : ∀ v' w', w'.ownsRow B 31 32 v' (R ++ ys).length ((R ++ ys).flatMap keyCells) → Upd S W w' → w.grownBy w' v.ownBlock → KK (a.put d v') w') : wpOp Tryz.prog ops Q i KK a w := by
  subst hd
  obtain ⟨i0, hi0, hz0, hz1, hz2⟩ := info_parts Tryz.info31
  have hm : R.length + ys.length ≤ maxLen := Nat.le_trans hl (by decide)
  have hbig : (R.length + ys.length) * 32 ≤ 140737488355328 := Nat.le_trans (Nat.mul_le_mul_right 32 hl) (by decide)
  obtain ⟨v', w', q1, q2, q3⟩ := run_append_view (P := Tryz.prog) w B 28 o.type 31 i0 _ 32 32 Tryz.underlying28 hi0 hz0 hz1 hz2 rfl (by decide) v R.length _ hown xv ys.length _ hv
    (by intro u hu2; obtain ⟨k, _, hk⟩ := List.mem_flatMap.1 hu2; exact keyCells_one k u hk) hm hbig hb
  refine wpOp_run hi hw (run_exec_append a.eval o ho hs hx q1) (h v' w' ?_ ?_ q3)
  · rw [List.length_append, List.flatMap_append]
    exact q2
  · exact upd_grown hu q3 (fun k hk => Nat.le_trans hB (owns_block hown k hk))
theorem drew_heap (w : World) : w.drew.heap = w.heap := rfl
/-- What Load answers. -/
def LoadR (w w' : World) (e : Ending) : Option (UInt8 × List K × Rb) → Prop
  | none => e = .returned (.tuple #[.agg (refCells 0 (.slice none 0 0) noneR).toArray, .bool false])
  | some (acct, own, ρ) => ∃ go cap, e = .returned (.tuple #[.agg (refCells acct (.slice (some ⟨go, 0, none⟩) own.length cap) ρ).toArray, .bool true]) ∧ own.length ≤ 4 ∧ w.heap.size ≤ go ∧ ∀ j u, (own.flatMap keyCells)[j]? = some u → w'.cell? ⟨go, 0 + j, none⟩ = some u
theorem neqS (a b : List UInt8) (w : World) : (binOp .neq 9 (.string ⟨a.toArray⟩) (.string ⟨b.toArray⟩)).run Tryz.prog w = .ok (.bool (!decide (a = b))) w := by
  go_simp
  by_cases h : a = b <;> simp [h]
theorem run_exec_build37z (ρ : Operand → Value) (o : Oper) (ho : o.op = .build 37 #[]) (w : World) : (execOp ρ o).run Tryz.prog w = .ok (.value (.agg (refCells 0 (.slice none 0 0) noneR).toArray)) w := by
  have h := run_build37z w
  unfold execOp
  simp only [ho, List.map_toArray, List.map_nil, Sem.run_bind, h, Result.andThen_ok, Sem.run_pure]
theorem results_cell_tmp_row {P : Program} {fn : Func} {p u : Tmp} {ty : TypeId} (h : fn.results = #[.cell p ty, .tmp u]) (tmps : Array Value) (w : World) (g : Nat) (t : TypeId) (cs : Array Value) (fr : Nat × Nat) (d : TypeDesc) (x : Value)
    (hp : tmps.getD p undef = .pointer (some ⟨g, 0, none⟩)) (hx : tmps.getD u undef = x) (hg : w.heap[g]? = some (.cells cs t fr))
    (hu : P.underlying ty = some d) (hd : (match d with | .struct _ | .array _ _ => true | _ => false) = true) (hi : (P.info? ty).map (·.size) = some cs.size) :
    (results fn tmps).run P w = .ok (.tuple #[.agg cs, x]) w := by
  rw [results_cell_tmp h, hp, hx]
  simp only [asAddr, Sem.run_pure, Result.andThen_ok, run_loadVar_row w g t ty cs fr d hg hu hd hi]
theorem conv_owns {w : World} {B n : Nat} {v : Value} {bs : List UInt8} (h : w.ownsRow B 5 1 v n (bs.map byteV)) : (convert 22 9 v).run Tryz.prog w = .ok (.string ⟨bs.toArray⟩) w := by
  have hl : n = bs.length := by have := h.1; simpa using this.symm
  subst hl
  have h0 := h
  obtain ⟨h1, ⟨rfl, hz⟩ | ⟨g, cap, cur, rfl, hb, hg, hc, hm, hs, ht⟩⟩ := h
  · have : bs = [] := List.eq_nil_of_length_eq_zero (by simpa using hz)
    subst this
    rw [run_convert_bytes_string w 22 9 5 none 0 0 Tryz.underlying22 Tryz.underlying5 Tryz.underlying9]
    rfl
  · refine run_convert_bytes_back (P := Tryz.prog) w 22 9 5 ⟨g, 0, none⟩ cap bs Tryz.underlying22 Tryz.underlying5 Tryz.underlying9 (fun j hj => ?_)
    rw [Addr.add_lit, Nat.zero_add]
    exact owns_cells h0 j (byteV bs[j]) (by simp [hj])
theorem conv_in {w : World} {B cx : Nat} {ad : Option Addr} {xs : List UInt8} (h : InAt w B ad cx xs) : (convert 22 9 (.slice ad xs.length cx)).run Tryz.prog w = .ok (.string ⟨xs.toArray⟩) w := by
  obtain ⟨h1, h2, rfl | ⟨g, off, rfl, hg, hl⟩⟩ := h
  · cases ad with
    | none => rw [run_convert_bytes_string w 22 9 5 none [].length cx Tryz.underlying22 Tryz.underlying5 Tryz.underlying9]; rfl
    | some a => exact run_convert_bytes_back (P := Tryz.prog) w 22 9 5 a cx [] Tryz.underlying22 Tryz.underlying5 Tryz.underlying9 (fun j hj => by simp at hj)
  · refine run_convert_bytes_back (P := Tryz.prog) w 22 9 5 ⟨g, off, none⟩ cx xs Tryz.underlying22 Tryz.underlying5 Tryz.underlying9 (fun j hj => ?_)
    rw [Addr.add_lit]
    exact hl j hj
end Go.Proofs.YtdbceafejbnebaaGreatDoor
