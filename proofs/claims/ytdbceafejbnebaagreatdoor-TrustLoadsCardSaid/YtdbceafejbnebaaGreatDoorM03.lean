/- A device's key, and lists of these, as they are taken. An account as it is taken, and the list of these. How two keys are held against each other. -/
import Derived.Test.YtdbceafejbnebaaGreatDoorM02
import Derived.Lib.Bytealg
import Derived.Deep.RegionWith
import Derived.Deep.QuietTactic
import Derived.BigQuiet
import Derived.Sort.Grow
/-! A device's key, and lists of these, as they are taken. -/
namespace Go.Proofs.YtdbceafejbnebaaGreatDoor
open Go Go.RowKit

theorem Upd.setRow {S : List Nat} {a w : World} (h : Upd S a w) {g : Nat} (hp : a.heap.size ≤ g ∨ g ∈ S) (cs : Array Value) : Upd S a (w.setRow g cs) := by
  refine ⟨h.os, h.tape, h.output, Nat.le_trans h.size (by simp), fun k hk hS => ?_⟩
  have hne : k ≠ g := by
    rcases hp with hp | hp
    · omega
    · intro e; rw [e] at hS; exact hS hp
  rw [setRow_other _ _ _ _ hne]
  exact h.block k hk hS
/-- A struct that is built, by its run. -/
theorem wpList_buildRun {P : Program} {ops : Array Oper} {rest : List Oper} {o : Oper} {a : Act} {w : World} {Q : Exit → Act → World → Prop} (hg : o.guard = none) (t : TypeId) (parts : Array (Nat × Operand)) (ho : o.op = .build t parts)
    (v : Value) (hrun : (Instr.build t (parts.map fun (i, x) => (i, a.eval x))).run P w = .ok v w)
    (h : wpList P ops Q rest (a.put o.dst v) w) : wpList P ops Q (o :: rest) a w := by
  refine wpList_plain hg fun K hK => ?_
  unfold Oper.wp execOp
  simp only [ho, Sem.run_bind, hrun, Result.andThen_ok]
  exact hK _ _ h

theorem wpList_build2 {P : Program} {ops : Array Oper} {rest : List Oper} {o : Oper} {a : Act} {w : World} {Q : Exit → Act → World → Prop} (hg : o.guard = none) (t : TypeId) (i j : Nat) (x y : Operand) (ho : o.op = .build t #[(i, x), (j, y)])
    (vx vy v : Value) (hx : a.eval x = vx) (hy : a.eval y = vy) (hrun : (Instr.build t #[(i, vx), (j, vy)]).run P w = .ok v w)
    (h : wpList P ops Q rest (a.put o.dst v) w) : wpList P ops Q (o :: rest) a w :=
  wpList_buildRun hg t _ ho v (by simp only [List.map_toArray, List.map_cons, List.map_nil, hx, hy]; exact hrun) h
theorem wpList_build3 {P : Program} {ops : Array Oper} {rest : List Oper} {o : Oper} {a : Act} {w : World} {Q : Exit → Act → World → Prop} (hg : o.guard = none) (t : TypeId) (i j k : Nat) (x y z : Operand) (ho : o.op = .build t #[(i, x), (j, y), (k, z)])
    (vx vy vz v : Value) (hx : a.eval x = vx) (hy : a.eval y = vy) (hz : a.eval z = vz) (hrun : (Instr.build t #[(i, vx), (j, vy), (k, vz)]).run P w = .ok v w)
    (h : wpList P ops Q rest (a.put o.dst v) w) : wpList P ops Q (o :: rest) a w :=
  wpList_buildRun hg t _ ho v (by simp only [List.map_toArray, List.map_cons, List.map_nil, hx, hy, hz]; exact hrun) h
/-- A known key: its device's number, and it. -/
abbrev Kn := UInt8 × K
def knCells (x : Kn) : List Value := byteV x.1 :: keyCells x.2
theorem zero73 (w : World) : (zeroValue 73).run Tryz.prog w = .ok (.agg (byteV 0 :: zc).toArray) w := by kernel_rfl
theorem places73 (w : World) : (do
    match ← underlying 73 with
    | .struct fields => fields.mapM fun f => do pure (f.offset, ← sizeOf f.type)
    | _ => stuck "" : Sem (Array (Nat × Nat))).run Tryz.prog w = .ok #[(0, 1), (1, 32)] w := by kernel_rfl
theorem run_build73 (c : UInt8) (cs : List Value) (h : cs.length = 32) (w : World) :
    (Instr.build 73 #[(0, .int .u8 c.toNat), (1, .agg cs.toArray)]).run Tryz.prog w = .ok (.agg (byteV c :: cs).toArray) w := by
  have hp := places73 w
  simp only [Sem.run_bind, run_underlying Tryz.underlying73, Result.andThen_ok] at hp
  simp only [Instr.build, Sem.run_bind, zero73, run_underlying Tryz.underlying73, Result.andThen_ok, hp]
  rw [fill_cons (off := 0) (size := 1) (cs := [byteV c]) rfl rfl (by simp [Value.cells]) _ rfl, fill_cons (off := 1) (size := 32) (cs := cs) rfl h (by simp [Value.cells, zc_len]) _ rfl, Instr.fill]
  simp [Value.cells, zc_len]

def u8Go (xs : List UInt8) : Option (UInt8 × List UInt8) := match xs with | [] => none | x :: ys => some (x, ys)
theorem u8_any (p g : Nat) (st : Option (List UInt8)) (w : World) (hi : IsIn w p g st) :
    Calls Tryz.prog 21 #[.pointer (some ⟨p, 0, none⟩)] w fun e w' => ∃ c : UInt8, e = .returned (.int .u8 c.toNat) ∧ Upd [p] w w' ∧ IsIn w' p g ((st.bind u8Go).map (·.2)) ∧ ∀ x ys, st.bind u8Go = some (x, ys) → c = x := by
  match st, hi with
  | none, hi => exact (u8_not p g none w hi (fun ⟨xs, h, _⟩ => by cases h)).mono fun e w' ⟨h1, h2, h3⟩ => ⟨0, h1, h2, h3, fun x ys h => by cases h⟩
  | some [], hi => exact (u8_not p g (some []) w hi (fun ⟨xs, h, h'⟩ => by cases h; simp at h')).mono fun e w' ⟨h1, h2, h3⟩ => ⟨0, h1, h2, h3, fun x ys h => by cases h⟩
  | some (x :: xs), hi => exact (u8_has p g x xs w hi).mono fun e w' ⟨h1, h2, h3⟩ => ⟨x, h1, h2, h3, fun y ys h => by cases h; rfl⟩

def knGo (xs : List UInt8) : Option (Kn × List UInt8) := (u8Go xs).bind fun r => (keyGo r.2).map fun s => ((r.1, s.1), s.2)
theorem Tryz.size73 : (Tryz.prog.info? 73).map (·.size) = some 33 := by kernel_rfl
theorem size73 {cs : List Value} (h : cs.length = 33) : (Tryz.prog.info? 73).map (·.size) = some cs.toArray.size := by rw [Tryz.size73]; simp [h]
def zkn : List Value := byteV 0 :: zc
theorem byteV_ok (c : UInt8) : (byteV c).oneCell' = true := rfl

set_option maxHeartbeats 400000 in
theorem takeKn_any (p g : Nat) (st : Option (List UInt8)) (w : World) (hi : IsIn w p g st) (hgw : g < w.heap.size) :
    Calls Tryz.prog 27 #[.pointer (some ⟨p, 0, none⟩)] w fun e w' => ∃ cs : List Value, e = .returned (.agg cs.toArray) ∧ cs.length = 33 ∧ (∀ u ∈ cs, u.oneCell' = true) ∧ Upd [p] w w' ∧
      IsIn w' p g ((st.bind knGo).map (·.2)) ∧ ∀ k ys, st.bind knGo = some (k, ys) → cs = knCells k := by
  have hlt := hi.lt
  go_enter Tryz.func27, Tryz.ntmps27
  go_wp2_with fail
  have hB := alloc_heap w (.cells zkn.toArray 73)
  have hU := (Upd.refl [p] w).alloc (.cells zkn.toArray 73)
  have hI := hi.upd ((Upd.refl [] w).alloc (.cells zkn.toArray 73)) (by simp) (by simp)
  change Calls _ _ _ (w.alloc (.cells zkn.toArray 73)) _
  generalize w.alloc (.cells zkn.toArray 73) = w1 at hB hU hI ⊢
  have HB := Lib.hid hB
  have ht := u8_any p g st w1 hI
  clear hB hi hI
  refine ht.mono ?_; clear ht
  rintro e w2 ⟨c, rfl, hu2, hin2, hc2⟩
  have ht := takeKey_any p g _ w2 hin2
  have HC2 := Lib.hid hc2
  clear hc2
  go_wp2_with fail
  refine ht.mono ?_; clear ht; rintro e w3 ⟨cs, rfl, hcl, hc1, hu3, hin3, hit⟩; have HCL := Lib.hid hcl; have HC1 := Lib.hid hc1; have HIT := Lib.hid hit; clear hcl hc1 hit
  have hrow : w3.heap[w.heap.size]? = some (.cells zkn.toArray 73 (0, 0)) := hu3.heap (hu2.heap HB.out (by simp; omega)) (by simp; omega)
  have HR := Lib.hid hrow
  clear hrow
  go_wp2_with (first | (refine wpList_build2 rfl 73 0 1 _ _ rfl (.int .u8 c.toNat) (.agg cs.toArray) (.agg (byteV c :: cs).toArray) rfl rfl (run_build73 c cs HCL.out _) ?_) | (refine wpList_store_row rfl 73 _ _ rfl w.heap.size (byteV c :: cs).toArray rfl rfl 73 zkn.toArray HR.out (size73 (by simp [HCL.out])) (by simp [HCL.out, zkn, zc_len]) (all_oneCell_toArray (by simpa [byteV_ok] using HC1.out)) ?_))
  have hrow2 := setRow_heap w3 w.heap.size zkn.toArray (byteV c :: cs).toArray 73 (0, 0) HR.out
  refine bodyPost_ret (results_cell_row rfl _ _ _ 73 (byteV c :: cs).toArray (0, 0) _ rfl hrow2 Tryz.underlying73 rfl (size73 (by simp [HCL.out]))) rfl ?_
  have hu : Upd [p] w (w3.setRow w.heap.size (byteV c :: cs).toArray) := (hU.trans (hu2.trans hu3)).setRow (.inl (Nat.le_refl _)) _
  have e : (((st.bind u8Go).map (·.2)).bind keyGo).map (·.2) = (st.bind knGo).map (·.2) := by
    cases st with
    | none => rfl
    | some xs =>
      simp only [Option.bind_some, knGo]
      cases u8Go xs with
      | none => rfl
      | some r => simp only [Option.map_some, Option.bind_some]; cases keyGo r.2 <;> rfl
  rw [e] at hin3
  refine ⟨_, rfl, by simp [HCL.out], by simpa [byteV_ok] using HC1.out, hu, hin3.congr (setRow_other _ _ _ _ (by omega)) (fun _ => setRow_other _ _ _ _ (by omega)), ?_⟩
  intro k ys hk
  cases st with
  | none => cases hk
  | some xs =>
    simp only [Option.bind_some, knGo, Option.bind_eq_some_iff] at hk
    obtain ⟨r, hr, hk⟩ := hk
    obtain ⟨s, hs, hk⟩ := Option.map_eq_some_iff.1 hk
    obtain ⟨rfl, rfl⟩ : (r.1, s.1) = k ∧ s.2 = ys := by cases hk; exact ⟨rfl, rfl⟩
    rw [HC2.out r.1 r.2 (by simpa using hr), HIT.out s.1 s.2 (by simp [hr, hs])]
    rfl

theorem Tryz.info73 : (Tryz.prog.info? 73).map (fun i => (i.zero, i.size, i.bytes)) = some (some (.agg zkn.toArray), 33, 33) := by kernel_rfl
/-- A slice. -/
def IsSl (v : Value) : Prop := ∃ a n c, v = .slice a n c
theorem owns_isSl {w : World} {base size n : Nat} {e : TypeId} {v : Value} {xs : List Value} (h : w.ownsRow base e size v n xs) : IsSl v := by
  rcases h.2 with ⟨rfl, _⟩ | ⟨g, cap, cur, rfl, _⟩
  · exact ⟨_, _, _, rfl⟩
  · exact ⟨_, _, _, rfl⟩
theorem eql74 (w : World) : (binOp .eql 74 (.func (.func 27) #[] #[]) .nilFunc).run Tryz.prog w = .ok (.bool false) w := by kernel_rfl
set_option maxHeartbeats 1000000 in
theorem takeKns_any (p g most : Nat) (st : Option (List UInt8)) (w : World) (hi : IsIn w p g st) (hgw : g < w.heap.size) (hm : most < 1000) :
    Calls Tryz.prog 26 #[.pointer (some ⟨p, 0, none⟩), .int .i64 most, .func (.func 27) #[] #[]] w fun e w' => ∃ v, e = .returned v ∧ IsSl v ∧ Upd [p] w w' ∧
      IsIn w' p g ((listGo most knGo st).map (·.2)) ∧
      ∀ l ys, listGo most knGo st = some (l, ys) → w'.ownsRow w.heap.size 73 33 v l.length (l.flatMap knCells) := by
  have ht := many_any p g most st w hi
  have hpw := hi.lt
  have HM := Lib.hid hm
  clear hi hm
  have q74 := eql74
  go_enter Tryz.func26, Tryz.ntmps26
  go_wp2_with (go_at_call 56; refine ht.mono ?_; clear ht; rintro e w' ⟨hu, ⟨rfl, hin, hres⟩ | ⟨xs, rfl, hle, hin, hres⟩⟩)
  · have c1 := wrong_cell hin
    simp at c1
    have HR := Lib.hid (hres knGo)
    clear hres
    refine wp_loop_rounds 1 ?_
    rw [rounds_succ]
    go_wp2
    go_ret
    refine ⟨_, rfl, ⟨_, _, _, rfl⟩, hu, by rw [HR.out]; exact hin, fun l ys h => by rw [HR.out] at h; cases h⟩
  · have hp0 := hin.lt
    have HL : Hid (Link knGo (listGo most knGo st) [] (be (xs.take 2)) (some (xs.drop 2))) := by
      show listGo most knGo st = _
      rw [hres knGo]
      simp
    clear hres
    generalize be (xs.take 2) = m at hle HL ⊢
    generalize xs.drop 2 = ys at hin HL
    have HO : Hid (w'.ownsRow w.heap.size 73 33 (.slice none 0 0) 0 []) := World.ownsRow_nil _ _ _ _
    have HLe := Lib.hid hle
    clear hle
    obtain ⟨i0, hi, hz0, hz1, hz2⟩ := info_parts Tryz.info73
    have HN : Hid (0 < 33 ∧ 33 ≤ 1000) := by show _ ∧ _; omega
    go_loopw [7, 8] (fun v i wr => ∃ (k : Nat) (done : List Kn) (stc : Option (List UInt8)), i = .int .i64 k ∧ Hid (k + done.length ≤ most) ∧ Hid (stc ≠ none → wr.ownsRow w.heap.size 73 33 v done.length (done.flatMap knCells)) ∧ IsIn wr p g stc ∧ Upd [p] w wr ∧ Hid (Link knGo (listGo most knGo st) done k stc)) (fun _ i _ => (intOf i).toNat)
    case atStart => exact ⟨m, [], some ys, rfl, HLe, Lib.hid (fun _ => HO.out), hin, hu, HL⟩
    case round =>
      obtain ⟨k, done, stc, rfl, hk, ho, hin2, hu2, hlk⟩ := hrel
      have c1 := wrong_cell hin2
      cases k with
      | zero =>
        cases stc with
        | none =>
          simp at c1
          go_wp2
          go_ret
          have hres : listGo most knGo st = none := hlk.out
          exact ⟨_, rfl, ⟨_, _, _, rfl⟩, hu2, by rw [hres]; exact hin2, fun l ys h => by rw [hres] at h; cases h⟩
        | some xs =>
          simp at c1
          go_wp2
          go_ret
          have hres : listGo most knGo st = some (done, xs) := by have := hlk.out; simpa [Link, manyGo] using this
          refine ⟨_, rfl, owns_isSl (ho.out (by simp)), hu2, by rw [hres]; exact hin2, fun l ys h => ?_⟩
          rw [hres] at h
          cases h
          exact ho.out (by simp)
      | succ k =>
        cases stc with
        | none =>
          simp at c1
          go_wp2
          go_ret
          have hres : listGo most knGo st = none := hlk.out
          exact ⟨_, rfl, ⟨_, _, _, rfl⟩, hu2, by rw [hres]; exact hin2, fun l ys h => by rw [hres] at h; cases h⟩
        | some xs =>
          simp at c1
          have ht := takeKn_any p g (some xs) _ hin2 (Nat.lt_of_lt_of_le hgw hu2.size)
          have hpos : (0 : Int) < ((k + 1 : Nat) : Int) := by omega
          have hkI : (k : Int) ≤ 1000 := by have := hk.out; have := HM.out; omega
          have HP : Hid (∀ j ∈ [p], j < w.heap.size) := fun j hj => by rw [List.mem_singleton.1 hj]; exact hpw
          go_wp2_with (first | (go_at_call 27; refine ht.mono ?_; clear ht; rintro e w3 ⟨cs, rfl, hcl, hc1, hu3, hin3, hit⟩; have HCL := Lib.hid hcl; have HC1 := Lib.hid hc1; have HIT := Lib.hid hit; clear hcl hc1 hit) | (refine wpList_slice1 rfl 68 73 _ rfl _ rfl cs 33 rfl HCL.out HN i0 (.agg zkn.toArray) Tryz.underlying68 hi hz0 hz1 ?_) | (at_builtin; refine wpList_append_own _ rfl _ _ 68 rfl w.heap.size 73 i0 (.agg zkn.toArray) 33 33 Tryz.underlying68 hi hz0 hz1 hz2 rfl (by decide) _ _ _ rfl ((owns_upd (ho.out (by simp)) hu3 HP.out).alloc _) ⟨w3.heap.size, 0, none⟩ 1 1 cs rfl ?c1 ?c2 ?c3 ?c4 ?c5 ?c6 ?_))
          case c1 => exact HCL.out
          case c2 =>
            intro j u hj
            rw [Addr.add_lit, cell_of_heap (alloc_heap _ _)]
            simpa using hj
          case c3 => exact HC1.out
          case c4 => have := hk.out; have := HM.out; unfold maxLen; omega
          case c5 => have := hk.out; have := HM.out; omega
          case c6 => have := hu2.size; have := hu3.size; simp; omega
          intro v' w4 hown hgrow hnil
          have HO4 := Lib.hid hown
          have HG4 := Lib.hid hgrow
          clear hown hgrow hnil
          go_wp2
          go_roundw
          case measure => simp [intOf]
          case rel =>
            have hu4 : Upd [p] w w4 := upd_grown ((hu2.trans hu3).alloc _) HG4.out (fun j hj => by
              have := (World.ownsRow.lt (owns_upd (ho.out (by simp)) hu3 HP.out)) j hj
              exact this.1)
            have hin4 : IsIn w4 p g ((some xs).bind knGo |>.map (·.2)) := by
              have hsz : w.heap.size ≤ w3.heap.size := (hu2.trans hu3).size
              have hrow := fun j hj => (World.ownsRow.lt (owns_upd (ho.out (by simp)) hu3 HP.out)) j hj
              have hold : ∀ j, j < w.heap.size → w4.heap[j]? = w3.heap[j]? := fun j hj =>
                (HG4.out.block j (by simp; omega) (fun e => by have := hrow j e.symm; omega)).trans (Below.heap_alloc _ _ _ (by omega))
              exact hin3.congr (hold p hpw) (fun _ => hold g hgw)
            cases hi : knGo xs with
            | none =>
              exact ⟨k, done, none, rfl, Lib.hid (by have := hk.out; omega), Lib.hid (fun h => (h rfl).elim), by simpa [hi] using hin4, hu4, Lib.hid (Link.stop hlk.out hi _ _)⟩
            | some r =>
              obtain ⟨a, zs⟩ := r
              have hcs : cs = knCells a := HIT.out a zs (by simp [hi])
              refine ⟨k, done ++ [a], some zs, rfl, Lib.hid (by have := hk.out; simp; omega), Lib.hid (fun _ => ?_), by simpa [hi] using hin4, hu4, Lib.hid (Link.next hlk.out hi)⟩
              have := HO4.out
              rw [hcs] at this
              simpa using this
end Go.Proofs.YtdbceafejbnebaaGreatDoor
/-! An account as it is taken, and the list of these. -/
namespace Go.Proofs.YtdbceafejbnebaaGreatDoor
open Go Go.RowKit

/-- An account, its state, its known keys. -/
abbrev One := UInt8 × UInt8 × List Kn
def oneGo (xs : List UInt8) : Option (One × List UInt8) :=
  (u8Go xs).bind fun r => (u8Go r.2).bind fun s => (listGo 4 knGo (some s.2)).map fun t => ((r.1, s.1, t.1), t.2)
/-- The cells cs are an account's; its keys lie in a row of their own, from block base on. -/
def OneAt (base : Nat) (w : World) (x : One) (cs : List Value) : Prop :=
  ∃ v, cs = [byteV x.1, byteV x.2.1, v] ∧ IsSl v ∧ w.ownsRow base 73 33 v x.2.2.length (x.2.2.flatMap knCells)
theorem owns_base {w : World} {base base' size n : Nat} {e : TypeId} {v : Value} {xs : List Value} (h : w.ownsRow base e size v n xs) (hb : base' ≤ base) : w.ownsRow base' e size v n xs := by
  refine ⟨h.1, ?_⟩
  rcases h.2 with h2 | ⟨g, cap, cur, hv, hg, r⟩
  · exact .inl h2
  · exact .inr ⟨g, cap, cur, hv, by omega, r⟩
/-- What lies in blocks of rows of type t stays. -/
def SameRows (t : TypeId) (w w' : World) : Prop := ∀ (k : Nat) (cur : Array Value), w.heap[k]? = some (Obj.cells cur t (0, 0)) → w'.heap[k]? = w.heap[k]?
theorem OneAt.same {base : Nat} {w w' : World} {x : One} {cs : List Value} (h : OneAt base w x cs) (hs : SameRows 73 w w') : OneAt base w' x cs := by
  obtain ⟨v, h1, h2, h3, h4⟩ := h
  refine ⟨v, h1, h2, h3, ?_⟩
  rcases h4 with h4 | ⟨g, cap, cur, hv, hb, hg, r⟩
  · exact .inl h4
  · exact .inr ⟨g, cap, cur, hv, hb, (hs g cur hg).trans hg, r⟩
theorem SameRows.trans {t : TypeId} {a b c : World} (h : SameRows t a b) (k : SameRows t b c) : SameRows t a c := fun j cur hj => (k j cur ((h j cur hj).trans hj)).trans (h j cur hj)
theorem SameRows.of_upd {t : TypeId} {S : List Nat} {w w' : World} (h : Upd S w w') (hS : ∀ k ∈ S, ∀ cur, w.heap[k]? ≠ some (Obj.cells cur t (0, 0))) : SameRows t w w' :=
  fun k cur hk => h.block k (lt_of_heap hk) (fun hk' => hS k hk' cur hk)
theorem IsIn.not73 {w : World} {p g : Nat} {st : Option (List UInt8)} (h : IsIn w p g st) {t : TypeId} (ht : t ≠ 115) (cur : Array Value) : w.heap[p]? ≠ some (Obj.cells cur t (0, 0)) := by
  cases st with
  | none => obtain ⟨h0, a, n, c, h1⟩ := h; rw [h1]; intro e; simp at e; exact ht e.2.symm
  | some xs => obtain ⟨h0, v, h1, h2⟩ := h; rw [h1]; intro e; simp at e; exact ht e.2.symm
theorem Tryz.size70 : (Tryz.prog.info? 70).map (·.size) = some 3 := by kernel_rfl

set_option maxHeartbeats 400000 in
theorem takeOne_any (p g : Nat) (st : Option (List UInt8)) (w : World) (hi : IsIn w p g st) (hgw : g < w.heap.size) :
    Calls Tryz.prog 25 #[.pointer (some ⟨p, 0, none⟩)] w fun e w' => ∃ cs : List Value, e = .returned (.agg cs.toArray) ∧ cs.length = 3 ∧ (∀ u ∈ cs, u.oneCell' = true) ∧ Upd [p] w w' ∧
      IsIn w' p g ((st.bind oneGo).map (·.2)) ∧ ∀ k ys, st.bind oneGo = some (k, ys) → OneAt w.heap.size w' k cs := by
  have hlt := hi.lt
  go_enter Tryz.func25, Tryz.ntmps25
  go_wp2_with fail
  have hB := alloc_heap w (.cells #[.int .u8 0, .int .u8 0, .slice none 0 0] 70)
  have hU := (Upd.refl [p] w).alloc (.cells #[.int .u8 0, .int .u8 0, .slice none 0 0] 70)
  have hI := hi.upd ((Upd.refl [] w).alloc (.cells #[.int .u8 0, .int .u8 0, .slice none 0 0] 70)) (by simp) (by simp)
  generalize w.alloc (.cells #[.int .u8 0, .int .u8 0, .slice none 0 0] 70) = w1 at hB hU hI ⊢
  have HB := Lib.hid hB
  have ht := u8_any p g st w1 hI
  clear hB hi hI
  refine ht.mono ?_; clear ht
  rintro e w2 ⟨c, rfl, hu2, hin2, hc2⟩
  have ht := u8_any p g _ w2 hin2
  have HC2 := Lib.hid hc2
  clear hc2 hin2
  go_wp2_with fail
  refine ht.mono ?_; clear ht
  rintro e w3 ⟨d, rfl, hu3, hin3, hd3⟩
  have hsz3 := (hU.trans (hu2.trans hu3)).size
  have ht := takeKns_any p g 4 _ w3 hin3 (by omega) (by omega)
  have HD3 := Lib.hid hd3
  have HS3 := Lib.hid hsz3
  clear hd3 hin3 hsz3
  go_wp2_with fail
  refine ht.mono ?_; clear ht
  rintro e w4 ⟨v, rfl, ⟨a, n, cc, rfl⟩, hu4, hin4, hl4⟩
  have HL4 := Lib.hid hl4
  clear hl4
  have hrow : w4.heap[w.heap.size]? = some (.cells #[.int .u8 0, .int .u8 0, .slice none 0 0] 70 (0, 0)) := hu4.heap (hu3.heap (hu2.heap HB.out (by simp; omega)) (by simp; omega)) (by simp; omega)
  have HR := Lib.hid hrow
  clear hrow
  go_wp2_with (refine wpList_store_row rfl 70 _ _ rfl w.heap.size #[.int .u8 c.toNat, .int .u8 d.toNat, .slice a n cc] rfl rfl 70 _ HR.out (by rw [Tryz.size70]; rfl) rfl (by simp [Value.oneCell']) ?_)
  have hrow2 := setRow_heap w4 w.heap.size _ #[.int .u8 c.toNat, .int .u8 d.toNat, .slice a n cc] 70 (0, 0) HR.out
  refine bodyPost_ret (results_cell_row rfl _ _ _ 70 #[.int .u8 c.toNat, .int .u8 d.toNat, .slice a n cc] (0, 0) _ rfl hrow2 Tryz.underlying70 rfl (by rw [Tryz.size70]; rfl)) rfl ?_
  have hu : Upd [p] w (w4.setRow w.heap.size #[.int .u8 c.toNat, .int .u8 d.toNat, .slice a n cc]) := (hU.trans (hu2.trans (hu3.trans hu4))).setRow (.inl (Nat.le_refl _)) _
  refine ⟨[.int .u8 c.toNat, .int .u8 d.toNat, .slice a n cc], rfl, rfl, by simp [Value.oneCell'], hu, ?_, ?_⟩
  · have e : (listGo 4 knGo (((((st.bind u8Go).map (·.2)).bind u8Go).map (·.2)))).map (·.2) = (st.bind oneGo).map (·.2) := by
      cases st with
      | none => rfl
      | some xs =>
        simp only [Option.bind_some, oneGo]
        cases u8Go xs with
        | none => rfl
        | some r =>
          simp only [Option.map_some, Option.bind_some]
          cases u8Go r.2 with
          | none => rfl
          | some s =>
            simp only [Option.map_some, Option.bind_some]
            cases listGo 4 knGo (some s.2) <;> rfl
    rw [e] at hin4
    exact hin4.congr (setRow_other _ _ _ _ (by omega)) (fun _ => setRow_other _ _ _ _ (by omega))
  · intro k ys hk
    cases st with
    | none => cases hk
    | some xs =>
      simp only [Option.bind_some, oneGo, Option.bind_eq_some_iff] at hk
      obtain ⟨r, hr, s, hs, hk⟩ := hk
      obtain ⟨t, ht, hk⟩ := Option.map_eq_some_iff.1 hk
      cases hk
      have e2 : (((((some xs).bind u8Go).map (·.2)).bind u8Go).map (·.2)) = some s.2 := by simp [hr, hs]
      have hown := HL4.out t.1 t.2 (by rw [e2]; exact ht)
      refine ⟨.slice a n cc, ?_, ⟨a, n, cc, rfl⟩, ?_⟩
      · rw [HC2.out r.1 r.2 (by simpa using hr), HD3.out s.1 s.2 (by simp [hr, hs])]
        rfl
      · have hb := owns_base hown (base' := w.heap.size) HS3.out
        rcases hown with ⟨hx, h0 | ⟨gg, cap, cur, hv, hbb, hgg, r5⟩⟩
        · exact ⟨hx, .inl h0⟩
        · refine ⟨hx, .inr ⟨gg, cap, cur, hv, Nat.le_trans HS3.out hbb, ?_, r5⟩⟩
          rw [setRow_other _ _ _ _ (fun e => by rw [e, HR.out] at hgg; simp at hgg)]
          exact hgg

/-- The cells are those of these accounts, one behind the other. -/
def OnesAt (base : Nat) (w : World) : List One → List Value → Prop
  | [], cells => cells = []
  | x :: l, cells => ∃ cs rest, cells = cs ++ rest ∧ OneAt base w x cs ∧ OnesAt base w l rest
theorem OnesAt.snoc {base : Nat} {w : World} {x : One} {cs : List Value} : ∀ {l : List One} {cells : List Value}, OnesAt base w l cells → OneAt base w x cs → OnesAt base w (l ++ [x]) (cells ++ cs)
  | [], cells, h, hx => by
    have h0 : cells = [] := h
    subst h0
    exact ⟨cs, [], by simp, hx, rfl⟩
  | y :: l, cells, ⟨c, r, h1, h2, h3⟩, hx => ⟨c, r ++ cs, by rw [h1, List.append_assoc], h2, h3.snoc hx⟩
theorem OnesAt.same {base : Nat} {w w' : World} : ∀ {l : List One} {cells : List Value}, OnesAt base w l cells → SameRows 73 w w' → OnesAt base w' l cells
  | [], _, h, _ => h
  | _ :: _, _, ⟨c, r, h1, h2, h3⟩, hs => ⟨c, r, h1, h2.same hs, h3.same hs⟩
theorem Tryz.info70 : (Tryz.prog.info? 70).map (fun i => (i.zero, i.size, i.bytes)) = some (some (.agg #[.int .u8 0, .int .u8 0, .slice none 0 0]), 3, 32) := by kernel_rfl
theorem eql75 (w : World) : (binOp .eql 75 (.func (.func 25) #[] #[]) .nilFunc).run Tryz.prog w = .ok (.bool false) w := by kernel_rfl
set_option maxHeartbeats 1000000 in
theorem takeOnes_any (p g most : Nat) (st : Option (List UInt8)) (w : World) (hi : IsIn w p g st) (hgw : g < w.heap.size) (hm : most < 1000) :
    Calls Tryz.prog 24 #[.pointer (some ⟨p, 0, none⟩), .int .i64 most, .func (.func 25) #[] #[]] w fun e w' => ∃ v, e = .returned v ∧ IsSl v ∧ Upd [p] w w' ∧
      IsIn w' p g ((listGo most oneGo st).map (·.2)) ∧
      ∀ l ys, listGo most oneGo st = some (l, ys) → ∃ cells, w'.ownsRow w.heap.size 70 3 v l.length cells ∧ OnesAt w.heap.size w' l cells := by
  have ht := many_any p g most st w hi
  have hpw := hi.lt
  have HM := Lib.hid hm
  clear hi hm
  have q75 := eql75
  go_enter Tryz.func24, Tryz.ntmps24
  go_wp2_with (go_at_call 56; refine ht.mono ?_; clear ht; rintro e w' ⟨hu, ⟨rfl, hin, hres⟩ | ⟨xs, rfl, hle, hin, hres⟩⟩)
  · have c1 := wrong_cell hin
    simp at c1
    have HR := Lib.hid (hres oneGo)
    clear hres
    refine wp_loop_rounds 1 ?_
    rw [rounds_succ]
    go_wp2
    go_ret
    refine ⟨_, rfl, ⟨_, _, _, rfl⟩, hu, by rw [HR.out]; exact hin, fun l ys h => by rw [HR.out] at h; cases h⟩
  · have hp0 := hin.lt
    have HL : Hid (Link oneGo (listGo most oneGo st) [] (be (xs.take 2)) (some (xs.drop 2))) := by
      show listGo most oneGo st = _
      rw [hres oneGo]
      simp
    clear hres
    generalize be (xs.take 2) = m at hle HL ⊢
    generalize xs.drop 2 = ys at hin HL
    have HO : Hid (w'.ownsRow w.heap.size 70 3 (.slice none 0 0) 0 []) := World.ownsRow_nil _ _ _ _
    have HLe := Lib.hid hle
    clear hle
    obtain ⟨i0, hi, hz0, hz1, hz2⟩ := info_parts Tryz.info70
    have HN : Hid (0 < 3 ∧ 3 ≤ 1000) := by show _ ∧ _; omega
    go_loopw [7, 8] (fun v i wr => ∃ (k : Nat) (done : List One) (stc : Option (List UInt8)), i = .int .i64 k ∧ Hid (k + done.length ≤ most) ∧ Hid (stc ≠ none → ∃ cells, wr.ownsRow w.heap.size 70 3 v done.length cells ∧ OnesAt w.heap.size wr done cells) ∧ IsIn wr p g stc ∧ Upd [p] w wr ∧ Hid (Link oneGo (listGo most oneGo st) done k stc)) (fun _ i _ => (intOf i).toNat)
    case atStart => exact ⟨m, [], some ys, rfl, HLe, Lib.hid (fun _ => ⟨[], HO.out, rfl⟩), hin, hu, HL⟩
    case round =>
      obtain ⟨k, done, stc, rfl, hk, ho, hin2, hu2, hlk⟩ := hrel
      have c1 := wrong_cell hin2
      cases k with
      | zero =>
        cases stc with
        | none =>
          simp at c1
          go_wp2
          go_ret
          have hres : listGo most oneGo st = none := hlk.out
          exact ⟨_, rfl, ⟨_, _, _, rfl⟩, hu2, by rw [hres]; exact hin2, fun l ys h => by rw [hres] at h; cases h⟩
        | some xs =>
          simp at c1
          go_wp2
          go_ret
          have hres : listGo most oneGo st = some (done, xs) := by have := hlk.out; simpa [Link, manyGo] using this
          refine ⟨_, rfl, (by obtain ⟨cells, h1, _⟩ := ho.out (by simp); exact owns_isSl h1), hu2, by rw [hres]; exact hin2, fun l ys h => ?_⟩
          rw [hres] at h
          cases h
          exact ho.out (by simp)
      | succ k =>
        cases stc with
        | none =>
          simp at c1
          go_wp2
          go_ret
          have hres : listGo most oneGo st = none := hlk.out
          exact ⟨_, rfl, ⟨_, _, _, rfl⟩, hu2, by rw [hres]; exact hin2, fun l ys h => by rw [hres] at h; cases h⟩
        | some xs =>
          simp at c1
          obtain ⟨cells, hoc, hones⟩ := ho.out (by simp)
          have HOC := Lib.hid hoc
          have HON := Lib.hid hones
          clear hoc hones
          have ht := takeOne_any p g (some xs) _ hin2 (Nat.lt_of_lt_of_le hgw hu2.size)
          have hpos : (0 : Int) < ((k + 1 : Nat) : Int) := by omega
          have hkI : (k : Int) ≤ 1000 := by have := hk.out; have := HM.out; omega
          have HP : Hid (∀ j ∈ [p], j < w.heap.size) := fun j hj => by rw [List.mem_singleton.1 hj]; exact hpw
          go_wp2_with (first | (go_at_call 25; refine ht.mono ?_; clear ht; rintro e w3 ⟨cs, rfl, hcl, hc1, hu3, hin3, hit⟩; have HCL := Lib.hid hcl; have HC1 := Lib.hid hc1; have HIT := Lib.hid hit; clear hcl hc1 hit) | (refine wpList_slice1 rfl 66 70 _ rfl _ rfl cs 3 rfl HCL.out HN i0 (.agg #[.int .u8 0, .int .u8 0, .slice none 0 0]) Tryz.underlying66 hi hz0 hz1 ?_) | (at_builtin; refine wpList_append_own _ rfl _ _ 66 rfl w.heap.size 70 i0 (.agg #[.int .u8 0, .int .u8 0, .slice none 0 0]) 3 32 Tryz.underlying66 hi hz0 hz1 hz2 rfl (by decide) _ _ _ rfl ((owns_upd HOC.out hu3 HP.out).alloc _) ⟨w3.heap.size, 0, none⟩ 1 1 cs rfl ?c1 ?c2 ?c3 ?c4 ?c5 ?c6 ?_))
          case c1 => exact HCL.out
          case c2 =>
            intro j u hj
            rw [Addr.add_lit, cell_of_heap (alloc_heap _ _)]
            simpa using hj
          case c3 => exact HC1.out
          case c4 => have := hk.out; have := HM.out; unfold maxLen; omega
          case c5 => have := hk.out; have := HM.out; omega
          case c6 => have := hu2.size; have := hu3.size; simp; omega
          intro v' w4 hown hgrow hnil
          have HO4 := Lib.hid hown
          have HG4 := Lib.hid hgrow
          clear hown hgrow hnil
          go_wp2
          go_roundw
          case measure => simp [intOf]
          case rel =>
            have hu4 : Upd [p] w w4 := upd_grown ((hu2.trans hu3).alloc _) HG4.out (fun j hj => by
              have := (World.ownsRow.lt (owns_upd HOC.out hu3 HP.out)) j hj
              exact this.1)
            have hin4 : IsIn w4 p g ((some xs).bind oneGo |>.map (·.2)) := by
              have hsz : w.heap.size ≤ w3.heap.size := (hu2.trans hu3).size
              have hrow := fun j hj => (World.ownsRow.lt (owns_upd HOC.out hu3 HP.out)) j hj
              have hold : ∀ j, j < w.heap.size → w4.heap[j]? = w3.heap[j]? := fun j hj =>
                (HG4.out.block j (by simp; omega) (fun e => by have := hrow j e.symm; omega)).trans (Below.heap_alloc _ _ _ (by omega))
              exact hin3.congr (hold p hpw) (fun _ => hold g hgw)
            cases hi : oneGo xs with
            | none =>
              exact ⟨k, done, none, rfl, Lib.hid (by have := hk.out; omega), Lib.hid (fun h => (h rfl).elim), by simpa [hi] using hin4, hu4, Lib.hid (Link.stop hlk.out hi _ _)⟩
            | some r =>
              obtain ⟨a, zs⟩ := r
              have hone := HIT.out a zs (by simp [hi])
              have hs1 : SameRows 73 wr w3 := SameRows.of_upd hu3 (fun j hj cur => by rw [List.mem_singleton.1 hj]; exact hin2.not73 (by simp) cur)
              have hs2 : SameRows 73 w3 w4 := by
                intro j cur hj
                have hjl := lt_of_heap hj
                refine (HG4.out.block j (by simp; omega) (fun e => ?_)).trans (Below.heap_alloc _ _ _ hjl)
                have ho3 := owns_upd HOC.out hu3 HP.out
                rcases ho3.2 with ⟨hv, _⟩ | ⟨gg, cap, cur2, hv, hb, hg, r⟩
                · rw [hv] at e; simp [Value.ownBlock] at e
                · rw [hv] at e
                  simp [Value.ownBlock] at e
                  rw [e, hg] at hj
                  simp at hj
              have hone' : OneAt w.heap.size w4 a cs := by
                obtain ⟨v2, h1, h2, h3⟩ := hone.same hs2
                exact ⟨v2, h1, h2, owns_base h3 hu2.size⟩
              refine ⟨k, done ++ [a], some zs, rfl, Lib.hid (by have := hk.out; simp; omega), Lib.hid (fun _ => ⟨cells ++ cs, ?_, (HON.out.same (hs1.trans hs2)).snoc hone'⟩), by simpa [hi] using hin4, hu4, Lib.hid (Link.next hlk.out hi)⟩
              simpa using HO4.out
end Go.Proofs.YtdbceafejbnebaaGreatDoor
/-! How two keys are held against each other. -/
namespace Go.Proofs.YtdbceafejbnebaaGreatDoor
open Go Go.RowKit

theorem run_loadBytes {P : Program} (w : World) (g : Nat) : ∀ (xs : List UInt8) (off : Nat) (acc : ByteArray), (∀ i (h : i < xs.length), w.cell? ⟨g, off + i, none⟩ = some (.int .u8 (xs[i].toNat : Int))) →
    (Extern.Bytes.loadBytes ⟨g, off, none⟩ xs.length acc).run P w = .ok (xs.foldl (fun a c => a.push c) acc) w
  | [], _, _, _ => rfl
  | x :: xs, off, acc, h => by
    have h0 := h 0 (by simp)
    simp only [Nat.add_zero, List.getElem_cons_zero] at h0
    have hr := run_loadBytes (P := P) w g xs (off + 1) (acc.push x) (fun i hi => by
      have := h (i + 1) (by simpa using hi)
      simp only [List.getElem_cons_succ] at this
      rw [show off + 1 + i = off + (i + 1) by omega]
      exact this)
    simp only [List.length_cons, Extern.Bytes.loadBytes, Sem.run_bind]
    have hl : (load ⟨g, off, none⟩).run P w = .ok (.int .u8 (x.toNat : Int)) w := by simp [load, Sem.run, h0]
    rw [hl]
    simp only [Result.andThen, Addr.add, Nat.succ_ne_zero, if_false]
    rw [show ((x.toNat : Int)).toNat.toUInt8 = x by simp]
    exact hr
theorem foldl_push (xs : List UInt8) : ∀ (acc : ByteArray), (xs.foldl (fun a c => a.push c) acc).data.toList = acc.data.toList ++ xs := by
  induction xs with
  | nil => intro acc; simp
  | cons x xs ih => intro acc; rw [List.foldl_cons, ih]; simp [ByteArray.push]
theorem run_bytesOf {P : Program} (w : World) (g off cap : Nat) (xs : List UInt8) (h : ∀ i (h : i < xs.length), w.cell? ⟨g, off + i, none⟩ = some (.int .u8 (xs[i].toNat : Int))) :
    ∃ b : ByteArray, (Extern.Bytes.bytesOf (.slice (some ⟨g, off, none⟩) xs.length cap)).run P w = .ok b w ∧ b.data.toList = xs :=
  ⟨_, run_loadBytes w g xs off .empty h, by rw [foldl_push]; rfl⟩
theorem run_compare {P : Program} (w : World) (g off cap g' off' cap' : Nat) (xs ys : List UInt8) (h : ∀ i (h : i < xs.length), w.cell? ⟨g, off + i, none⟩ = some (.int .u8 (xs[i].toNat : Int)))
    (h' : ∀ i (h : i < ys.length), w.cell? ⟨g', off' + i, none⟩ = some (.int .u8 (ys[i].toNat : Int))) :
    (Extern.BytealgCompare.compare #[.slice (some ⟨g, off, none⟩) xs.length cap, .slice (some ⟨g', off', none⟩) ys.length cap']).run P w = .ok (.int .i64 (Lib.compareBytes xs ys)) w := by
  obtain ⟨a, ha, ha'⟩ := run_bytesOf (P := P) w g off cap xs h
  obtain ⟨b, hb, hb'⟩ := run_bytesOf (P := P) w g' off' cap' ys h'
  change Sem.run P (do pure (goInt (Extern.BytealgCompare.cmp (← Extern.Bytes.bytesOf (.slice (some ⟨g, off, none⟩) xs.length cap)) (← Extern.Bytes.bytesOf (.slice (some ⟨g', off', none⟩) ys.length cap'))))) w = _
  simp only [Sem.run_bind, Sem.run_pure, Result.andThen, ha, hb]
  rw [Lib.cmp_eq, ha', hb']
  rfl

set_option maxHeartbeats 400000 in
set_option maxRecDepth 100000 in
theorem compare82 (w : World) (g off cap g' off' cap' : Nat) (xs ys : List UInt8) (h : ∀ i (h : i < xs.length), w.cell? ⟨g, off + i, none⟩ = some (.int .u8 (xs[i].toNat : Int)))
    (h' : ∀ i (h : i < ys.length), w.cell? ⟨g', off' + i, none⟩ = some (.int .u8 (ys[i].toNat : Int))) :
    Calls Tryz.prog 82 #[.slice (some ⟨g, off, none⟩) xs.length cap, .slice (some ⟨g', off', none⟩) ys.length cap'] w fun e w' => e = .returned (.int .i64 (Lib.compareBytes xs ys)) ∧ w = w' := by
  have hr := run_compare (P := Tryz.prog) w g off cap g' off' cap' xs ys h h'
  have HR := Lib.hid hr
  clear h h' hr
  go_enter Tryz.func82, Tryz.ntmps82
  go_wp2
  rw [run_callFunc_extern Tryz.func100 (by kernel_rfl) (by kernel_rfl) (by kernel_rfl) (e := Extern.BytealgCompare.compare) (by kernel_rfl), HR.out]
  simp only [Result.andThen]
  rw [Oper.upon_value]
  go_wp2
  go_ret
  exact ⟨rfl, rfl⟩

open Go.Sort in
set_option maxHeartbeats 400000 in
theorem order68 (x y : K) (w : World) :
    Calls Tryz.prog 68 #[.agg (keyCells x).toArray, .agg (keyCells y).toArray] w fun e w' => e = .returned (.int .i64 (Lib.compareBytes x.1 y.1)) ∧ ∃ q os, w' = Go.Sort.grow (w.drewN q) os := by
  have hx := x.2
  have hy := y.2
  have ht : ∀ W : World, W.heap[w.heap.size]? = some (.cells (keyCells x).toArray 31 (0, 0)) → W.heap[w.heap.size + 1]? = some (.cells (keyCells y).toArray 31 (0, 0)) →
      Calls Tryz.prog 82 #[.slice (some ⟨w.heap.size, 0, none⟩) 32 32, .slice (some ⟨w.heap.size + 1, 0, none⟩) 32 32] W fun e w' => e = .returned (.int .i64 (Lib.compareBytes x.1 y.1)) ∧ W = w' := by
    intro W h1 h2
    have := compare82 W w.heap.size 0 32 (w.heap.size + 1) 0 32 x.1 y.1 (fun i hi => by rw [cell_of_heap h1]; simp [keyCells, byteV, hi]) (fun i hi => by rw [cell_of_heap h2]; simp [keyCells, byteV, hi])
    rw [hx, hy] at this
    exact this
  go_enter Tryz.func68, Tryz.ntmps68
  go_wp2
  have ht2 := ht ((w.alloc (.cells (keyCells x).toArray 31)).alloc (.cells (keyCells y).toArray 31)).drew (heap_alloc2_old w _ _) (heap_alloc2_new w _ _)
  clear ht hx hy
  go_region_with (go_at_call 82; refine ht2.mono ?_; clear ht2; rintro e w' ⟨rfl, rfl⟩)
  go_wp2
  go_ret
  exact ⟨rfl, 1, _, by rw [Go.Sort.alloc_eq_grow, Go.Sort.alloc_eq_grow, Go.Sort.grow_grow]; rfl⟩
end Go.Proofs.YtdbceafejbnebaaGreatDoor
