/- sha: the rows of constants, the wide machine, Sum512. strings.Builder's WriteByte, as the library tells it, at this program. -/
import Derived.Test.YtdbceafejbnebaaGreatDoorM14
import Derived.Test.YtdbceafejbnebaaGreatDoorShelf
/-! sha: the rows of constants, the wide machine, Sum512. -/
namespace Go.Proofs.YtdbceafejbnebaaGreatDoor
open Go Go.RowKit
/-- The numbers of a literal in code. -/
def opersOf : Code → List Oper
  | .region _ ops _ => ops.toList
  | .seq a b => opersOf a ++ opersOf b
  | _ => []
def numsOf (f : Func) : List Int :=
  match f.body with
  | some c => ((opersOf c).findSome? fun o => match o.op with
      | .buildSlice _ _ ps => some (ps.toList.map fun x => match x.2 with
          | .const (.int _ n) => n
          | _ => 0)
      | _ => none).getD []
  | none => []
noncomputable def firstZ : List Int := numsOf Tryz.f101
noncomputable def constZ : List Int := numsOf Tryz.f102
theorem firstZ_len : firstZ.length = 8 := by kernel_rfl
theorem constZ_len : constZ.length = 80 := by kernel_rfl
theorem Tryz.zero88 : ((Tryz.prog.info? 88).bind (·.zero)).isSome = true := by kernel_rfl
theorem first101 (w : World) : Calls Tryz.prog 101 #[] w fun e w' => e = .returned (.slice (some ⟨w.heap.size, 0, none⟩) 8 8) ∧ w' = w.alloc (.cells (firstZ.map uV).toArray 88) := by
  have hp : ∀ parts : Array (Nat × Operand), parts = parts := fun _ => rfl
  go_enter Tryz.func101, Tryz.ntmps101
  go_wp2_with (refine wpList_buildFlat rfl 167 88 8 _ rfl .u64 firstZ Tryz.underlying167 Tryz.size88 Tryz.zero88 (by kernel_rfl) (by decide) (by decide) (by kernel_rfl) ?_)
  go_ret
  exact ⟨rfl, rfl⟩
theorem const102 (w : World) : Calls Tryz.prog 102 #[] w fun e w' => e = .returned (.slice (some ⟨w.heap.size, 0, none⟩) 80 80) ∧ w' = w.alloc (.cells (constZ.map uV).toArray 88) := by
  go_enter Tryz.func102, Tryz.ntmps102
  go_wp2_with (refine wpList_buildFlat rfl 167 88 80 _ rfl .u64 constZ Tryz.underlying167 Tryz.size88 Tryz.zero88 (by kernel_rfl) (by decide) (by decide) (by kernel_rfl) ?_)
  go_ret
  exact ⟨rfl, rfl⟩
theorem shows_upd {w w' : World} {ps : List Pc} (h : ∀ x ∈ ps, Shows w ⟨x.1, x.2.1, none⟩ x.2.2.2 ∧ 0 < x.2.2.2.length ∧ x.1 < w.heap.size) (hu : Upd [] w w') : ∀ x ∈ ps, Shows w' ⟨x.1, x.2.1, none⟩ x.2.2.2 ∧ 0 < x.2.2.2.length ∧ x.1 < w'.heap.size := by
  intro x hx
  obtain ⟨h1, h2, h3⟩ := h x hx
  refine ⟨?_, h2, Nat.lt_of_lt_of_le h3 hu.size⟩
  intro j u hj
  have q := h1 j u hj
  rw [Addr.add_lit] at q ⊢
  rw [cell_same (hu.block x.1 h3 (by simp))]
  exact q
theorem wide83 (w : World) : Calls Tryz.prog 83 #[] w fun e w' => ∃ p gh gk, e = .returned (.pointer (some ⟨p, 0, none⟩)) ∧ MachAt w' p (.slice (some ⟨gh, 0, none⟩) 8 8) (.slice (some ⟨gk, 0, none⟩) 80 80) ∧ RowU w' gh firstZ ∧ RowU w' gk constZ ∧ Upd [] w w' ∧ w.heap.size ≤ gh := by
  go_enter Tryz.func83, Tryz.ntmps83
  go_wp2_with (first
    | (go_at_call 101; refine (first101 _).mono ?_; rintro e w1 ⟨rfl, hw1⟩)
    | (go_at_call 102; refine (const102 _).mono ?_; rintro e w2 ⟨rfl, hw2⟩))
  go_ret
  have h1 : (w.alloc (.cells (firstZ.map uV).toArray 88)).heap[w.heap.size]? = some (.cells (firstZ.map uV).toArray 88 (0, 0)) := heap_alloc_new w _
  have s1 : (w.alloc (.cells (firstZ.map uV).toArray 88)).heap.size = w.heap.size + 1 := by simp
  have h2 := heap_alloc_new (w.alloc (.cells (firstZ.map uV).toArray 88)) (.cells (constZ.map uV).toArray 88)
  rw [s1] at h2
  have s2 : ((w.alloc (.cells (firstZ.map uV).toArray 88)).alloc (.cells (constZ.map uV).toArray 88)).heap.size = w.heap.size + 1 + 1 := by simp
  refine ⟨w.heap.size + 1 + 1, w.heap.size, w.heap.size + 1, rfl, ?_, ?_, ?_, ((Upd.new w _).alloc _).alloc _, Nat.le_refl _⟩
  · unfold MachAt
    rw [← s2]
    exact heap_alloc_new _ _
  · exact (Upd.new _ _).heap ((Upd.new _ _).heap h1 (by simp)) (by simp)
  · exact (Upd.new _ _).heap h2 (by simp)
theorem Tryz.size128 : (Tryz.prog.info? 128).map (·.size) = some 64 := by kernel_rfl
def z64 : List UInt8 := List.replicate 64 0
noncomputable def hashF (xs : List UInt8) : List UInt8 := sumF firstZ constZ xs
theorem hashF_len (xs : List UInt8) : (hashF xs).length = 64 := by
  unfold hashF sumF blockF
  rw [outF_len, addX_len, firstZ_len]
def bytesV (l : List UInt8) : Value := .agg (l.map byteV).toArray
theorem size128 {l : List UInt8} (h : l.length = 64) : (Tryz.prog.info? 128).map (·.size) = some (l.map byteV).length := by rw [Tryz.size128]; simp [h]
theorem size128' {l : List UInt8} (h : l.length = 64) : (Tryz.prog.info? 128).map (·.size) = some (l.map byteV).toArray.size := by rw [Tryz.size128]; simp [h]
theorem hash_after {w w1 w2 w3 : World} {g3 c3 gh : Nat} {h : List UInt8} {P : Prop} (h0 : w1.heap[w.heap.size]? = some (.cells (z64.map byteV).toArray 128 (0, 0)) ∧ Upd [] w w1)
    (h2 : P ∧ Upd [] w1 w2 ∧ w1.heap.size ≤ gh) (q1 : w3.ownsRow w2.heap.size 5 1 (.slice (some ⟨g3, 0, none⟩) 64 c3) 64 (h.map byteV)) (q2 : Upd [gh] w2 w3) :
    w3.rangeAt g3 0 (h.map byteV) ∧ w3.heap[w.heap.size]? = some (.cells (z64.map byteV).toArray 128 (0, 0)) ∧ Upd [] w w3 := by
  have hlt := lt_of_heap h0.1
  refine ⟨fun j v hj => by rw [Nat.zero_add]; exact owns_cells q1 j v hj, q2.heap (h2.2.1.heap h0.1 (by simp)) (by simp; omega), (h0.2.trans h2.2.1).trans' q2 ?_⟩
  intro x hx
  rw [List.mem_singleton] at hx
  rw [hx]
  exact .inr (Nat.le_trans h0.2.size h2.2.2)
set_option maxHeartbeats 1000000 in
set_option maxRecDepth 100000 in
theorem sum70 {w : World} (gl cap : Nat) (ps : List Pc) (hl : w.heap[gl]? = some (.cells (ps.map pcV).toArray 22 (0, 0)))
    (hps : ∀ x ∈ ps, Shows w ⟨x.1, x.2.1, none⟩ x.2.2.2 ∧ 0 < x.2.2.2.length ∧ x.1 < w.heap.size) (hsum : (pcT ps).length ≤ 111) (hn : ps.length ≤ 10) (hne : 0 < (pcT ps).length) :
    Calls Tryz.prog 70 #[.slice (some ⟨gl, 0, none⟩) ps.length cap] w fun e w' => e = .returned (bytesV (hashF (pcT ps))) ∧ Upd [] w w' := by
  have HH := Lib.hid (show _ ∧ _ ∧ _ from ⟨hl, hps, hsum⟩)
  clear hl hps hsum
  go_enter Tryz.func70, Tryz.ntmps70
  go_upto_region 1 with fail

  have h0 := heap_alloc_new w (.cells (z64.map byteV).toArray 128)
  have hu := Upd.new w (.cells (z64.map byteV).toArray 128)
  change Code.wp _ _ _ _ (w.alloc (.cells (z64.map byteV).toArray 128))
  generalize w.alloc (.cells (z64.map byteV).toArray 128) = w1 at h0 hu ⊢
  have H0 := Lib.hid (show _ ∧ _ from ⟨h0, hu⟩)
  clear h0 hu
  go_wp2_with (first
    | (go_at_call 83; refine (wide83 _).mono ?_; rintro e w2 ⟨p, gh, gk, rfl, q1, q2, q3, q4, q5⟩; have H2 := Lib.hid (show _ ∧ _ ∧ _ ∧ _ ∧ _ from ⟨q1, q2, q3, q4, q5⟩); clear q1 q2 q3 q4 q5)
    | (go_at_call 84; refine (sum84 H2.out.1 H2.out.2.1 H2.out.2.2.1 firstZ_len constZ_len gl cap ps ((H0.out.2.trans H2.out.2.2.2.1).heap HH.out.1 (by simp)) (shows_upd HH.out.2.1 (H0.out.2.trans H2.out.2.2.2.1)) HH.out.2.2 hn hne).mono ?_; rintro e w3 ⟨v, rfl, q1, q2⟩; obtain ⟨g3, c3, rfl, hb3, hc3⟩ := owns_some q1 (by decide); have H3 := Lib.hid (hash_after H0.out H2.out.2.2 q1 q2); clear q1 q2; have hal : ∀ W, (Instr.arrayAt 128 (.slice (some ⟨g3, 0, none⟩) 64 c3)).run Tryz.prog W = .ok (.pointer (some ⟨g3, 0, none⟩)) W := fun W => run_arrayAt W 128 5 64 _ _ _ Tryz.underlying128 (Nat.le_refl _))
    | (refine wpList_load_mid rfl 128 _ rfl g3 0 rfl ((hashF (pcT ps)).map byteV) _ H3.out.1 Tryz.underlying128 rfl (size128 (hashF_len _)) ?_)
    | (refine wpList_store_row rfl 128 _ _ rfl w.heap.size ((hashF (pcT ps)).map byteV).toArray rfl rfl 128 (z64.map byteV).toArray H3.out.2.1 (size128' (hashF_len _)) (by simp [hashF_len, z64]) (oneCells _) ?_))
  have hr := setRow_heap w3 w.heap.size (z64.map byteV).toArray ((hashF (pcT ps)).map byteV).toArray 128 (0, 0) H3.out.2.1
  refine bodyPost_ret (results_cell_row rfl _ _ _ 128 ((hashF (pcT ps)).map byteV).toArray (0, 0) _ rfl hr Tryz.underlying128 rfl (size128' (hashF_len _))) rfl ?_
  exact ⟨rfl, H3.out.2.2.setRow (.inl (Nat.le_refl _)) _⟩
end Go.Proofs.YtdbceafejbnebaaGreatDoor
/-! strings.Builder's WriteByte, as the library tells it, at this program. -/
namespace Go.Proofs
open Go.Shelf
def Tryz.lays167_ren : Go.Shelf.Ren := ⟨fun | 167 => 71 | 240 => 85 | 276 => 104 | n => n, fun | 0 => 0 | 4 => 4 | 5 => 5 | 9 => 9 | 20 => 20 | 37 => 22 | 70 => 130 | 72 => 132 | 75 => 135 | 80 => 137 | 164 => 175 | n => n, fun | n => n⟩
theorem Tryz.lays167 : Go.Proofs.Lays.n167 Tryz.prog Tryz.lays167_ren := {
  mixed := by kernel_rfl
  f167 := Tryz.func71.trans (congrArg some (by kernel_rfl))
  f240 := Tryz.func85.trans (congrArg some (by kernel_rfl))
  f276 := Tryz.func104.trans (congrArg some (by kernel_rfl))
  t0 := Tryz.underlying0
  a0 := Tryz.isAgg0
  z0 := Tryz.sizeOf0
  v0 := Tryz.zeroValue0
  t4 := Tryz.underlying4
  a4 := Tryz.isAgg4
  z4 := Tryz.sizeOf4
  v4 := Tryz.zeroValue4
  t5 := Tryz.underlying5
  a5 := Tryz.isAgg5
  z5 := Tryz.sizeOf5
  v5 := Tryz.zeroValue5
  t9 := Tryz.underlying9
  a9 := Tryz.isAgg9
  z9 := Tryz.sizeOf9
  v9 := Tryz.zeroValue9
  t20 := Tryz.underlying20
  a20 := Tryz.isAgg20
  z20 := Tryz.sizeOf20
  v20 := Tryz.zeroValue20
  t37 := Tryz.underlying22
  a37 := Tryz.isAgg22
  z37 := Tryz.sizeOf22
  v37 := Tryz.zeroValue22
  t70 := Tryz.underlying130
  a70 := Tryz.isAgg130
  z70 := Tryz.sizeOf130
  v70 := Tryz.zeroValue130
  t72 := Tryz.underlying132
  a72 := Tryz.isAgg132
  z72 := Tryz.sizeOf132
  v72 := Tryz.zeroValue132
  t75 := Tryz.underlying135
  a75 := Tryz.isAgg135
  z75 := Tryz.sizeOf135
  v75 := Tryz.zeroValue135
  t164 := Tryz.underlying175
  a164 := Tryz.isAgg175
  z164 := Tryz.sizeOf175
  v164 := Tryz.zeroValue175 }
theorem Tryz.Builder_Extra_167 : Builder.Extra Tryz.prog Tryz.lays167_ren := {
  sizeBuilder := by kernel_rfl
  liesBuilder := by kernel_rfl
  t5 := Tryz.underlying5
  a5 := Tryz.isAgg5
  z5 := Tryz.sizeOf5
  v5 := Tryz.zeroValue5
  infoByte := by kernel_rfl
  cellsByte := by kernel_rfl
  sizeByte := by kernel_rfl
  neB5 := by decide }
open Go.RowKit in
theorem Tryz.Builder_WriteByte (B b : Nat) (bs : List Value) (c : Int) (w : World) (h : Lib.IsBuilder 132 5 B b bs w) (hlen : bs.length + 1 ≤ 140737488355328) (hBw : B ≤ w.heap.size) :
    Calls Tryz.prog 71 #[.pointer (some ⟨b, 0, none⟩), .int .u8 c] w fun e w' => e = .returned .nilIface ∧ (Lib.BuilderAt 132 5 B b (.pointer (some ⟨b, 0, none⟩)) (bs ++ [.int .u8 c]) w' ∧ Below B w w') :=
  Any.Builder_WriteByte Tryz.lays167 Tryz.Builder_Extra_167 B b bs c w h hlen hBw
end Go.Proofs
