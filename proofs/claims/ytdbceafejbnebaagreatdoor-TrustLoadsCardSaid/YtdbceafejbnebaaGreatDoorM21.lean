/- known is true. -/
import Derived.Test.YtdbceafejbnebaaGreatDoorM20
import Derived.Test.YtdbceafejbnebaaGreatDoorM10
namespace Go.Proofs.YtdbceafejbnebaaGreatDoor
open Go Go.RowKit Go.Shelf
attribute [local go_sem] Oper.semAt_some
theorem xBegin {w W : World} (hu : Upd [] w W) (g : Nat) (k : K) (hg : W.heap[g]? = some (.cells (keyCells k).toArray 31 (0, 0))) : Calls Tryz.prog 9 #[.int .u8 0, .slice (some ⟨g, 0, none⟩) 1 1] W fun e w' => ∃ b, e = .returned (.tuple #[bookV b, .int .i64 0]) ∧ BK w w' b k noneM := by
  have hr : RowK W g 1 [k] := ⟨[], by rw [hg]; simp, by simp, by decide⟩
  refine (new_new 0 g 1 [k] w W hu hr (by decide) (by simp) (by simp)).mono ?_
  rintro e w' ⟨b, rfl, h1, h2⟩
  rw [setF_one] at h1
  exact ⟨b, rfl, Lib.hid ⟨h1, h2⟩⟩
theorem xEight (g : Nat) (W : World) : Calls Tryz.prog 9 #[.int .u8 8, .slice (some ⟨g, 0, none⟩) 1 1] W fun e w' => e = .returned (.tuple #[.pointer none, .int .i64 2]) ∧ w' = W := new_not 8 _ 1 1 W (by decide)
theorem yState {w wi : World} {b : Nat} {ko k : K} {s : UInt8} (h : BX w wi b ko k s) (n : Int) (hn : (s.toNat : Int) = n) : Calls Tryz.prog 14 #[.pointer (some ⟨b, 0, none⟩), .int .u8 1] wi fun e w' => e = .returned (.int .u8 n) ∧ w' = wi := xState h n hn
theorem yAccept {w wi : World} {b : Nat} {ko k : K} (h : BX w wi b ko k 3) : Calls Tryz.prog 17 #[.pointer (some ⟨b, 0, none⟩), .int .u8 1] wi fun e w' => e = .returned (.int .i64 0) ∧ BX w w' b ko k 1 := xAccept h
theorem nLearn (k : K) (w : World) : Calls Tryz.prog 11 #[.pointer none, devV 1 0, .agg (keyCells k).toArray] w fun e w' => e = .returned (.tuple #[.bool false, .int .i64 1]) ∧ Upd [] w w' := learn_nil 1 0 k w
theorem nNumber (w : World) : Calls Tryz.prog 13 #[.pointer none, .int .u8 1] w fun e w' => e = .returned (.tuple #[.string ⟨#[]⟩, .int .i64 1]) ∧ w' = w := number_nil 1 w
theorem nKeys (w : World) : Calls Tryz.prog 18 #[.pointer none, .int .u8 1] w fun e w' => e = .returned (.func (.func 53) #[] #[.pointer (some ⟨w.heap.size, 0, none⟩), .pointer (some ⟨w.heap.size + 1, 0, none⟩)]) ∧ w' = (w.alloc (.cells #[.pointer none] 24)).alloc (.cells #[byteV 1] 5) := keys18 none 1 w
theorem nForget (w : World) : Calls Tryz.prog 19 #[.pointer none, devV 1 0] w fun e w' => e = .returned (.int .i64 1) ∧ Upd [] w w' := forget_nil 1 0 w
theorem nVerify (w : World) : Calls Tryz.prog 15 #[.pointer none, .int .u8 1, .string ⟨#[]⟩] w fun e w' => e = .returned (.int .i64 1) ∧ w' = w := verify_nil 1 ⟨#[]⟩ w
theorem nAccept (w : World) : Calls Tryz.prog 17 #[.pointer none, .int .u8 1] w fun e w' => e = .returned (.int .i64 1) ∧ w' = w := accept_nil 1 w
theorem nState (w : World) : Calls Tryz.prog 14 #[.pointer none, .int .u8 1] w fun e w' => e = .returned (.int .u8 0) ∧ Upd [] w w' := state_nil 1 w
theorem keys_stops_nil0 (n : Nat) (B1 B2 : Nat) (a : UInt8) (w : World) (h1 : w.heap[B1]? = some (.cells #[.pointer none] 24 (0, 0))) :
    SeqStopsK Fence.wide n Tryz.prog 53 #[.pointer (some ⟨B1, 0, none⟩), .pointer (some ⟨B2, 0, none⟩)] (encKn a) KeepT (fun xs => xs = []) (fun pre => pre <+: []) 0 w := by
  intro l J Jx W hb hJ hJx hY h0
  have hu := upd_below hb
  refine callsIn_wide.2 ((keys_nil_in l B1 B2 J W hJ (hu.heap h1 (by simp)) h0).mono ?_)
  rintro e W' ⟨h2, h3⟩
  exact ⟨h2, .inl ⟨[], rfl, h3⟩⟩
theorem results_cell_one {P : Program} {fn : Func} {p : Tmp} {ty : TypeId} (h : fn.results = #[.cell p ty]) (tmps : Array Value) (w : World) (g : Nat) (v : Value) (hp : tmps.getD p undef = .pointer (some ⟨g, 0, none⟩)) (hc : w.cell? ⟨g, 0, none⟩ = some v) (ha : (isAgg ty).run P w = .ok false w) :
    (results fn tmps).run P w = .ok v w := by
  have hp' : tmps[p]?.getD undef = .pointer (some ⟨g, 0, none⟩) := by simpa using hp
  simp [results, h, hp', asAddr, loadVar, ha, hc]
theorem keyOf_ne : keyOf 2 ≠ keyOf 3 := by
  intro h
  have := congrArg (fun k : K => k.1.head?) h
  simp [keyOf] at this
set_option maxHeartbeats 4000000 in
set_option maxRecDepth 100000 in
theorem known4 {w : World} (mx : Int) (hm : w.cell? ⟨0, 0, none⟩ = some (.int .i64 mx)) (h0 : 0 < w.heap.size) : Calls Tryz.prog 4 #[] w fun e w' => e = .returned (.bool true) ∧ Upd [] w w' := by
  have HM := Lib.hid (show _ ∧ _ from ⟨hm, h0⟩)
  clear hm h0
  obtain ⟨i0, hi, hz0, hz1, hz2⟩ := info_parts Tryz.info31
  have q1 := kKey1
  have q2 := kKey2
  have q3 := kKey3
  have hne := keyOf_ne
  generalize keyOf 1 = k1 at q1 hne
  generalize keyOf 2 = k2 at q2 hne
  generalize keyOf 3 = k3 at q3 hne
  have HQ := Lib.hid (show _ ∧ _ ∧ _ ∧ _ from ⟨q1, q2, q3, hne⟩)
  clear q1 q2 q3 hne
  refine (callsIn_wide (n := 5)).1 (callsIn_of_wp_marks Tryz.func4 rfl trivial ?_ rfl)
  simp only [Tryz.ntmps4, List.size_toArray, List.length_nil, Nat.reduceSub, Array.replicate_succ, Array.replicate_zero, List.push_toArray, List.append_toArray, List.nil_append, List.cons_append]
  refine wpIn_wide.2 ?_
  go_upto_region 1 with fail
  obtain ⟨W0, hW0⟩ : ∃ X, w.alloc (Obj.cells #[Value.bool false] 4) = X := ⟨_, rfl⟩
  have hu0 : Upd [] w W0 := by rw [← hW0]; exact Upd.new w _
  have hc0 : W0.heap[w.heap.size]? = some (.cells #[.bool false] 4 (0, 0)) := by rw [← hW0]; exact heap_alloc_new w _
  obtain ⟨L, hL⟩ : ∃ L, L = w.heap.size := ⟨_, rfl⟩
  rw [hW0, ← hL]
  rw [← hL] at hc0
  have H0 := Lib.hid (show _ ∧ _ ∧ _ from ⟨hu0, hc0, hL⟩)
  have HM0 := Lib.hid (show W0.cell? ⟨0, 0, none⟩ = some (.int .i64 mx) ∧ 0 < W0.heap.size from ⟨(cell_same (hu0.block 0 HM.out.2 (by simp))).trans HM.out.1, Nat.lt_of_lt_of_le HM.out.2 hu0.size⟩)
  clear hW0 hu0 hc0 hL
  go_upto_region 2 with (first
    | (go_at_call 10; refine (HQ.out.1 _).mono ?_; rintro e v1 ⟨rfl, hv1⟩; have HV1 := Lib.hid hv1; clear hv1)
    | (refine wpList_slice1 rfl 28 31 _ rfl _ rfl (keyCells k1) 32 rfl (keyCells_len k1) (Lib.hid ⟨by omega, by omega⟩) i0 (.agg zc.toArray) Tryz.underlying28 hi hz0 hz1 ?_)
    | (go_at_call 9; refine (xBegin (HV1.out.trans (Upd.new v1 _)) _ k1 (heap_alloc_new v1 _)).mono ?_; rintro e v2 ⟨b, rfl, HB0⟩))
  unfold bookV
  go_upto_region 5 with (first
    | (go_at_call 12; refine (kDev _).mono ?_; rintro e v3 ⟨rfl, hv3⟩; have HV3 := Lib.hid hv3; clear hv3)
    | (go_at_call 10; refine (HQ.out.2.1 _).mono ?_; rintro e v4 ⟨rfl, hv4⟩; have HV4 := Lib.hid hv4; clear hv4)
    | (go_at_call 11; refine (xNew ((HB0.upd HV3.out).upd HV4.out) k2).mono ?_; rintro e v5 ⟨rfl, HB1⟩))
  go_upto_region 6 with (go_at_call 13; refine (xNumber HB1).mono ?_; rintro e v6 ⟨rfl, HB2⟩)
  obtain ⟨ns, hns⟩ : ∃ ns, ns = numS ⟨(digK 0 k1).toArray⟩ ⟨(digK 1 k2).toArray⟩ := ⟨_, rfl⟩
  have hsz : ns.size = 60 := by rw [hns]; exact numS_size 0 k1 1 k2
  have kv := fun (wi : World) (h : BX W0 wi b k1 k2 1) => xVerify h mx HM0.out.1 HM0.out.2
  rw [← hns] at kv ⊢
  have ks := fun W : World => kSpaced ns hsz W
  have KV := Lib.hid (show _ ∧ _ from ⟨kv, ks⟩)
  clear kv ks hns
  go_upto_region 8 with (first
    | (go_at_call 16; refine (KV.out.2 _).mono ?_; rintro e v7 ⟨rfl, hv7⟩; have HV7 := Lib.hid hv7; clear hv7)
    | (go_at_call 15; refine (KV.out.1 _ (HB2.upd HV7.out)).mono ?_; rintro e v8 ⟨rfl, HB3⟩)
    | (go_at_call 14; with_reducible refine (yState HB2 1 rfl).mono ?_; rintro e _ ⟨rfl, rfl⟩)
    | (go_at_call 14; refine (yState HB3 2 rfl).mono ?_; rintro e _ ⟨rfl, rfl⟩))
  go_upto_region 9 with (first
    | (go_at_call 12; refine (kDev _).mono ?_; rintro e x1 ⟨rfl, hx1⟩; have HX1 := Lib.hid hx1; clear hx1)
    | (go_at_call 10; refine (HQ.out.2.1 _).mono ?_; rintro e x2 ⟨rfl, hx2⟩; have HX2 := Lib.hid hx2; clear hx2)
    | (go_at_call 11; refine (xSame ((HB3.upd HX1.out).upd HX2.out)).mono ?_; rintro e x3 ⟨rfl, HB4⟩))
  go_upto_region 10 with (first
    | (go_at_call 12; refine (kDev _).mono ?_; rintro e x4 ⟨rfl, hx4⟩; have HX4 := Lib.hid hx4; clear hx4)
    | (go_at_call 10; refine (HQ.out.2.2.1 _).mono ?_; rintro e x5 ⟨rfl, hx5⟩; have HX5 := Lib.hid hx5; clear hx5)
    | (go_at_call 11; refine (xOther ((HB4.upd HX4.out).upd HX5.out) k3 HQ.out.2.2.2).mono ?_; rintro e x6 ⟨rfl, HB5⟩))
  go_upto_region 12 with (first
    | (go_at_call 15; refine (xBad HB5 mx HM0.out.1 HM0.out.2).mono ?_; rintro e x7 ⟨rfl, HB6⟩)
    | (go_at_call 17; refine (yAccept HB6).mono ?_; rintro e x8 ⟨rfl, HB7⟩)
    | (go_at_call 14; with_reducible refine (yState HB5 3 rfl).mono ?_; rintro e _ ⟨rfl, rfl⟩)
    | (go_at_call 14; refine (yState HB7 1 rfl).mono ?_; rintro e _ ⟨rfl, rfl⟩))
  go_upto_region 13 with (go_at_call 13; refine (xNumber2 HB7).mono ?_; rintro e y1 ⟨rfl, HB8⟩)
  go_upto_region 14 with (first
    | (go_at_call 10; refine (HQ.out.1 _).mono ?_; rintro e y2 ⟨rfl, hy2⟩; have HY2 := Lib.hid hy2; clear hy2)
    | (refine wpList_slice1 rfl 28 31 _ rfl _ rfl (keyCells k1) 32 rfl (keyCells_len k1) (Lib.hid ⟨by omega, by omega⟩) i0 (.agg zc.toArray) Tryz.underlying28 hi hz0 hz1 ?_)
    | (go_at_call 9; refine (xEight _ _).mono ?_; rintro e _ ⟨rfl, rfl⟩))
  have hy3 : Upd [] W0 (y2.alloc (.cells (keyCells k1).toArray 31)) := (HB8.world.trans HY2.out).trans (Upd.new y2 _)
  have HY3 := Lib.hid hy3
  clear hy3
  generalize y2.alloc (.cells (keyCells k1).toArray 31) = z0 at HY3 ⊢
  go_upto_region 18 with (first
    | (go_at_call 5; refine (load_nil _).mono ?_; rintro e z1 ⟨rfl, hz1⟩; have HZ1 := Lib.hid hz1; clear hz1)
    | (go_at_call 12; refine (kDev _).mono ?_; rintro e z2 ⟨rfl, hz2⟩; have HZ2 := Lib.hid hz2; clear hz2)
    | (go_at_call 10; refine (HQ.out.1 _).mono ?_; rintro e z3 ⟨rfl, hz3⟩; have HZ3 := Lib.hid hz3; clear hz3)
    | (go_at_call 11; refine (nLearn k1 _).mono ?_; rintro e z4 ⟨rfl, hz4⟩; have HZ4 := Lib.hid hz4; clear hz4)
    | (go_at_call 13; refine (nNumber _).mono ?_; rintro e z4 ⟨rfl, rfl⟩))
  go_wp2_with (go_at_call 18; refine (nKeys _).mono ?_; rintro e z5 ⟨rfl, rfl⟩)
  have hz5 : Upd [] W0 z4 := (((HY3.out.trans HZ1.out).trans HZ2.out).trans HZ3.out).trans HZ4.out
  have hu5 : Upd [] z4 ((z4.alloc (.cells #[.pointer none] 24)).alloc (.cells #[byteV 1] 5)) := (Upd.new z4 _).trans (Upd.new _ _)
  have hb5 : ((z4.alloc (.cells #[.pointer none] 24)).alloc (.cells #[byteV 1] 5)).heap[z4.heap.size]? = some (.cells #[.pointer none] 24 (0, 0)) := heap_alloc2_old z4 _ _
  generalize (z4.alloc (.cells #[.pointer none] 24)).alloc (.cells #[byteV 1] 5) = z5 at hu5 hb5 ⊢
  have HZ5 := Lib.hid (hz5.trans hu5)
  clear hz5 hu5
  refine (wpIn_wide (n := 5)).1 ?_
  refine wpIn_rangeFunc_ownH rfl (by omega) (gf := 53) (lb := #[.pointer (some ⟨z4.heap.size, 0, none⟩), .pointer (some ⟨z4.heap.size + 1, 0, none⟩)]) rfl trivial (enters_of Tryz.func53 (by kernel_rfl) rfl)
    (keys_stops_nil0 4 z4.heap.size (z4.heap.size + 1) 1 z5 hb5) keepT_t (fun W l o o' _ h hc _ => keepT_b W l o o' h hc) (Below.refl _ _) (fun _ => rfl)
    (fun _ W => Upd [] z5 W)
    (fun _ _ _ => False)
    (fun pre X Y row hs hg hr => kept_upd hs hg (fun r e => (hr r e).1))
    (fun _ _ _ _ _ hs _ _ => hs)
    (Upd.refl _ _)
    (fun _ _ _ => True)
    (fun _ _ _ _ _ _ _ _ _ => trivial)
    ?assign ?body ?done ?stop
  case assign =>
    intro l pre x W K hi hK
    gi_wp2
    exact hK _ _ (keepsFrom_of_upd (Upd.refl [] W) (by simp)) (KeepT.refl W) hi trivial
  case body =>
    intro l pre x a' W _ _ _ _ hlen
    exact absurd hlen (Nat.not_lt_zero _)
  case stop =>
    rintro D c pre W _ _ h _
    exact h.elim
  case done =>
    rintro D ys W hD rfl hu hK
    have HW := Lib.hid (show _ ∧ _ ∧ _ from ⟨HZ5.out.trans hu, hK, hD⟩)
    clear hu hK hD hb5
    go_simp
    go_wp2_with (first
      | (go_at_call 12; refine (kDev _).mono ?_; rintro e t1 ⟨rfl, ht1⟩; have HT1 := Lib.hid ht1; clear ht1)
      | (go_at_call 19; refine (nForget _).mono ?_; rintro e t2 ⟨rfl, ht2⟩; have HT2 := Lib.hid ht2; clear ht2)
      | (go_at_call 15; refine (nVerify _).mono ?_; rintro e t2 ⟨rfl, rfl⟩)
      | (go_at_call 17; refine (nAccept _).mono ?_; rintro e t2 ⟨rfl, rfl⟩)
      | (go_at_call 14; refine (nState _).mono ?_; rintro e t3 ⟨rfl, ht3⟩; have HT3 := Lib.hid ht3; clear ht3)
      | (go_at_call 8; refine (bytes_nil _).mono ?_; rintro e t3 ⟨rfl, rfl⟩; have hL3 : t3.heap[L]? = some (.cells #[.bool false] 4 (0, 0)) := (((HW.out.1.trans HT1.out).trans HT2.out).trans HT3.out).heap H0.out.2.1 (by simp); have d3 := cell_of_heap hL3 0; have f3 := free_of_heap hL3 0; have HL3 := Lib.hid hL3; clear hL3))
    have hs := heap_setCell_same HL3.out 0 (.bool true)
    have hfin : Upd [] W0 t3 := ((HW.out.1.trans HT1.out).trans HT2.out).trans HT3.out
    have hall : Upd [] w (t3.setCell ⟨L, 0, none⟩ (.bool true)) := (H0.out.1.trans hfin).setCell (.inl (by have := H0.out.2.2; show w.heap.size ≤ L; omega)) _
    have hDL : D ≠ L := by
      have h1 := HW.out.2.2
      have h2 := lt_of_heap H0.out.2.1
      have h3 := HZ5.out.size
      omega
    refine leaves_marks (B := w.heap.size) _ (t3.setCell ⟨L, 0, none⟩ (.bool true)) (fun d hd => by
      rw [List.mem_singleton] at hd
      refine ⟨D, ?_, hd, ?_⟩
      · have := HW.out.2.2; have := HZ5.out.size; have := H0.out.1.size; omega
      · exact (Below.heap_setCell _ _ _ _ hDL).trans (((HT1.out.trans HT2.out).trans HT3.out).heap HW.out.2.1 (by simp))) (by simp) ?_
    intro w' a1 a2 a3 a4 a5 a6
    refine ⟨_, results_cell_one rfl _ w' L (.bool true) rfl (cell_of_heap (a2 _ _ hs rfl) 0) (Tryz.isAgg4 w'), rfl, ⟨a3.trans hall.os, a4.trans hall.tape, a5.trans hall.output, Nat.le_trans hall.size a6, fun q hq hS => (a1 q hq).trans (hall.block q hq hS)⟩⟩
end Go.Proofs.YtdbceafejbnebaaGreatDoor
