/- The document's Load. -/
import Derived.Test.YtdbceafejbnebaaGreatDoorM30
namespace Go.Proofs.YtdbceafejbnebaaGreatDoor
open Go Go.RowKit
set_option maxHeartbeats 1000000 in
set_option maxRecDepth 100000 in
theorem rload6 {w : World} {cx : Nat} {ad : Option Addr} (xs : List UInt8) (hv : InAt w w.heap.size ad cx xs) :
    Calls Tryz.prog 6 #[.slice ad xs.length cx] w fun e w' => Upd [] w w' ∧ LoadR w w' e (refM xs) := by
  have HI := Lib.hid hv
  clear hv
  go_enter Tryz.func6, Tryz.ntmps6
  go_upto_region 2 with (refine wpList_runV rfl (some 2) rfl _ _ (run_exec_alloc37 _ _ rfl _) ?_)
  obtain ⟨W1, hW1⟩ : ∃ X, (w.alloc (Obj.cells (refCells 0 (Value.slice none 0 0) noneR).toArray 37)).alloc (Obj.cells #[Value.slice ad xs.length cx, Value.int IntKind.i64 0] 86) = X := ⟨_, rfl⟩
  have b1 : W1.heap[w.heap.size]? = some (.cells (refCells 0 (Value.slice none 0 0) noneR).toArray 37 (0, 0)) := by rw [← hW1]; exact heap_alloc2_old w _ _
  have b2 : W1.heap[w.heap.size + 1]? = some (.cells #[Value.slice ad xs.length cx, Value.int IntKind.i64 0] 86 (0, 0)) := by rw [← hW1]; exact heap_alloc2_new w _ _
  have u1 : Upd [] w W1 := by rw [← hW1]; exact (Upd.new w _).trans (Upd.new _ _)
  have s1 : W1.heap.size = w.heap.size + 1 + 1 := by rw [← hW1]; simp
  rw [hW1]
  clear hW1
  obtain ⟨r, hr⟩ : ∃ r, r = w.heap.size := ⟨_, rfl⟩
  rw [← hr] at b1 b2 s1 ⊢
  obtain ⟨p, hp⟩ : ∃ p, p = r + 1 := ⟨_, rfl⟩
  rw [← hp] at b2 s1 ⊢
  have hcS : CutS W1 p ad cx xs (some xs) := ⟨0, by omega, rfl, b2⟩
  have c1 := next30 1 hcS (HI.out.upd u1 (by simp)) (by omega) (by omega) (by omega)
  have H1 := Lib.hid (show _ ∧ _ ∧ _ ∧ _ ∧ _ from ⟨b1, u1, s1, hr, hp⟩)
  clear b1 b2 u1 s1 hcS hr hp
  go_upto_region 3 with (first
    | (go_at_call 30; refine c1.mono ?_; clear c1; rintro e w2 ⟨g1, o1, k1, rfl, hg1, hgl1, hlie1, hc1, hu1⟩; have d23 := hlie1.at 0 (by rw [rZ_len]; omega); rw [show ((rZ 1 (some xs))[0]?.getD 0) = zAt 1 (some xs) 0 from rfl, Nat.add_zero] at d23; have hl37 := heap_alloc_new w2 (Obj.cells (refCells 0 (Value.slice none 0 0) noneR).toArray 37); have H2 := Lib.hid (show _ ∧ _ ∧ _ from ⟨hc1, hu1, hl37⟩); clear hg1 hgl1 hlie1 hc1 hu1 hl37)
    | (refine wpList_build1 rfl 37 0 (.tmp 23) rfl (byteV (zAt 1 (some xs) 0)) (.agg (refCells (zAt 1 (some xs) 0) (.slice none 0 0) noneR).toArray) rfl (run_build37 (zAt 1 (some xs) 0) w2) ?_)
    | (refine wpList_runV rfl (some 5) rfl _ _ (run_exec_alloc37 _ _ rfl _) ?_)
    | (refine wpList_store_row rfl 37 (.tmp 5) (.tmp 24) rfl w2.heap.size (refCells (zAt 1 (some xs) 0) (.slice none 0 0) noneR).toArray rfl rfl 37 (refCells 0 (Value.slice none 0 0) noneR).toArray H2.out.2.2 (size37c _ _ _) (by rw [List.size_toArray, List.size_toArray, refCells_len, refCells_len]) (refCells_all _ _ _ rfl) ?_))
  simp only [Act.put, List.setIfInBounds_toArray, List.set_cons_zero, List.set_cons_succ]
  obtain ⟨W2, hW2⟩ : ∃ X, (w2.alloc (Obj.cells (refCells 0 (Value.slice none 0 0) noneR).toArray 37)).setRow w2.heap.size (refCells (zAt 1 (some xs) 0) (Value.slice none 0 0) noneR).toArray = X := ⟨_, rfl⟩
  have hbb : RefAt W2 w2.heap.size (zAt 1 (some xs) 0) (.slice none 0 0) noneR := by rw [← hW2]; exact setRow_heap _ _ _ _ 37 (0, 0) H2.out.2.2
  have hu2 : Upd [] w2 W2 := by rw [← hW2]; exact (Upd.new w2 _).setRow (.inl (Nat.le_refl _)) _
  rw [hW2]
  clear hW2
  have hsz2 := H2.out.2.1.size
  have HB := Lib.hid (show CutS W2 p ad cx xs (rTake 1 (some xs)) ∧ RefAt W2 w2.heap.size (zAt 1 (some xs) 0) (.slice none 0 0) noneR ∧ Lay w W2 xs r p w2.heap.size cx ad from by
    obtain ⟨b1, u1, s1, hr, hp⟩ := H1.out
    have huw : Upd [] w W2 := (u1.trans' (H2.out.2.1) (by simp; omega)).trans hu2
    exact ⟨H2.out.1.upd hu2 (by simp), hbb, ⟨HI.out.upd huw (by simp), hu2.heap (H2.out.2.1.heap b1 (by simp; omega)) (by simp), huw, by omega, by omega, by omega, by omega, by omega, by omega, lt_of_heap hbb, by have := hu2.size; omega⟩⟩)
  clear hbb hu2 hsz2 H2 H1 HI d23
  obtain ⟨bb, hbb⟩ : ∃ bb, bb = w2.heap.size := ⟨_, rfl⟩
  rw [← hbb] at HB ⊢
  clear hbb
  have c2 := next30 2 HB.out.1 HB.out.2.2.inp (by omega) (by omega) HB.out.2.2.pB
  have hnl := numZ_lt (rTake 1 (some xs))
  obtain ⟨n, hn⟩ : ∃ n, n = numZ (rTake 1 (some xs)) := ⟨_, rfl⟩
  have z0 : IntKind.i64.wrap (n : Int) = (n : Int) := IntWalk.i64_in _ (by omega)
  have HN := Lib.hid (show _ ∧ _ from ⟨hn, hnl⟩)
  clear hn hnl
  go_upto_block 0 with (first
    | (go_at_call 30; refine c2.mono ?_; clear c2; rintro e w3 ⟨g3, o3, k3, rfl, hg3, hgl3, hlie3, hc3, hu3⟩; have c3 := num31 (c := k3) (rTake 1 (some xs)) hlie3; rw [← HN.out.1] at c3; have H3 := Lib.hid (show _ ∧ _ from ⟨hc3, hu3⟩); clear hg3 hgl3 hlie3 hc3 hu3)
    | (go_at_call 31; refine c3.mono ?_; clear c3; rintro e w3' ⟨rfl, hw3⟩; rw [hw3]; clear hw3))
  have HM0 := Lib.hid (show Mid w W2 w3 xs r p bb cx ad [] (rTake 2 (rTake 1 (some xs))) (.slice none 0 0) from
    ⟨HB.out.2.1.upd H3.out.2 (by have := HB.out.2.2.pb; simp; omega), World.ownsRow_nil w3 _ 31 32, H3.out.1, H3.out.2.mono (by simp), by simp⟩)
  clear H3
  go_cut [7] from 29 to 52 (fun s7 we => Hid (∃ (L : List K) (st : Option (List UInt8)) (v : Value), Mid w W2 we xs r p bb cx ad L st v ∧ (1 ≤ n → n ≤ 4 → st ≠ none → 1 ≤ L.length) ∧
    refM xs = if (zAt 1 (some xs) 0).toNat < 8 ∧ 1 ≤ n ∧ n ≤ 4 ∧ numZ st ≤ 8 then (onesS (zAt 1 (some xs) 0) (numZ st) noneR (rTake 2 st)).bind (finR xs (zAt 1 (some xs) 0) L) else none))
  case first =>
    go_wp2_with fail
    go_loopw [7] (fun s7 wr => ∃ i : Nat, s7 = .int .i64 (i : Int) ∧ Hid (∃ (L : List K) (st : Option (List UInt8)) (v : Value), i = L.length ∧ i ≤ n ∧ Mid w W2 wr xs r p bb cx ad L st v ∧ (n ≤ 4 → keysS n (rTake 2 (rTake 1 (some xs))) = (keysS (n - i) st).map fun r => (L ++ r.1, r.2)))) (fun s7 _ => n - (intOf s7).toNat)
    case atStart =>
      refine ⟨0, rfl, Lib.hid ⟨[], _, _, rfl, by omega, HM0.out, fun _ => ?_⟩⟩
      rw [Nat.sub_zero]
      simp
    case round =>
      obtain ⟨wz, hwz⟩ : ∃ wz, wz = wr := ⟨_, rfl⟩
      rw [← hwz] at hrel ⊢
      clear hwz
      obtain ⟨i, rfl, hR⟩ := hrel
      obtain ⟨L, st, v, hiL, hin, hM, hk⟩ := hR.out
      have hmid : (n ≤ i ∨ st = none ∨ ¬ n ≤ 4) → Hid (∃ (L : List K) (st : Option (List UInt8)) (v : Value), Mid w W2 wz xs r p bb cx ad L st v ∧ (1 ≤ n → n ≤ 4 → st ≠ none → 1 ≤ L.length) ∧
          refM xs = if (zAt 1 (some xs) 0).toNat < 8 ∧ 1 ≤ n ∧ n ≤ 4 ∧ numZ st ≤ 8 then (onesS (zAt 1 (some xs) 0) (numZ st) noneR (rTake 2 st)).bind (finR xs (zAt 1 (some xs) 0) L) else none) := by
        intro hex
        refine Lib.hid ⟨L, st, v, hM, ?_, ?_⟩
        · intro h1 h4 hs
          rcases hex with h | h | h
          · omega
          · exact absurd h hs
          · exact absurd h4 h
        · have q := HN.out.1
          rw [q] at hk hex ⊢
          exact refM_mid hk hex
      have HMD := Lib.hid hmid
      obtain ⟨x, hx, hx2⟩ := hM.cut.cut
      have hx1 : wz.cell? ⟨p, 1, none⟩ = some (.int .i64 x) := cell_of_heap hx 1
      have HH := Lib.hid (show _ ∧ _ ∧ _ ∧ _ from ⟨hiL, hin, hM, hk⟩)
      clear hmid hR hM hk hx hiL
      by_cases hlt : i < n
      · rcases hx2 with ⟨hx0, hs, -⟩ | ⟨rfl, hs⟩
        · have hxI : decide (0 ≤ x) = true := by simpa using hx0
          by_cases h4 : n ≤ 4
          · have h4I : decide ((n : Int) ≤ 4) = true := by simp; omega
            have h4J : decide (n ≤ 4) = true := by simpa using h4
            have hltI : decide (i < n) = true := by simpa using hlt
            have HG := Lib.hid (show _ ∧ _ ∧ _ from ⟨hlt, h4, hs⟩)
            clear hlt h4 hs hin hx0
            go_upto_region 7 with fail
            have hcS : wz.drew.cell? ⟨bb, 1, none⟩ = some v := HH.out.2.2.1.ref.own
            refine region_E (fun w' => w'.cell? ⟨bb, 1, none⟩ = some v) (fun j => j == 8) (by kernel_rfl) ?_
            have s0 := hcS
            refine takeE 0 (some 45) (.pointer (some ⟨bb, 1, none⟩)) rfl rfl (by kernel_rfl) (by kernel_rfl) (by kernel_rfl) (by kernel_rfl) (fun _ _ _ h => h) (by kernel_rfl) (fun w' hw' => by go_simp) s0 ?_
            simp only [Act.put, List.setIfInBounds_toArray, List.set_cons_zero, List.set_cons_succ]
            refine takeE 1 (some 46) (v) rfl rfl (by kernel_rfl) (by kernel_rfl) (by kernel_rfl) (by kernel_rfl) (fun _ _ _ h => h) (by kernel_rfl) (fun w' hw' => by go_simp) s0 ?_
            simp only [Act.put, List.setIfInBounds_toArray, List.set_cons_zero, List.set_cons_succ]
            refine takeE 2 (some 47) (.pointer (some ⟨p, 0, none⟩)) rfl rfl (by kernel_rfl) (by kernel_rfl) (by kernel_rfl) (by kernel_rfl) (fun _ _ _ h => h) (by kernel_rfl) (fun w' hw' => by go_simp) s0 ?_
            simp only [Act.put, List.setIfInBounds_toArray, List.set_cons_zero, List.set_cons_succ]
            refine oneE 3 (by kernel_rfl) ?_
            have hud : Upd [] wz wz.drew := (Upd.refl [] wz).drew
            refine callE (some 48) rfl rfl (by kernel_rfl) (f := 30) (args := #[.pointer (some ⟨p, 0, none⟩), .int .i64 ((32 : Nat) : Int)]) (by go_simp) (next30 32 (HH.out.2.2.1.cut.upd hud (by simp)) (HB.out.2.2.inp.upd (HH.out.2.2.1.upd.trans (hud.mono (by simp))) (by have := HB.out.2.2.pB; have := HB.out.2.2.bB; simp; omega)) (by omega) (by omega) HB.out.2.2.pB) ?_
            rintro e w4 ⟨g4, o4, k4, rfl, hg4, hgl4, hlie4, hc4, hu4⟩
            have hr4 : RefAt w4 bb (zAt 1 (some xs) 0) v noneR := (HH.out.2.2.1.ref.upd hud (by simp)).upd hu4 (by have := HB.out.2.2.pb; simp; omega)
            refine ⟨_, rfl, fun _ => hr4.own, ?_⟩
            simp only [Act.put, List.setIfInBounds_toArray, List.set_cons_zero, List.set_cons_succ]
            refine oneE 4 (by kernel_rfl) ?_
            refine callE (some 49) rfl rfl (by kernel_rfl) (f := 32) (args := #[.slice (some ⟨g4, o4, none⟩) 32 k4]) (by go_simp) (key32 st hlie4 hgl4) ?_
            rintro e w5 ⟨rfl, hu5⟩
            have hr5 := hr4.upd hu5 (by simp)
            refine ⟨_, rfl, fun _ => hr5.own, ?_⟩
            simp only [Act.put, List.setIfInBounds_toArray, List.set_cons_zero, List.set_cons_succ]
            refine oneE 5 (by kernel_rfl) ?_
            refine runE (some 50) _ _ rfl rfl (by kernel_rfl) (run_exec_slice1K _ _ (x := .tmp 49) rfl (kOf st) (by go_simp) _) ?_
            have hv6 : ViewAt 32 (w5.alloc (.cells (keyCells (kOf st)).toArray 31)) (.slice (some ⟨w5.heap.size, 0, none⟩) 1 1) [kOf st].length ([kOf st].flatMap keyCells) := .inr ⟨_, _, _, rfl, flat_len [kOf st], fun j u hj => by
              rw [cell_of_heap (heap_alloc_new _ _), Nat.zero_add, List.getElem?_toArray]
              simpa using hj⟩
            have hu6 := Upd.new w5 (.cells (keyCells (kOf st)).toArray 31)
            obtain ⟨w6, hw6⟩ : ∃ X, w5.alloc (.cells (keyCells (kOf st)).toArray 31) = X := ⟨_, rfl⟩
            rw [hw6] at hv6 hu6 ⊢
            clear hw6
            have hr6 := hr5.upd hu6 (by simp)
            have hall : Upd [p, bb] W2 w6 := ((HH.out.2.2.1.upd.trans (hud.mono (by simp))).trans (hu4.mono (by simp))).trans ((hu5.trans hu6).mono (by simp))
            have hown6 := owns_upd (owns_upd HH.out.2.2.1.own ((hud.mono (by simp) : Upd [p] wz wz.drew).trans hu4) (by have := HB.out.2.2.pl; simpa using this)) (hu5.trans hu6) (by simp)
            refine ⟨fun _ => hr6.own, ?_⟩
            simp only [Act.put, List.setIfInBounds_toArray, List.set_cons_zero, List.set_cons_succ]
            refine oneE 6 (by kernel_rfl) ?_
            refine wpOp_app28S (W := W2) (S := [p, bb]) (some 51) rfl rfl (by kernel_rfl) (.tmp 46) (.tmp 50) rfl v (.slice (some ⟨w5.heap.size, 0, none⟩) 1 1) (by go_simp) (by go_simp) W2.heap.size L [kOf st] hown6 hv6 (by have := HH.out.2.2.1.len; simp; omega) (Nat.le_refl _) hall.size hall ?_
            intro v7 w7 ho7 hu7 hg7
            have hr7 : RefAt w7 bb (zAt 1 (some xs) 0) v noneR := (hg7.block bb (lt_of_heap hr6) (fun q => by have := owns_block hown6 bb q.symm; have := HB.out.2.2.bl; omega)).trans hr6
            have hc7 : CutS w7 p ad cx xs (rTake 32 st) := by
              have hc6 := (hc4.upd hu5 (by simp)).upd hu6 (by simp)
              have hb7 : w7.heap[p]? = w6.heap[p]? := hg7.block p hc6.lt (fun q => by have := owns_block hown6 p q.symm; have := HB.out.2.2.pl; omega)
              cases hst : rTake 32 st with
              | none => rw [hst] at hc6; exact hb7.trans hc6
              | some ys => rw [hst] at hc6; obtain ⟨a, h1, h2, h3⟩ := hc6; exact ⟨a, h1, h2, hb7.trans h3⟩
            refine ⟨fun _ => hr7.own, ?_⟩
            simp only [Act.put, List.setIfInBounds_toArray, List.set_cons_zero, List.set_cons_succ]
            refine oneE 7 (by kernel_rfl) ?_
            refine runE (some 52) w7 (.pointer (some ⟨bb, 1, none⟩)) rfl rfl (by kernel_rfl) (by go_simp) ?_
            refine ⟨fun _ => hr7.own, ?_⟩
            simp only [Act.put, List.setIfInBounds_toArray, List.set_cons_zero, List.set_cons_succ]
            refine oneE 8 (by kernel_rfl) ?_
            obtain ⟨q1, q2, q3, rfl⟩ := owns_isSl ho7
            have hcell7 := hr7.own
            have hfree7 := hr7.free 1
            have hset := hr7.setOwn (.slice q1 q2 q3)
            refine skipE none (w7.setCell ⟨bb, 1, none⟩ (.slice q1 q2 q3)) rfl rfl (by kernel_rfl) (by go_simp) ?_
            refine ⟨fun q => absurd q (by decide), ?_⟩
            simp only [Act.put]
            refine doneE (by kernel_rfl) ?_ _
            obtain ⟨w8, hw8⟩ : ∃ X, w7.setCell ⟨bb, 1, none⟩ (.slice q1 q2 q3) = X := ⟨_, rfl⟩
            rw [hw8] at hset ⊢
            clear hw8
            have hst := HG.out.2.2
            have HF : Hid (Mid w W2 w8 xs r p bb cx ad (L ++ [kOf st]) (rTake 32 st) (.slice q1 q2 q3)) := Lib.hid
              ⟨hset.1, owns_upd ho7 hset.2 (by have := HB.out.2.2.bl; simpa using this), hc7.upd hset.2 (by have := HB.out.2.2.pb; simpa using this), hu7.trans (hset.2.mono (by simp)), by have := HG.out.1; have := HG.out.2.1; have := HH.out.1; simp; omega⟩
            clear hr4 hr5 hr6 hr7 hc4 hc7 hu4 hu5 hu6 hu7 hg4 hgl4 hlie4 hv6 hall hown6 ho7 hg7 hcell7 hfree7 hset hud s0 hcS hst
            have z1 : IntKind.i64.wrap ((i : Int) + 1) = (i : Int) + 1 := IntWalk.i64_in _ (by have := HG.out.1; have := HG.out.2.1; omega)
            go_wp2
            go_roundw
            case rel =>
              refine ⟨i + 1, by simp, Lib.hid ⟨L ++ [kOf st], rTake 32 st, .slice q1 q2 q3, by have := HH.out.1; simp; omega, by have := HG.out.1; omega, HF.out, fun h4 => ?_⟩⟩
              rw [HH.out.2.2.2 h4, show n - i = (n - (i + 1)) + 1 by have := HG.out.1; omega, keysS_succ]
              cases keysS (n - (i + 1)) (rTake 32 st) with
              | none => rfl
              | some q => simp
            case measure => simp [intOf]; have := HG.out.1; omega
          · have h4I : decide ((n : Int) ≤ 4) = false := by simp; omega
            have h4J : decide (n ≤ 4) = false := by simpa using h4
            have hltI : decide (i < n) = true := by simpa using hlt
            have HG := Lib.hid h4
            clear hlt h4 hs hin hx0
            go_wp2
            go_meet
            exact HMD.out (.inr (.inr HG.out))
        · have hltI : decide (i < n) = true := by simpa using hlt
          have HG := Lib.hid hs
          clear hlt hs hin
          go_wp2
          go_meet
          exact HMD.out (.inr (.inl HG.out))
      · have hltI : decide (i < n) = false := by simpa using hlt
        have HG := Lib.hid hlt
        clear hlt hx2 hin
        go_wp2
        go_meet
        exact HMD.out (.inl (by have := HG.out; omega))
  case rest =>
  obtain ⟨w4, hw4⟩ : ∃ X, wc = X := ⟨_, rfl⟩
  rw [hw4] at hcut ⊢
  clear hw4 HM0
  obtain ⟨L, st, v, hM, hL, href⟩ := hcut.out
  have c4 := next30 2 hM.cut (HB.out.2.2.inp.upd hM.upd (by have := HB.out.2.2.pB; have := HB.out.2.2.bB; simp; omega)) (by omega) (by omega) HB.out.2.2.pB
  have hml := numZ_lt st
  obtain ⟨m, hm⟩ : ∃ m, m = numZ st := ⟨_, rfl⟩
  rw [← hm] at href
  have z1 : IntKind.i64.wrap (m : Int) = (m : Int) := IntWalk.i64_in _ (by omega)
  have HL := Lib.hid (show _ ∧ _ ∧ _ ∧ _ ∧ _ from ⟨hM, hL, href, hm, hml⟩)
  clear hcut hM hL href hm hml
  go_upto_region 9 with (first
    | (go_at_call 30; refine c4.mono ?_; clear c4; rintro e w5 ⟨g5, o5, k5, rfl, hg5, hgl5, hlie5, hc5, hu5⟩; have c5 := num31 (c := k5) st hlie5; rw [← HL.out.2.2.2.1] at c5; have H5 := Lib.hid (show _ ∧ _ from ⟨hc5, hu5⟩); clear hg5 hgl5 hlie5 hc5 hu5)
    | (go_at_call 31; refine c5.mono ?_; clear c5; rintro e w5' ⟨rfl, hw5⟩; rw [hw5]; clear hw5))
  have HM := Lib.hid (show Mid w W2 w5 xs r p bb cx ad L (rTake 2 st) v from
    ⟨HL.out.1.ref.upd H5.out.2 (by have := HB.out.2.2.pb; simp; omega), owns_upd HL.out.1.own H5.out.2 (by have := HB.out.2.2.pl; simpa using this), H5.out.1, HL.out.1.upd.trans (H5.out.2.mono (by simp)), HL.out.1.len⟩)
  clear H5
  obtain ⟨acct, hac⟩ : ∃ acct, acct = zAt 1 (some xs) 0 := ⟨_, rfl⟩
  have hacc : w5.cell? ⟨bb, 0, none⟩ = some (.int .u8 (acct.toNat : Int)) := by rw [hac]; exact HM.out.ref.acct
  obtain ⟨ok, hok⟩ : ∃ ok, ok = decide (acct.toNat < 8 ∧ 1 ≤ n ∧ n ≤ 4 ∧ m ≤ 8) := ⟨_, rfl⟩
  have HOK := Lib.hid (show _ ∧ _ from ⟨hok, hac⟩)
  clear hac
  go_cut [9] from 57 to 71 (fun s9 we => s9 = .bool ok ∧ we = w5)
  case first =>
    by_cases h1 : acct.toNat < 8
    · have h1I : decide (acct.toNat < 8) = true := by simpa using h1
      have h1J : decide ((acct.toNat : Int) < 8) = true := by simp; omega
      by_cases h2 : 1 ≤ n
      · have h2I : decide (1 ≤ n) = true := by simpa using h2
        have h2J : decide (1 ≤ (n : Int)) = true := by simp; omega
        by_cases h3 : n ≤ 4
        · have h3I : decide (n ≤ 4) = true := by simpa using h3
          have h3J : decide ((n : Int) ≤ 4) = true := by simp; omega
          by_cases h4 : m ≤ 8
          · have h4I : decide (m ≤ 8) = true := by simpa using h4
            have h4J : decide ((m : Int) ≤ 8) = true := by simp; omega
            have hok2 : ok = true := by rw [hok]; simp [h1, h2, h3, h4]
            have HOK2 := Lib.hid hok2
            clear h1 h2 h3 h4 hok hok2
            go_wp2
            go_meet
            exact ⟨by rw [HOK2.out], rfl⟩
          · have h4I : decide (m ≤ 8) = false := by simpa using h4
            have h4J : decide ((m : Int) ≤ 8) = false := by simp; omega
            have hok2 : ok = false := by rw [hok]; simp [h4]
            have HOK2 := Lib.hid hok2
            clear h1 h2 h3 h4 hok hok2
            go_wp2
            go_meet
            exact ⟨by rw [HOK2.out], rfl⟩
        · have h3I : decide (n ≤ 4) = false := by simpa using h3
          have h3J : decide ((n : Int) ≤ 4) = false := by simp; omega
          have hok2 : ok = false := by rw [hok]; simp [h3]
          have HOK2 := Lib.hid hok2
          clear h1 h2 h3 hok hok2
          go_wp2
          go_meet
          exact ⟨by rw [HOK2.out], rfl⟩
      · have h2I : decide (1 ≤ n) = false := by simpa using h2
        have h2J : decide (1 ≤ (n : Int)) = false := by simp; omega
        have hok2 : ok = false := by rw [hok]; simp; omega
        have HOK2 := Lib.hid hok2
        clear h1 h2 hok hok2
        go_wp2
        go_meet
        exact ⟨by rw [HOK2.out], rfl⟩
    · have h1I : decide (acct.toNat < 8) = false := by simpa using h1
      have h1J : decide ((acct.toNat : Int) < 8) = false := by simp; omega
      have hok2 : ok = false := by rw [hok]; simp; omega
      have HOK2 := Lib.hid hok2
      clear h1 hok hok2
      go_wp2
      go_meet
      exact ⟨by rw [HOK2.out], rfl⟩
  case rest =>
  obtain ⟨rfl, hw⟩ := hcut
  rw [hw]
  clear hw hok hacc
  have HR0 := Lib.hid (show Run W2 w5 xs p bb cx ad acct L v (rTake 2 st) noneR from ⟨by rw [HOK.out.2]; exact HM.out.ref, HM.out.own, HM.out.cut, HM.out.upd⟩)
  have HF0 := Lib.hid (show (ok = true → rTake 2 st ≠ none → 1 ≤ L.length) ∧ refM xs = (if ok = true then (onesS acct m noneR (rTake 2 st)).bind (finR xs acct L) else none) from by
    have h1 := HOK.out.1
    constructor
    · intro h2 h3
      rw [h2] at h1
      have h4 := of_decide_eq_true h1.symm
      exact HL.out.2.1 h4.2.1 h4.2.2.1 (fun q => h3 (by rw [q]; rfl))
    · rw [HL.out.2.2.1, ← HOK.out.2, h1]
      simp only [decide_eq_true_eq])
  clear HM
  go_upto_block 2 with fail
  go_cut [9, 10, 11, 12, 13, 14, 15, 16] from 72 to 166 (fun s9 s10 s11 s12 s13 s14 s15 s16 we => ∃ ok' : Bool, s9 = .bool ok' ∧ Hid (∃ (st' : Option (List UInt8)) (ρ : Rb), Run W2 we xs p bb cx ad acct L v st' ρ ∧ (ok' = true → st' ≠ none → 1 ≤ L.length) ∧ refM xs = (if ok' = true then st'.bind (fun ys => finR xs acct L (ρ, ys)) else none)))
  case first =>
    go_wp2_with fail
    go_loopw [10, 9] (fun s10 s9 wr => ∃ (i : Nat) (ok' : Bool), s10 = .int .i64 (i : Int) ∧ s9 = .bool ok' ∧ Hid (∃ (st' : Option (List UInt8)) (ρ : Rb), Run W2 wr xs p bb cx ad acct L v st' ρ ∧ (ok' = true → st' ≠ none → 1 ≤ L.length) ∧ refM xs = (if ok' = true then (onesS acct (m - i) ρ st').bind (finR xs acct L) else none))) (fun s10 _ _ => m - (intOf s10).toNat)
    case atStart =>
      refine ⟨0, ok, rfl, rfl, Lib.hid ⟨_, _, HR0.out, HF0.out.1, ?_⟩⟩
      rw [Nat.sub_zero]
      exact HF0.out.2
    case round =>
      obtain ⟨wz, hwz⟩ : ∃ wz, wz = wr := ⟨_, rfl⟩
      rw [← hwz] at hrel ⊢
      clear hwz
      obtain ⟨i, ok', rfl, rfl, hR⟩ := hrel
      obtain ⟨sz, ρ, hRun, hFl, hrf⟩ := hR.out
      have hend : (m ≤ i ∨ sz = none ∨ ok' = false) → Hid (∃ (st' : Option (List UInt8)) (ρ : Rb), Run W2 wz xs p bb cx ad acct L v st' ρ ∧ (ok' = true → st' ≠ none → 1 ≤ L.length) ∧ refM xs = (if ok' = true then st'.bind (fun ys => finR xs acct L (ρ, ys)) else none)) := by
        intro hex
        refine Lib.hid ⟨sz, ρ, hRun, hFl, ?_⟩
        rw [hrf]
        cases ok' with
        | false => rfl
        | true =>
          simp only [if_true]
          cases sz with
          | none => rfl
          | some ys =>
            have : m ≤ i := by
              rcases hex with h | h | h
              · exact h
              · cases h
              · cases h
            rw [show m - i = 0 by omega, onesS_zero]
            rfl
      have HEND := Lib.hid hend
      obtain ⟨x, hx, hx2⟩ := hRun.cut.cut
      have hx1 : wz.cell? ⟨p, 1, none⟩ = some (.int .i64 x) := cell_of_heap hx 1
      have HH := Lib.hid (show _ ∧ _ ∧ _ from ⟨hRun, hFl, hrf⟩)
      clear hend hR hRun hFl hrf hx
      by_cases hlt : i < m
      · have hltI : decide (i < m) = true := by simpa using hlt
        rcases hx2 with ⟨hx0, hs, -⟩ | ⟨rfl, hs⟩
        · have hxI : decide (0 ≤ x) = true := by simpa using hx0
          cases ok' with
          | false =>
            clear hlt hs hx0
            go_wp2
            go_meet
            exact ⟨false, rfl, HEND.out (by simp)⟩
          | true =>
            have HG := Lib.hid (show _ ∧ _ from ⟨hlt, HH.out.2.1 rfl hs⟩)
            clear hlt hs hx0
            have c13 := HH.out.1.calls HB.out.2.2 2 (by omega) (by omega)
            have hkl := numZ_lt (rTake 2 sz)
            obtain ⟨k, hk⟩ : ∃ k, k = numZ (rTake 2 sz) := ⟨_, rfl⟩
            have z2 : IntKind.i64.wrap (k : Int) = (k : Int) := IntWalk.i64_in _ (by omega)
            have HK := Lib.hid (show _ ∧ _ from ⟨hk, hkl⟩)
            clear hk hkl
            go_upto_block 4 with (first
              | (go_at_call 30; refine c13.mono ?_; clear c13; rintro e wA ⟨gA, oA, kA, rfl, hgA1, hgA2, hgA3, hlieA, huA, hrA⟩; have c14 := hrA.calls HB.out.2.2 2 (by omega) (by omega); have HA := Lib.hid (show _ ∧ _ ∧ _ from ⟨hgA1, hgA2, hlieA⟩); clear hgA1 hgA2 hgA3 hlieA huA hrA)
              | (go_at_call 30; refine c14.mono ?_; clear c14; rintro e wB ⟨gB, oB, kB, rfl, hgB1, hgB2, hgB3, hlieB, huB, hrB⟩; have c15 := num31 (c := kB) (rTake 2 sz) hlieB; rw [← HK.out.1] at c15; have HB2 := Lib.hid (show _ ∧ _ from ⟨HA.out.2.2.upd huB (by have := HA.out.1; simpa using this), hrB⟩); clear hgB1 hgB2 hgB3 hlieB huB hrB)
              | (go_at_call 31; refine c15.mono ?_; clear c15; rintro e wB' ⟨rfl, hwB⟩; rw [hwB]; clear hwB))
            obtain ⟨a, ha⟩ : ∃ a, a = zAt 2 sz 0 := ⟨_, rfl⟩
            obtain ⟨s, hs⟩ : ∃ s, s = zAt 2 sz 1 := ⟨_, rfl⟩
            obtain ⟨X, hX⟩ : ∃ X, X = (if k ≤ 4 then knsS acct a k ρ (rTake 2 (rTake 2 sz)) else none) := ⟨_, rfl⟩
            have HS := Lib.hid (show _ ∧ _ ∧ _ from ⟨ha, hs, hX⟩)
            clear ha hs hX hx1
            go_cut [9, 13, 14, 15, 16] from 72 to 166 (fun s9 s13 s14 s15 s16 we => ∃ ok3 : Bool, s9 = .bool ok3 ∧ Hid (∃ (st3 : Option (List UInt8)) (ρ3 : Rb), Run W2 we xs p bb cx ad acct L v st3 ρ3 ∧ LieAt we gA oA (rZ 2 sz) ∧ X = (if ok3 = true then st3.map (fun ys => (ρ3, ys)) else none)))
            case first =>
              go_wp2_with fail
              go_loopw [13, 9] (fun s13 s9 wr => ∃ (j : Nat) (ok3 : Bool), s13 = .int .i64 (j : Int) ∧ s9 = .bool ok3 ∧ Hid (∃ (st3 : Option (List UInt8)) (ρ3 : Rb), Run W2 wr xs p bb cx ad acct L v st3 ρ3 ∧ LieAt wr gA oA (rZ 2 sz) ∧ X = (if ok3 = true then knsS acct a (k - j) ρ3 st3 else none))) (fun s13 _ _ => k - (intOf s13).toNat)
              case atStart =>
                refine ⟨0, decide (k ≤ 4), rfl, by simp; omega, Lib.hid ⟨_, _, HB2.out.2, HB2.out.1, ?_⟩⟩
                rw [Nat.sub_zero, HS.out.2.2]
                simp only [decide_eq_true_eq]
              case round =>
                obtain ⟨wy, hwy⟩ : ∃ wy, wy = wr := ⟨_, rfl⟩
                rw [← hwy] at hrel ⊢
                clear hwy
                obtain ⟨j, ok3, rfl, rfl, hT⟩ := hrel
                obtain ⟨sy, ρ3, hRy, hLy, hXy⟩ := hT.out
                have hend3 : (k ≤ j ∨ sy = none ∨ ok3 = false) → Hid (∃ (st3 : Option (List UInt8)) (ρ3 : Rb), Run W2 wy xs p bb cx ad acct L v st3 ρ3 ∧ LieAt wy gA oA (rZ 2 sz) ∧ X = (if ok3 = true then st3.map (fun ys => (ρ3, ys)) else none)) := by
                  intro hex
                  refine Lib.hid ⟨sy, ρ3, hRy, hLy, ?_⟩
                  rw [hXy]
                  cases ok3 with
                  | false => rfl
                  | true =>
                    simp only [if_true]
                    cases sy with
                    | none => rfl
                    | some ys =>
                      have : k ≤ j := by
                        rcases hex with h | h | h
                        · exact h
                        · cases h
                        · cases h
                      rw [show k - j = 0 by omega, knsS_zero]
                have HE3 := Lib.hid hend3
                obtain ⟨y, hy, hy2⟩ := hRy.cut.cut
                have hy1 : wy.cell? ⟨p, 1, none⟩ = some (.int .i64 y) := cell_of_heap hy 1
                have HY := Lib.hid (show _ ∧ _ ∧ _ from ⟨hRy, hLy, hXy⟩)
                clear hend3 hT hRy hLy hXy hy
                by_cases hjl : j < k
                · have hjI : decide (j < k) = true := by simpa using hjl
                  cases ok3 with
                  | false =>
                    clear hjl hy2
                    go_wp2
                    go_meet
                    exact ⟨false, rfl, HE3.out (by simp)⟩
                  | true =>
                    rcases hy2 with ⟨hy0, hs3, -⟩ | ⟨rfl, hs3⟩
                    · have hyI : decide (0 ≤ y) = true := by simpa using hy0
                      have HJ := Lib.hid hjl
                      clear hjl hs3 hy0
                      have c19 := HY.out.1.calls HB.out.2.2 1 (by omega) (by omega)
                      go_upto_region 20 with (go_at_call 30; refine c19.mono ?_; clear c19; rintro e wC ⟨gC, oC, kC, rfl, hgC1, hgC2, hgC3, hlieC, huC, hrC⟩; have hdC := hlieC.first (by omega); have HC := Lib.hid (show _ ∧ _ from ⟨hrC, HY.out.2.1.upd huC (by have := HA.out.1; simpa using this)⟩); clear hgC1 hgC2 hgC3 hlieC huC hrC)
                      obtain ⟨d, hd⟩ : ∃ d, d = zAt 1 sy 0 := ⟨_, rfl⟩
                      rw [← hd]
                      have HD := Lib.hid hd
                      clear hd hdC
                      refine region_E (fun w' => LieAt w' gA oA (rZ 2 sz)) (fun _ => false) (by kernel_rfl) ?_
                      have hud : Upd [] wC wC.drew := (Upd.refl [] wC).drew
                      have s0 := HC.out.2.upd hud (by simp)
                      refine takeE 0 (some 118) (.slice (some ⟨gA, oA, none⟩) 2 kA) rfl rfl (by kernel_rfl) (by kernel_rfl) (by kernel_rfl) (by kernel_rfl) (fun _ _ _ h => h) (by kernel_rfl) (fun w' hw' => by go_simp) s0 ?_
                      simp only [Act.put, List.setIfInBounds_toArray, List.set_cons_zero, List.set_cons_succ]
                      refine takeE 1 (some 119) (.pointer (some ⟨gA, oA, none⟩)) rfl rfl (by kernel_rfl) (by kernel_rfl) (by kernel_rfl) (by kernel_rfl) (fun _ _ _ h => h) (by kernel_rfl) (fun w' hw' => by go_simp) s0 ?_
                      simp only [Act.put, List.setIfInBounds_toArray, List.set_cons_zero, List.set_cons_succ]
                      refine takeE 2 (some 120) (.int .u8 (a.toNat : Int)) rfl rfl (by kernel_rfl) (by kernel_rfl) (by kernel_rfl) (by kernel_rfl) (fun _ _ _ h => h) (by kernel_rfl) (fun w' hw' => by have q := LieAt.first hw' (by omega); rw [← HS.out.1] at q; go_simp) s0 ?_
                      simp only [Act.put, List.setIfInBounds_toArray, List.set_cons_zero, List.set_cons_succ]
                      refine takeE 3 (some 121) (.int .u8 (d.toNat : Int)) rfl rfl (by kernel_rfl) (by kernel_rfl) (by kernel_rfl) (by kernel_rfl) (fun _ _ _ h => h) (by kernel_rfl) (fun w' hw' => by go_simp) s0 ?_
                      simp only [Act.put, List.setIfInBounds_toArray, List.set_cons_zero, List.set_cons_succ]
                      refine takeE 4 (some 122) (devV a d) rfl rfl (by kernel_rfl) (by kernel_rfl) (by kernel_rfl) (by kernel_rfl) (fun _ _ _ h => h) (by kernel_rfl) (fun w' hw' => by unfold devV byteV; go_simp) s0 ?_
                      simp only [Act.put, List.setIfInBounds_toArray, List.set_cons_zero, List.set_cons_succ]
                      refine takeE 5 (some 123) (.pointer (some ⟨p, 0, none⟩)) rfl rfl (by kernel_rfl) (by kernel_rfl) (by kernel_rfl) (by kernel_rfl) (fun _ _ _ h => h) (by kernel_rfl) (fun w' hw' => by go_simp) s0 ?_
                      simp only [Act.put, List.setIfInBounds_toArray, List.set_cons_zero, List.set_cons_succ]
                      refine oneE 6 (by kernel_rfl) ?_
                      refine callE (some 124) rfl rfl (by kernel_rfl) (f := 30) (args := #[.pointer (some ⟨p, 0, none⟩), .int .i64 ((32 : Nat) : Int)]) (by go_simp) ((HC.out.1.upd0 hud).calls HB.out.2.2 32 (by omega) (by omega)) ?_
                      rintro e w6 ⟨g6, o6, k6, rfl, hg61, hg62, hg63, hlie6, hu6, hr6⟩
                      have hl6 := s0.upd hu6 (by have := HA.out.1; simpa using this)
                      refine ⟨_, rfl, fun _ => hl6, ?_⟩
                      simp only [Act.put, List.setIfInBounds_toArray, List.set_cons_zero, List.set_cons_succ]
                      refine oneE 7 (by kernel_rfl) ?_
                      refine callE (some 125) rfl rfl (by kernel_rfl) (f := 32) (args := #[.slice (some ⟨g6, o6, none⟩) 32 k6]) (by go_simp) (key32 (rTake 1 sy) hlie6 hg63) ?_
                      rintro e w7 ⟨rfl, hu7⟩
                      have hl7 := hl6.upd hu7 (by simp)
                      have hr7 := hr6.upd0 hu7
                      refine ⟨_, rfl, fun _ => hl7, ?_⟩
                      simp only [Act.put, List.setIfInBounds_toArray, List.set_cons_zero, List.set_cons_succ]
                      refine oneE 8 (by kernel_rfl) ?_
                      refine callE (some 126) rfl rfl (by kernel_rfl) (f := 33) (args := #[.pointer (some ⟨bb, 0, none⟩), devV a d, .agg (keyCells (kOf (rTake 1 sy))).toArray]) (by go_simp) (rlearn33 hr7.ref a d (kOf (rTake 1 sy))) ?_
                      rintro e w8 ⟨b20, ρ4, rfl, hr8, hρ, hu8⟩
                      have hl8 := hl7.upd hu8 (by have := HA.out.2.1; simpa using this)
                      refine ⟨_, rfl, fun _ => hl8, ?_⟩
                      simp only [Act.put, List.setIfInBounds_toArray, List.set_cons_zero, List.set_cons_succ]
                      obtain ⟨ev, hev⟩ : ∃ ev, ev = mayE acct a d := ⟨_, rfl⟩
                      rw [← hev] at hρ ⊢
                      refine takeE 9 (some 117) (.tuple #[.bool b20, .int .i64 ev]) rfl rfl (by kernel_rfl) (by kernel_rfl) (by kernel_rfl) (by kernel_rfl) (fun _ _ _ h => h) (by kernel_rfl) (fun w' hw' => by go_simp) hl8 ?_
                      simp only [Act.put, List.setIfInBounds_toArray, List.set_cons_zero, List.set_cons_succ]
                      refine takeE 10 (some 127) (.bool b20) rfl rfl (by kernel_rfl) (by kernel_rfl) (by kernel_rfl) (by kernel_rfl) (fun _ _ _ h => h) (by kernel_rfl) (fun w' hw' => by go_simp) hl8 ?_
                      simp only [Act.put, List.setIfInBounds_toArray, List.set_cons_zero, List.set_cons_succ]
                      refine takeE 11 (some 128) (.int .i64 ev) rfl rfl (by kernel_rfl) (by kernel_rfl) (by kernel_rfl) (by kernel_rfl) (fun _ _ _ h => h) (by kernel_rfl) (fun w' hw' => by go_simp) hl8 ?_
                      simp only [Act.put, List.setIfInBounds_toArray, List.set_cons_zero, List.set_cons_succ]
                      refine takeE 12 (some 15) (.bool b20) rfl rfl (by kernel_rfl) (by kernel_rfl) (by kernel_rfl) (by kernel_rfl) (fun _ _ _ h => h) (by kernel_rfl) (fun w' hw' => by go_simp) hl8 ?_
                      simp only [Act.put, List.setIfInBounds_toArray, List.set_cons_zero, List.set_cons_succ]
                      refine takeE 13 (some 16) (.int .i64 ev) rfl rfl (by kernel_rfl) (by kernel_rfl) (by kernel_rfl) (by kernel_rfl) (fun _ _ _ h => h) (by kernel_rfl) (fun w' hw' => by go_simp) hl8 ?_
                      simp only [Act.put, List.setIfInBounds_toArray, List.set_cons_zero, List.set_cons_succ]
                      refine doneE (by kernel_rfl) ?_ _
                      obtain ⟨ok4, hok4⟩ : ∃ ok4, ok4 = (ev == 0) := ⟨_, rfl⟩
                      have hok5 : (ev == 0) = ok4 := hok4.symm
                      have HF := Lib.hid (show _ ∧ _ ∧ _ ∧ _ ∧ _ from ⟨hr7.turn hr8 hu8 HB.out.2.2, hl8, hρ, hev, hok4⟩)
                      clear hud s0 hg61 hg62 hg63 hlie6 hu6 hr6 hl6 hu7 hl7 hr7 hr8 hρ hu8 hl8 hev hok4
                      have z3 : IntKind.i64.wrap ((j : Int) + 1) = (j : Int) + 1 := IntWalk.i64_in _ (by have := HJ.out; have := HK.out.1; have := HK.out.2; omega)
                      go_wp2
                      go_roundw
                      case rel =>
                        refine ⟨j + 1, ok4, by simp, rfl, Lib.hid ⟨_, ρ4, HF.out.1, HF.out.2.1, ?_⟩⟩
                        rw [HY.out.2.2, if_pos trivial, show k - j = (k - (j + 1)) + 1 by have := HJ.out; omega, knsS_succ, ← HD.out, HF.out.2.2.2.2, HF.out.2.2.2.1]
                        by_cases h0 : mayE acct a d = 0
                        · rw [if_pos h0, if_pos (by rw [h0]; rfl), HF.out.2.2.1 (by rw [HF.out.2.2.2.1]; exact h0)]
                        · rw [if_neg h0, if_neg (by simpa using h0)]
                      case measure => simp [intOf]; have := HJ.out; omega
                    · have HJ := Lib.hid hs3
                      clear hjl hs3
                      go_wp2
                      go_meet
                      exact ⟨true, rfl, HE3.out (.inr (.inl HJ.out))⟩
                · have hjI : decide (j < k) = false := by simpa using hjl
                  have HJ := Lib.hid hjl
                  clear hjl hy2
                  go_wp2
                  go_meet
                  exact ⟨ok3, rfl, HE3.out (.inl (by have := HJ.out; omega))⟩
            case rest =>
            obtain ⟨ok3, rfl, hC3⟩ := hcut
            obtain ⟨wq, hwq⟩ : ∃ X, wc = X := ⟨_, rfl⟩
            rw [hwq] at hC3 ⊢
            clear hwq HB2
            obtain ⟨s3, ρ3, hR3, hL3, hX3⟩ := hC3.out
            have e1 := hL3.first (by omega)
            have e2 := hL3.second (by omega)
            rw [← HS.out.1] at e1
            rw [← HS.out.2.1] at e2
            have H3 := Lib.hid (show _ ∧ _ ∧ _ from ⟨hR3, hL3, hX3⟩)
            clear hC3 hR3 hL3 hX3
            obtain ⟨ok6, hok6e⟩ : ∃ ok6, ok6 = (ok3 && decide (a.toNat < 8 ∧ (1 ≤ s.toNat ∧ s.toNat ≤ 3) ∧ 1 ≤ k)) := ⟨_, rfl⟩
            have H6 := Lib.hid hok6e
            go_upto_region 22 with fail
            go_cut [9] from 72 to 166 (fun s9 we => s9 = .bool ok6 ∧ we = wq)
            case first =>
              cases ok3 with
              | false =>
                have hok6 : ok6 = false := by rw [hok6e]; rfl
                have HOK6 := Lib.hid hok6
                clear hok6 hok6e
                go_wp2
                go_meet
                exact ⟨by rw [HOK6.out], rfl⟩
              | true =>
              by_cases g0 : a.toNat < 8
              · have g0I : decide (a.toNat < 8) = true := by simpa using g0
                have g0J : decide ((a.toNat : Int) < 8) = true := by simp; omega
                by_cases g1 : 1 ≤ s.toNat
                · have g1I : decide (1 ≤ s.toNat) = true := by simpa using g1
                  have g1J : decide (1 ≤ (s.toNat : Int)) = true := by simp; omega
                  by_cases g2 : s.toNat ≤ 3
                  · have g2I : decide (s.toNat ≤ 3) = true := by simpa using g2
                    have g2J : decide ((s.toNat : Int) ≤ 3) = true := by simp; omega
                    by_cases g3 : 1 ≤ k
                    · have g3I : decide (1 ≤ k) = true := by simpa using g3
                      have g3J : decide (1 ≤ (k : Int)) = true := by simp; omega
                      have hok6 : ok6 = true := by rw [hok6e]; simp [g0, g1, g2, g3]
                      have HOK6 := Lib.hid hok6
                      clear g0 g1 g2 g3 hok6 hok6e
                      go_wp2
                      go_meet
                      exact ⟨by rw [HOK6.out], rfl⟩
                    · have g3I : decide (1 ≤ k) = false := by simpa using g3
                      have g3J : decide (1 ≤ (k : Int)) = false := by simp; omega
                      have hok6 : ok6 = false := by rw [hok6e]; simp; omega
                      have HOK6 := Lib.hid hok6
                      clear g0 g1 g2 g3 hok6 hok6e
                      go_wp2
                      go_meet
                      exact ⟨by rw [HOK6.out], rfl⟩
                  · have g2I : decide (s.toNat ≤ 3) = false := by simpa using g2
                    have g2J : decide ((s.toNat : Int) ≤ 3) = false := by simp; omega
                    have hok6 : ok6 = false := by rw [hok6e]; simp; omega
                    have HOK6 := Lib.hid hok6
                    clear g0 g1 g2 hok6 hok6e
                    go_wp2
                    go_meet
                    exact ⟨by rw [HOK6.out], rfl⟩
                · have g1I : decide (1 ≤ s.toNat) = false := by simpa using g1
                  have g1J : decide (1 ≤ (s.toNat : Int)) = false := by simp; omega
                  have hok6 : ok6 = false := by rw [hok6e]; simp; omega
                  have HOK6 := Lib.hid hok6
                  clear g0 g1 hok6 hok6e
                  go_wp2
                  go_meet
                  exact ⟨by rw [HOK6.out], rfl⟩
              · have g0I : decide (a.toNat < 8) = false := by simpa using g0
                have g0J : decide ((a.toNat : Int) < 8) = false := by simp; omega
                have hok6 : ok6 = false := by rw [hok6e]; simp; omega
                have HOK6 := Lib.hid hok6
                clear g0 hok6 hok6e
                go_wp2
                go_meet
                exact ⟨by rw [HOK6.out], rfl⟩
            case rest =>
            obtain ⟨rfl, hw⟩ := hcut
            rw [hw]
            clear hw hok6e
            have z4 : IntKind.i64.wrap ((i : Int) + 1) = (i : Int) + 1 := IntWalk.i64_in _ (by have := HG.out.1; have := HL.out.2.2.2.1; have := HL.out.2.2.2.2; omega)
            have hlaw : refM xs = (X.bind fun q => if a.toNat < 8 ∧ (1 ≤ s.toNat ∧ s.toNat ≤ 3) ∧ 1 ≤ k then onesS acct (m - (i + 1)) (q.1.put a ((q.1 a).setSt s)) (some q.2) else none).bind (finR xs acct L) := by
              rw [HH.out.2.2, if_pos trivial, show m - i = (m - (i + 1)) + 1 by have := HG.out.1; omega, onesS_succ, ← HS.out.1, ← HS.out.2.1, ← HK.out.1, ← HS.out.2.2]
            have HLW := Lib.hid hlaw
            clear hlaw e1 e2
            cases ok6 with
            | false =>
              have hrf : refM xs = none := by
                rw [HLW.out, H3.out.2.2]
                have h6 := H6.out
                cases ok3 with
                | false => rfl
                | true =>
                  rw [Bool.true_and] at h6
                  have h7 := of_decide_eq_false h6.symm
                  simp only [if_neg h7, Option.bind_fun_none]
                  rfl
              have HRF := Lib.hid hrf
              clear hrf
              go_wp2
              go_roundw
              case rel =>
                refine ⟨i + 1, false, by simp, rfl, Lib.hid ⟨s3, ρ3, H3.out.1, fun q => absurd q (by simp), ?_⟩⟩
                rw [HRF.out]
                rfl
              case measure => simp [intOf]; have := HG.out.1; omega
            | true =>
              have h6 := H6.out.symm
              rw [Bool.and_eq_true, decide_eq_true_eq] at h6
              have hrf : refM xs = (onesS acct (m - (i + 1)) (ρ3.put a ((ρ3 a).setSt s)) s3).bind (finR xs acct L) := by
                rw [HLW.out, H3.out.2.2, if_pos h6.1]
                cases s3 with
                | none => rfl
                | some ys => simp only [Option.map_some, Option.bind_some, if_pos h6.2]
              have HRF := Lib.hid (show _ ∧ _ from ⟨hrf, h6.2⟩)
              have ha8 : (a.toNat : Int) < 8 := by have := h6.2.1; omega
              have ha0 : (0 : Int) ≤ (a.toNat : Int) := by omega
              clear hrf h6
              go_upto_region 24 with fail
              refine region_E (fun w' => LieAt w' gA oA (rZ 2 sz)) (fun _ => false) (by kernel_rfl) ?_
              have hud : Upd [] wq wq.drew := (Upd.refl [] wq).drew
              have s0 := H3.out.2.1.upd hud (by simp)
              refine takeE 0 (some 158) (.slice (some ⟨gA, oA, none⟩) 2 kA) rfl rfl (by kernel_rfl) (by kernel_rfl) (by kernel_rfl) (by kernel_rfl) (fun _ _ _ h => h) (by kernel_rfl) (fun w' hw' => by go_simp) s0 ?_
              simp only [Act.put, List.setIfInBounds_toArray, List.set_cons_zero, List.set_cons_succ]
              refine takeE 1 (some 159) (.pointer (some ⟨gA, oA, none⟩)) rfl rfl (by kernel_rfl) (by kernel_rfl) (by kernel_rfl) (by kernel_rfl) (fun _ _ _ h => h) (by kernel_rfl) (fun w' hw' => by go_simp) s0 ?_
              simp only [Act.put, List.setIfInBounds_toArray, List.set_cons_zero, List.set_cons_succ]
              refine takeE 2 (some 160) (.int .u8 (a.toNat : Int)) rfl rfl (by kernel_rfl) (by kernel_rfl) (by kernel_rfl) (by kernel_rfl) (fun _ _ _ h => h) (by kernel_rfl) (fun w' hw' => by have q := LieAt.first hw' (by omega); rw [← HS.out.1] at q; go_simp) s0 ?_
              simp only [Act.put, List.setIfInBounds_toArray, List.set_cons_zero, List.set_cons_succ]
              refine takeE 3 (some 161) (.slice (some ⟨gA, oA, none⟩) 2 kA) rfl rfl (by kernel_rfl) (by kernel_rfl) (by kernel_rfl) (by kernel_rfl) (fun _ _ _ h => h) (by kernel_rfl) (fun w' hw' => by go_simp) s0 ?_
              simp only [Act.put, List.setIfInBounds_toArray, List.set_cons_zero, List.set_cons_succ]
              refine takeE 4 (some 162) (.pointer (some ⟨gA, oA + 1, none⟩)) rfl rfl (by kernel_rfl) (by kernel_rfl) (by kernel_rfl) (by kernel_rfl) (fun _ _ _ h => h) (by kernel_rfl) (fun w' hw' => by go_simp) s0 ?_
              simp only [Act.put, List.setIfInBounds_toArray, List.set_cons_zero, List.set_cons_succ]
              refine takeE 5 (some 163) (.int .u8 (s.toNat : Int)) rfl rfl (by kernel_rfl) (by kernel_rfl) (by kernel_rfl) (by kernel_rfl) (fun _ _ _ h => h) (by kernel_rfl) (fun w' hw' => by have q := LieAt.second hw' (by omega); rw [← HS.out.2.1] at q; go_simp) s0 ?_
              simp only [Act.put, List.setIfInBounds_toArray, List.set_cons_zero, List.set_cons_succ]
              refine takeE 6 (some 164) (.pointer (some ⟨bb, 2, none⟩)) rfl rfl (by kernel_rfl) (by kernel_rfl) (by kernel_rfl) (by kernel_rfl) (fun _ _ _ h => h) (by kernel_rfl) (fun w' hw' => by go_simp) s0 ?_
              simp only [Act.put, List.setIfInBounds_toArray, List.set_cons_zero, List.set_cons_succ]
              refine takeE 7 (some 165) (.pointer (some ⟨bb, 2 + a.toNat * 133, none⟩)) rfl rfl (by kernel_rfl) (by kernel_rfl) (by kernel_rfl) (by kernel_rfl) (fun _ _ _ h => h) (by kernel_rfl) (fun w' hw' => by go_simp) s0 ?_
              simp only [Act.put, List.setIfInBounds_toArray, List.set_cons_zero, List.set_cons_succ]
              refine takeE 8 (some 166) (.pointer (some ⟨bb, 2 + a.toNat * 133 + 132, none⟩)) rfl rfl (by kernel_rfl) (by kernel_rfl) (by kernel_rfl) (by kernel_rfl) (fun _ _ _ h => h) (by kernel_rfl) (fun w' hw' => by go_simp) s0 ?_
              simp only [Act.put, List.setIfInBounds_toArray, List.set_cons_zero, List.set_cons_succ]
              refine oneE 9 (by kernel_rfl) ?_
              have hrq := H3.out.1.upd0 hud
              have hfr := hrq.ref.free (2 + a.toNat * 133 + 132)
              have hcl := hrq.ref.state a HRF.out.2.1
              unfold byteV at hcl
              have hset := hrq.ref.set1 a HRF.out.2.1 132 (by omega) (.int .u8 (s.toNat : Int)) ((ρ3 a).setSt s) (rcSt (ρ3 a) s)
              refine skipE none (wq.drew.setCell ⟨bb, 2 + a.toNat * 133 + 132, none⟩ (.int .u8 (s.toNat : Int))) rfl rfl (by kernel_rfl) (by go_simp) ?_
              obtain ⟨wr4, hwr4⟩ : ∃ X, wq.drew.setCell ⟨bb, 2 + a.toNat * 133 + 132, none⟩ (.int .u8 (s.toNat : Int)) = X := ⟨_, rfl⟩
              rw [hwr4] at hset ⊢
              clear hwr4
              have hl4 := s0.upd hset.2 (by have := HA.out.2.1; simpa using this)
              refine ⟨fun _ => hl4, ?_⟩
              simp only [Act.put]
              refine doneE (by kernel_rfl) ?_ _
              have HF := Lib.hid (hrq.turn hset.1 hset.2 HB.out.2.2)
              clear hud s0 hrq hfr hcl hset hl4
              go_wp2
              go_roundw
              case rel =>
                refine ⟨i + 1, true, by simp, rfl, Lib.hid ⟨s3, _, HF.out, fun _ _ => HG.out.2, ?_⟩⟩
                rw [if_pos rfl]
                exact HRF.out.1
              case measure => simp [intOf]; have := HG.out.1; omega
        · have HG := Lib.hid hs
          clear hlt hs
          go_wp2
          go_meet
          exact ⟨ok', rfl, HEND.out (.inr (.inl HG.out))⟩
      · have hltI : decide (i < m) = false := by simpa using hlt
        have HG := Lib.hid hlt
        clear hlt hx2
        go_wp2
        go_meet
        exact ⟨ok', rfl, HEND.out (.inl (by have := HG.out; omega))⟩
  case rest =>
  clear HR0 HF0
  obtain ⟨okf, rfl, hE⟩ := hcut
  obtain ⟨wq, hwq⟩ : ∃ X, wc = X := ⟨_, rfl⟩
  rw [hwq] at hE ⊢
  clear hwq
  obtain ⟨sE, ρ, hR, hF, hrf⟩ := hE.out
  obtain ⟨x, hx, hx2⟩ := hR.cut.cut
  have hx1 : wq.cell? ⟨p, 1, none⟩ = some (.int .i64 x) := cell_of_heap hx 1
  have HE := Lib.hid (show _ ∧ _ ∧ _ from ⟨hR, hF, hrf⟩)
  clear hE hR hF hrf hx
  go_upto_region 25 with fail
  go_cut [184] from 167 to 184 (fun s184 we => ∃ bad : Bool, s184 = .bool bad ∧ Hid (RefAt we bb acct v ρ ∧ we.ownsRow W2.heap.size 31 32 v L.length (L.flatMap keyCells) ∧ Upd [p, bb] W2 we ∧ refM xs = (if bad = true then none else some (acct, L, ρ)) ∧ (bad = false → 1 ≤ L.length)))
  case first =>
    cases okf with
    | false =>
      have hN : Hid (refM xs = none) := Lib.hid (by rw [HE.out.2.2]; rfl)
      clear hx2
      go_quiet (fail)
      go_wp2
      go_meet
      have hu := (Upd.refl [] wq).drewN nq
      refine ⟨true, rfl, Lib.hid ⟨HE.out.1.ref.upd hu (by simp), owns_upd HE.out.1.own hu (by simp), HE.out.1.upd.trans (hu.mono (by simp)), ?_, fun q => by cases q⟩⟩
      rw [hN.out]
      rfl
    | true =>
      by_cases hxe : x = (xs.length : Int)
      · have hsE : sE = some [] := by
          rcases hx2 with ⟨_, _, _, h⟩ | ⟨h, _⟩
          · exact h.1 hxe
          · omega
        have hL1 : 1 ≤ L.length := HE.out.2.1 rfl (by rw [hsE]; simp)
        have hrf : refM xs = if refB acct L ρ = xs then some (acct, L, ρ) else none := by
          rw [HE.out.2.2, hsE]
          simp [finR]
        obtain ⟨go, cap, hv⟩ : ∃ go cap, v = .slice (some ⟨go, 0, none⟩) L.length cap := owns_slice HE.out.1.own (by
          intro q
          have h2 := HE.out.1.own.2
          rcases h2 with ⟨_, h3⟩ | ⟨g', c', cur, h3, _⟩
          · omega
          · rw [q] at h3; cases h3)
        subst hv
        have hL4 := HL.out.1.len
        subst hxe
        have hud : Upd [] wq wq.drew := (Upd.refl [] wq).drew
        have hIn := HE.out.1.inp HB.out.2.2
        have hneI : decide ((xs.length : Int) = (xs.length : Int)) = true := by simp
        have HQ := Lib.hid (show _ ∧ _ ∧ _ from ⟨hL1, hrf, hIn⟩)
        clear hx2 hsE hL1 hrf hneI
        refine region_E (Upd [] wq) (fun _ => false) (by kernel_rfl) ?_
        have s0 := hud
        refine takeE 0 (some 167) (.bool true) rfl rfl (by kernel_rfl) (by kernel_rfl) (by kernel_rfl) (by kernel_rfl) (fun _ _ _ h => h) (by kernel_rfl) (fun w' hw' => by go_simp) s0 ?_
        simp only [Act.put, List.setIfInBounds_toArray, List.set_cons_zero, List.set_cons_succ]
        refine takeE 1 (some 168) (.bool false) rfl rfl (by kernel_rfl) (by kernel_rfl) (by kernel_rfl) (by kernel_rfl) (fun _ _ _ h => h) (by kernel_rfl) (fun w' hw' => by go_simp) s0 ?_
        simp only [Act.put, List.setIfInBounds_toArray, List.set_cons_zero, List.set_cons_succ]
        refine takeE 2 (some 169) (.bool false) rfl rfl (by kernel_rfl) (by kernel_rfl) (by kernel_rfl) (by kernel_rfl) (fun _ _ _ h => h) (by kernel_rfl) (fun w' hw' => by go_simp) s0 ?_
        simp only [Act.put, List.setIfInBounds_toArray, List.set_cons_zero, List.set_cons_succ]
        refine takeE 3 (some 170) (.pointer (some ⟨p, 0, none⟩)) rfl rfl (by kernel_rfl) (by kernel_rfl) (by kernel_rfl) (by kernel_rfl) (fun _ _ _ h => h) (by kernel_rfl) (fun w' hw' => by go_simp) s0 ?_
        simp only [Act.put, List.setIfInBounds_toArray, List.set_cons_zero, List.set_cons_succ]
        refine takeE 4 (some 171) (.pointer (some ⟨p, 0, none⟩)) rfl rfl (by kernel_rfl) (by kernel_rfl) (by kernel_rfl) (by kernel_rfl) (fun _ _ _ h => h) (by kernel_rfl) (fun w' hw' => by go_simp) s0 ?_
        simp only [Act.put, List.setIfInBounds_toArray, List.set_cons_zero, List.set_cons_succ]
        refine takeE 5 (some 172) (.pointer (some ⟨p, 1, none⟩)) rfl rfl (by kernel_rfl) (by kernel_rfl) (by kernel_rfl) (by kernel_rfl) (fun _ _ _ h => h) (by kernel_rfl) (fun w' hw' => by go_simp) s0 ?_
        simp only [Act.put, List.setIfInBounds_toArray, List.set_cons_zero, List.set_cons_succ]
        refine takeE 6 (some 173) (.int .i64 (xs.length : Int)) rfl rfl (by kernel_rfl) (by kernel_rfl) (by kernel_rfl) (by kernel_rfl) (fun _ _ _ h => h) (by kernel_rfl) (fun w' hw' => by have q := (cell_same (hw'.block p HE.out.1.cut.lt (by simp)) (o := 1)).trans hx1; go_simp) s0 ?_
        simp only [Act.put, List.setIfInBounds_toArray, List.set_cons_zero, List.set_cons_succ]
        refine takeE 7 (some 174) (.slice ad xs.length cx) rfl rfl (by kernel_rfl) (by kernel_rfl) (by kernel_rfl) (by kernel_rfl) (fun _ _ _ h => h) (by kernel_rfl) (fun w' hw' => by go_simp) s0 ?_
        simp only [Act.put, List.setIfInBounds_toArray, List.set_cons_zero, List.set_cons_succ]
        refine takeE 8 (some 175) (.int .i64 (xs.length : Int)) rfl rfl (by kernel_rfl) (by kernel_rfl) (by kernel_rfl) (by kernel_rfl) (fun _ _ _ h => h) (by kernel_rfl) (fun w' hw' => by go_simp) s0 ?_
        simp only [Act.put, List.setIfInBounds_toArray, List.set_cons_zero, List.set_cons_succ]
        refine takeE 9 (some 176) (.bool false) rfl rfl (by kernel_rfl) (by kernel_rfl) (by kernel_rfl) (by kernel_rfl) (fun _ _ _ h => h) (by kernel_rfl) (fun w' hw' => by go_simp) s0 ?_
        simp only [Act.put, List.setIfInBounds_toArray, List.set_cons_zero, List.set_cons_succ]
        refine takeE 10 (some 177) (.bool false) rfl rfl (by kernel_rfl) (by kernel_rfl) (by kernel_rfl) (by kernel_rfl) (fun _ _ _ h => h) (by kernel_rfl) (fun w' hw' => by go_simp) s0 ?_
        simp only [Act.put, List.setIfInBounds_toArray, List.set_cons_zero, List.set_cons_succ]
        refine takeE 11 (some 178) (.bool false) rfl rfl (by kernel_rfl) (by kernel_rfl) (by kernel_rfl) (by kernel_rfl) (fun _ _ _ h => h) (by kernel_rfl) (fun w' hw' => by go_simp) s0 ?_
        simp only [Act.put, List.setIfInBounds_toArray, List.set_cons_zero, List.set_cons_succ]
        refine takeE 14 (some 181) (.slice ad xs.length cx) rfl rfl (by kernel_rfl) (by kernel_rfl) (by kernel_rfl) (by kernel_rfl) (fun _ _ _ h => h) (by kernel_rfl) (fun w' hw' => by go_simp) s0 ?_
        simp only [Act.put, List.setIfInBounds_toArray, List.set_cons_zero, List.set_cons_succ]
        refine takeE 15 (some 182) (.string ⟨xs.toArray⟩) rfl rfl (by kernel_rfl) (by kernel_rfl) (by kernel_rfl) (by kernel_rfl) (fun _ _ _ h => h) (by kernel_rfl) (fun w' hw' => by have q := conv_in (hIn.upd hw' (by simp)); go_simp) s0 ?_
        simp only [Act.put, List.setIfInBounds_toArray, List.set_cons_zero, List.set_cons_succ]
        refine oneE 12 (by kernel_rfl) ?_
        have hr34 := (HE.out.1.upd0 hud).ref
        have ho34 := (HE.out.1.upd0 hud).own
        obtain ⟨g', c', hv', hrr⟩ : ∃ g' c', (Value.slice (some ⟨go, 0, none⟩) L.length cap) = .slice (some ⟨g', 0, none⟩) L.length c' ∧ ∀ j u, (L.flatMap keyCells)[j]? = some u → wq.drew.cell? ⟨g', 0 + j, none⟩ = some u := by
          refine ⟨go, cap, rfl, fun j u hj => ?_⟩
          rw [Nat.zero_add, ho34.cellAt j (by have := (List.getElem?_eq_some_iff.1 hj).1; rwa [flat_len] at this)]
          exact hj
        cases hv'
        refine callE (some 179) rfl rfl (by kernel_rfl) (f := 34) (args := #[.pointer (some ⟨bb, 0, none⟩)]) (by go_simp) (rbytes34 hr34 hrr hL4) ?_
        rintro e w34 ⟨v34, rfl, ho, hu34⟩
        have hs34 := hud.trans hu34
        refine ⟨_, rfl, fun _ => hs34, ?_⟩
        simp only [Act.put, List.setIfInBounds_toArray, List.set_cons_zero, List.set_cons_succ]
        have hcv := conv_owns ho
        refine oneE 13 (by kernel_rfl) ?_
        refine runE (some 180) w34 (.string ⟨(refB acct L ρ).toArray⟩) rfl rfl (by kernel_rfl) (by go_simp) ?_
        refine ⟨fun _ => hs34, ?_⟩
        simp only [Act.put, List.setIfInBounds_toArray, List.set_cons_zero, List.set_cons_succ]
        obtain ⟨bad, hbad⟩ : ∃ bad, bad = !decide (refB acct L ρ = xs) := ⟨_, rfl⟩
        have hnq : (refB acct L ρ == xs) = !bad := by
          rw [hbad]
          by_cases h : refB acct L ρ = xs <;> simp [h]
        have hbad2 := Lib.hid hbad
        clear hbad
        refine oneE 16 (by kernel_rfl) ?_
        refine runE (some 183) w34 (.bool bad) rfl rfl (by kernel_rfl) (by go_simp) ?_
        refine ⟨fun _ => hs34, ?_⟩
        simp only [Act.put, List.setIfInBounds_toArray, List.set_cons_zero, List.set_cons_succ]
        refine oneE 17 (by kernel_rfl) ?_
        refine runE (some 184) w34 (.bool bad) rfl rfl (by kernel_rfl) (by go_simp) ?_
        refine ⟨fun _ => hs34, ?_⟩
        simp only [Act.put, List.setIfInBounds_toArray, List.set_cons_zero, List.set_cons_succ]
        refine doneE (by kernel_rfl) ?_ _
        have HF := Lib.hid (show _ ∧ _ from ⟨hs34, hbad2.out⟩)
        clear hs34 hbad2 hu34 ho hr34 ho34 hrr s0 hud hIn hcv hnq
        go_wp2
        go_meet
        refine ⟨bad, rfl, Lib.hid ⟨HE.out.1.ref.upd HF.out.1 (by simp), owns_upd HE.out.1.own HF.out.1 (by simp), HE.out.1.upd.trans (HF.out.1.mono (by simp)), ?_, fun _ => HQ.out.1⟩⟩
        rw [HQ.out.2.1, HF.out.2]
        by_cases h : refB acct L ρ = xs <;> simp [h]
      · have hN : Hid (refM xs = none) := Lib.hid (by
          rw [HE.out.2.2, if_pos rfl]
          cases sE with
          | none => rfl
          | some ys =>
            have : ys ≠ [] := by
              rintro rfl
              rcases hx2 with ⟨_, _, _, h⟩ | ⟨_, h⟩
              · exact hxe (h.2 rfl)
              · cases h
            simp [finR, this])
        have hneI : (x != (xs.length : Int)) = true := by simpa using hxe
        have hneJ : (x == (xs.length : Int)) = false := by simpa using hxe
        clear hx2 hxe
        go_quiet (fail)
        go_wp2
        go_meet
        have hu := (Upd.refl [] wq).drewN nq
        refine ⟨true, rfl, Lib.hid ⟨HE.out.1.ref.upd hu (by simp), owns_upd HE.out.1.own hu (by simp), HE.out.1.upd.trans (hu.mono (by simp)), ?_, fun q => by cases q⟩⟩
        rw [hN.out]
        rfl
  case rest =>
  obtain ⟨bad, rfl, hZ⟩ := hcut
  obtain ⟨wz, hwz⟩ : ∃ X, wc = X := ⟨_, rfl⟩
  rw [hwz] at hZ ⊢
  clear hwz hx1
  have hresB : RefAt wz r 0 (.slice none 0 0) noneR := HB.out.2.2.res.upd hZ.out.2.2.1 (by have := HB.out.2.2.rp; have := HB.out.2.2.rb; simp; omega)
  have hupd : Upd [] w wz := HB.out.2.2.upd.trans' hZ.out.2.2.1 (by have := HB.out.2.2.pB; have := HB.out.2.2.bB; simp; omega)
  have HZ := Lib.hid (show _ ∧ _ ∧ _ from ⟨hresB, hupd, hZ.out⟩)
  clear hresB hupd hZ hx2
  cases bad with
  | true =>
    go_wp2_with (first
      | (refine wpList_runV rfl (some 185) rfl _ _ (run_exec_build37z _ _ rfl _) ?_)
      | (refine wpList_store_row rfl 37 (.tmp 2) (.tmp 185) rfl r (refCells 0 (.slice none 0 0) noneR).toArray rfl rfl 37 (refCells 0 (.slice none 0 0) noneR).toArray HZ.out.1 (size37c _ _ _) rfl (refCells_all _ _ _ rfl) ?_))
    have hb := setRow_heap wz r _ (refCells 0 (.slice none 0 0) noneR).toArray 37 (0, 0) HZ.out.1
    refine bodyPost_ret (results_cell_tmp_row rfl _ _ r 37 (refCells 0 (.slice none 0 0) noneR).toArray (0, 0) _ (.bool false) rfl rfl hb Tryz.underlying37 rfl (size37c _ _ _)) rfl ?_
    refine ⟨HZ.out.2.1.setRow (.inl HB.out.2.2.rB) _, ?_⟩
    rw [HZ.out.2.2.2.2.2.1]
    rfl
  | false =>
    obtain ⟨go, cap, hv⟩ : ∃ go cap, v = .slice (some ⟨go, 0, none⟩) L.length cap := owns_slice HZ.out.2.2.2.1 (by
      intro q
      have h2 := HZ.out.2.2.2.1.2
      have h4 := HZ.out.2.2.2.2.2.2 rfl
      rcases h2 with ⟨_, h3⟩ | ⟨g', c', cur, h3, _⟩
      · omega
      · rw [q] at h3; cases h3)
    subst hv
    go_wp2_with (first
      | (refine wpList_load_row rfl 37 (.tmp 5) rfl bb rfl 37 (refCells acct (.slice (some ⟨go, 0, none⟩) L.length cap) ρ).toArray (0, 0) _ HZ.out.2.2.1 Tryz.underlying37 rfl (size37c _ _ _) ?_)
      | (refine wpList_store_row rfl 37 (.tmp 2) (.tmp 186) rfl r (refCells acct (.slice (some ⟨go, 0, none⟩) L.length cap) ρ).toArray rfl rfl 37 (refCells 0 (.slice none 0 0) noneR).toArray HZ.out.1 (size37c _ _ _) (by rw [List.size_toArray, List.size_toArray, refCells_len, refCells_len]) (refCells_all _ _ _ rfl) ?_))
    have hb := setRow_heap wz r _ (refCells acct (.slice (some ⟨go, 0, none⟩) L.length cap) ρ).toArray 37 (0, 0) HZ.out.1
    refine bodyPost_ret (results_cell_tmp_row rfl _ _ r 37 (refCells acct (.slice (some ⟨go, 0, none⟩) L.length cap) ρ).toArray (0, 0) _ (.bool true) rfl rfl hb Tryz.underlying37 rfl (size37c _ _ _)) rfl ?_
    have hset : Upd [r] wz (wz.setRow r (refCells acct (.slice (some ⟨go, 0, none⟩) L.length cap) ρ).toArray) := (Upd.refl [r] wz).setRow (.inr (by simp)) _
    refine ⟨HZ.out.2.1.setRow (.inl HB.out.2.2.rB) _, ?_⟩
    rw [HZ.out.2.2.2.2.2.1]
    have hrW : r < W2.heap.size := lt_of_heap HB.out.2.2.res
    have ho := owns_upd HZ.out.2.2.2.1 hset (by simpa using hrW)
    refine ⟨go, cap, rfl, HL.out.1.len, ?_, fun j u hj => ?_⟩
    · have h1 := owns_block HZ.out.2.2.2.1 go rfl
      exact Nat.le_trans HB.out.2.2.upd.size h1
    · rw [Nat.zero_add, ho.cellAt j (by have := (List.getElem?_eq_some_iff.1 hj).1; rwa [flat_len] at this)]
      exact hj
end Go.Proofs.YtdbceafejbnebaaGreatDoor
