/- The law's alike: plain words. The law's alike. -/
import Derived.Test.YtdbceafejbnebaaGreatDoorM30
import Derived.Test.YtdbceafejbnebaaGreatDoorM12
import Derived.Test.YtdbceafejbnebaaGreatDoorM21
import Derived.Sort.CutIn
/-! The law's alike: plain words. -/
namespace Go.Proofs.YtdbceafejbnebaaGreatDoor
open Go Go.RowKit
/-- The device that came last. -/
def lastD (pre : List Kn) : Int := ((pre.getLast?).map fun x => (x.1.toNat : Int)).getD (-1)
theorem lastD_snoc (pre : List Kn) (x : Kn) : lastD (pre ++ [x]) = (x.1.toNat : Int) := by simp [lastD]
/-- What alike does not like of a key. -/
def BadK (kl : List K) (pre : List Kn) (x : Kn) : Prop := kl.length ≤ pre.length ∨ (x.1.toNat : Int) ≤ lastD pre ∨ kl[pre.length]? ≠ some x.2
theorem conKn_sorted (c : Con) : (conKn c).Pairwise fun x y => x.1.toNat < y.1.toNat := by
  unfold conKn conUpto
  rw [List.pairwise_filterMap]
  refine List.Pairwise.imp_of_mem ?_ (List.pairwise_lt_range (n := 4))
  intro i j hi hj hij x hx y hy
  rw [List.mem_range] at hi hj
  have h1 : x.1 = UInt8.ofNat i := by
    revert hx
    split
    · intro hx
      obtain ⟨z, _, rfl⟩ := Option.map_eq_some_iff.1 hx
      rfl
    · intro hx; cases hx
  have h2 : y.1 = UInt8.ofNat j := by
    revert hy
    split
    · intro hy
      obtain ⟨z, _, rfl⟩ := Option.map_eq_some_iff.1 hy
      rfl
    · intro hy; cases hy
  rw [h1, h2]
  simp
  omega
theorem knOf_sorted (m : Cs) (a : UInt8) : (knOf m a).Pairwise fun x y => x.1.toNat < y.1.toNat := by
  unfold knOf
  cases conOf m a with
  | none => exact List.Pairwise.nil
  | some c => exact conKn_sorted c
theorem good_prefix {kn pre : List Kn} {x : Kn} (hs : kn.Pairwise fun x y => x.1.toNat < y.1.toNat) (h : pre ++ [x] <+: kn) : ¬ BadK (kn.map (·.2)) pre x := by
  obtain ⟨t, rfl⟩ := h
  rintro (h | h | h)
  · simp at h
    omega
  · rcases List.eq_nil_or_concat pre with rfl | ⟨p2, z, rfl⟩
    · simp [lastD] at h
      omega
    · rw [List.concat_eq_append, lastD_snoc] at h
      rw [List.concat_eq_append, List.append_assoc, List.pairwise_append] at hs
      have h1 := hs.2.2 z (by simp) x (by simp)
      omega
  · apply h
    simp
theorem alike_kn {m : Cs} {ρ : Rb} (h : Alike (conOf m) ρ) (a : UInt8) : (if a.toNat < 8 then (rkn (ρ a)).map (·.2) else []) = (knOf m a).map (·.2) ∧ (if a.toNat < 8 then (rkn (ρ a)).length else 0) = ((knOf m a).map (·.2)).length := by
  have e : a.toNat < 8 → rkn (ρ a) = knOf m a := by
    intro _
    rw [h.same, rkn_toRC]
    rfl
  by_cases ha : a.toNat < 8
  · rw [if_pos ha, if_pos ha, e ha, List.length_map]
    exact ⟨rfl, rfl⟩
  · rw [if_neg ha, if_neg ha]
    have : knOf m a = [] := by
      unfold knOf
      cases hc : conOf m a with
      | none => rfl
      | some c => exact absurd (h.good a c hc).2.2 ha
    rw [this]
    exact ⟨rfl, rfl⟩
theorem alike_st {m : Cs} {ρ : Rb} (h : Alike (conOf m) ρ) (a : UInt8) : (if a.toNat < 8 then (ρ a).st else 0) = stOf m a := by
  rw [stOf_eq]
  unfold stM
  by_cases ha : a.toNat < 8
  · rw [if_pos ha, h.same]
    cases conOf m a <;> rfl
  · rw [if_neg ha]
    cases hc : conOf m a with
    | none => rfl
    | some c => exact absurd (h.good a c hc).2.2 ha
theorem loadM_own {xs : List UInt8} {acct : UInt8} {own : List K} {μ : Bk} (h : loadM xs = some (acct, own, μ)) : 1 ≤ own.length ∧ own.length ≤ 4 := by
  unfold loadM at h
  cases h1 : partsGo xs with
  | none => rw [h1] at h; cases h
  | some q =>
    rw [h1, Option.bind_some] at h
    split at h
    · rename_i hc
      have h4 := partsGo_own (a := q.1) (own := q.2.1) (l := q.2.2) h1
      cases h2 : onesM q.1 noneM q.2.2 with
      | none => rw [h2] at h; cases h
      | some μ' =>
        rw [h2, Option.bind_some] at h
        split at h
        · cases h
          exact ⟨setF_nil hc.2, Nat.le_trans (setF_len _) h4⟩
        · cases h
    · cases h
end Go.Proofs.YtdbceafejbnebaaGreatDoor
/-! The law's alike. -/
namespace Go.Proofs.YtdbceafejbnebaaGreatDoor
open Go Go.RowKit Go.Shelf
attribute [local go_sem] Oper.semAt_some
theorem wpAnyE_S {P : Program} {ops : Array Oper} {Q : Exit → Act → World → Prop} {md : Region.Mode} {S S' : World → Prop} {X : Nat → Bool} (h : ∀ w, S' w → S w) : ∀ (fuel : Nat) (listed : Array Bool) (a : Act) (w : World), wpAnyE P md ops Q S' X fuel listed a w → wpAnyE P md ops Q S X fuel listed a w
  | 0, _, _, _, q => q
  | fuel + 1, _, _, _, q => ⟨q.1, fun i hi => wpOp_mono (fun a' w' r => ⟨fun hx => h _ (r.1 hx), wpAnyE_S h fuel _ a' w' r.2⟩) (q.2 i hi)⟩
theorem quietIn_load_key {F : Fence} {n : Nat} {o : Oper} {a : Act} {w : World} {KK : Act → Prop} (x : Operand) (ho : o.op = .load 31 x)
    (g off : Nat) (v : K) (hx : a.eval x = .pointer (some ⟨g, off, none⟩)) (hr : w.rangeAt g off (keyCells v)) (h : KK (a.put o.dst (.agg (keyCells v).toArray))) :
    o.quietIn F n Tryz.prog a (fun w' => ∃ n, w' = w.drewN n) KK := by
  refine ⟨.agg (keyCells v).toArray, ?_, h⟩
  rintro w' ⟨n, rfl⟩
  have hrun := run_loadAt_mid (P := Tryz.prog) (w.drewN n) g off 31 (keyCells v) _ (World.rangeAt_drewN hr n) Tryz.underlying31 rfl (by rw [Tryz.size31, keyCells_len])
  unfold Oper.quietAtIn execOp
  simp only [ho, hx, Sem.run_bind, hrun, Result.andThen_ok, Sem.run_pure, Oper.quietUponIn]
  exact ⟨trivial, trivial⟩
/-- Between two rounds over the accounts. -/
def Rel7 (w : World) (T : Nat) (ds : List Deferred) (w' : World) : Prop :=
  Upd [] w w' ∧ (∀ d ∈ ds, ∃ D, w.heap.size ≤ D ∧ d = { target := .collected D, args := #[] } ∧ w'.heap[D]? = some (.deferred (some []))) ∧ ds.Nodup ∧ w'.heap[T]? = some (.cells #[.bool false] 4 (0, 0))
set_option maxHeartbeats 4000000 in
set_option maxRecDepth 100000 in
theorem alike7 {w : World} {b gb cb rb r go cap : Nat} {acct : UInt8} {own own2 : List K} {m : Cs} {ρ : Rb} (hB : BookAt w b gb cb rb acct own m) (hA : Alike (conOf m) ρ) (hr : RefAt w r acct (.slice (some ⟨go, 0, none⟩) own2.length cap) ρ)
    (hx : ∀ j u, (own2.flatMap keyCells)[j]? = some u → w.cell? ⟨go, 0 + j, none⟩ = some u) (ho : own = setF own2) (h1 : 1 ≤ own.length) (h4 : own.length ≤ 4) (h42 : own2.length ≤ 4) :
    Calls Tryz.prog 7 #[bookV b, .pointer (some ⟨r, 0, none⟩)] w fun e w' => e = .returned (.bool true) ∧ Upd [] w w' := by
  have HB := Lib.hid (show _ ∧ _ ∧ _ ∧ _ ∧ _ ∧ _ ∧ _ ∧ _ from ⟨hB, hA, hr, hx, ho, h1, h4, h42⟩)
  clear hB hA hr hx ho h1 h4 h42
  unfold bookV
  refine (callsIn_wide (n := 5)).1 (callsIn_of_wp_marks Tryz.func7 rfl trivial ?_ rfl)
  simp only [Tryz.ntmps7, List.size_toArray, List.length_cons, List.length_nil, Nat.reduceAdd, Nat.reduceSub, Array.replicate_succ, Array.replicate_zero, List.push_toArray, List.append_toArray, List.nil_append, List.cons_append]
  refine wpIn_wide.2 ?_
  go_wp2
  obtain ⟨T, hT⟩ : ∃ T, T = w.heap.size := ⟨_, rfl⟩
  have hT0 := heap_alloc_new w (Obj.cells #[Value.bool false] 4)
  rw [← hT] at hT0 ⊢
  refine wp_loop (fun a w' => ∃ (u5 u6 u7 u8 u12 u13 u14 u15 u16 u17 u18 u19 u52 u53 u54 u55 u56 u57 u58 u59 u60 u61 u62 u63 u64 u65 : Value) (k : Nat) (ds : List Deferred), a = ⟨#[.pointer (some ⟨b, 0, none⟩), .pointer (some ⟨r, 0, none⟩), undef, undef, .pointer (some ⟨T, 0, none⟩), u5, u6, u7, u8, undef, undef, .int .u8 (k : Int), u12, u13, u14, u15, u16, u17, u18, u19, undef, undef, undef, undef, undef, undef, undef, undef, undef, undef, undef, undef, undef, undef, undef, undef, undef, undef, undef, undef, undef, undef, undef, undef, undef, undef, undef, undef, undef, undef, undef, undef, u52, u53, u54, u55, u56, u57, u58, u59, u60, u61, u62, u63, u64, u65, undef, undef, undef, undef, undef, undef, undef], ds⟩ ∧ k ≤ 10 ∧ Hid (Rel7 w T ds w')) (fun a _ => 10 - (intOf (a.tmps.getD 11 undef)).toNat) ?start ?round
  case start =>
    refine ⟨undef, undef, undef, undef, undef, undef, undef, undef, undef, undef, undef, undef, undef, undef, undef, undef, undef, undef, undef, undef, undef, undef, undef, undef, undef, undef, 0, [], rfl, by omega, Lib.hid ⟨Upd.new w _, by simp, by simp, hT0⟩⟩
  case round =>
    rintro a w1 ⟨u5, u6, u7, u8, u12, u13, u14, u15, u16, u17, u18, u19, u52, u53, u54, u55, u56, u57, u58, u59, u60, u61, u62, u63, u64, u65, k, ds, rfl, hk, HR⟩
    have HT := Lib.hid hT
    clear hT hT0
    by_cases hlt : k < 10
    · have hltI : (k : Int) < 10 := by omega
      have hofk : byteV (UInt8.ofNat k) = .int .u8 (k : Int) := by
        unfold byteV
        have : (UInt8.ofNat k).toNat = k := by simp; omega
        rw [this]
      obtain ⟨kl, hkl⟩ : ∃ kl, kl = (knOf m (UInt8.ofNat k)).map (·.2) := ⟨_, rfl⟩
      have k35 : ∀ W, Upd [] w1 W → Calls Tryz.prog 35 #[.pointer (some ⟨r, 0, none⟩), .int .u8 (k : Int)] W fun e w' => ∃ v, e = .returned v ∧ w'.ownsRow W.heap.size 31 32 v kl.length (kl.flatMap keyCells) ∧ Upd [] W w' := by
        intro W hu
        have q := rkeys35 ((HB.out.2.2.1.upd HR.out.1 (by simp)).upd hu (by simp)) (UInt8.ofNat k)
        rw [(alike_kn HB.out.2.1 _).1, (alike_kn HB.out.2.1 _).2, ← hkl, hofk] at q
        exact q
      have h18 := fun W => keys18 (some ⟨b, 0, none⟩) (UInt8.ofNat k) W
      rw [hofk] at h18
      unfold keysV at h18
      have HK := Lib.hid (show _ ∧ _ ∧ _ ∧ _ from ⟨hofk, hkl, k35, h18⟩)
      clear hofk hkl k35 h18 hlt
      go_upto_region 7 with (go_at_call 35; refine (HK.out.2.2.1 _ ((Upd.new _ _).trans (Upd.new _ _))).mono ?_; rintro e w2 ⟨v, rfl, ho2, hu2⟩; obtain ⟨va, vn, vc, rfl⟩ := owns_isSl ho2; have H2 := Lib.hid (show _ ∧ _ from ⟨ho2, hu2⟩); clear ho2 hu2)
      have hvn : vn = kl.length := by
        rcases H2.out.1.2 with ⟨h1, h2⟩ | ⟨g', c', cur, h1, _⟩
        · cases h1; exact h2.symm
        · cases h1; rfl
      subst hvn
      obtain ⟨W1, hW1⟩ : ∃ X, (w2.alloc (Obj.cells #[Value.slice va kl.length vc] 28)).alloc (Obj.cells #[Value.int IntKind.i64 (-1)] 3) = X := ⟨_, rfl⟩
      have bA := H2.out.2.heap (heap_alloc2_old w1 (.cells #[.int .u8 (k : Int)] 5 (0, 0)) (.cells #[.int .i64 0] 3 (0, 0))) (by simp)
      have bN := H2.out.2.heap (heap_alloc2_new w1 (.cells #[.int .u8 (k : Int)] 5 (0, 0)) (.cells #[.int .i64 0] 3 (0, 0))) (by simp)
      have sz2 : w1.heap.size + 1 + 1 ≤ w2.heap.size := by have := H2.out.2.size; simpa using this
      have hu12 : Upd [] w1 w2 := ((Upd.new w1 _).trans (Upd.new _ _)).trans H2.out.2
      have hu21 : Upd [] w2 W1 := by rw [← hW1]; exact (Upd.new w2 _).trans (Upd.new _ _)
      have bL : W1.heap[w2.heap.size]? = some (.cells #[.slice va kl.length vc] 28 (0, 0)) := by rw [← hW1]; exact heap_alloc2_old w2 _ _
      have bE : W1.heap[w2.heap.size + 1]? = some (.cells #[.int .i64 (-1)] 3 (0, 0)) := by rw [← hW1]; exact heap_alloc2_new w2 _ _
      obtain ⟨A, hAe⟩ : ∃ A, A = w1.heap.size := ⟨_, rfl⟩
      obtain ⟨L, hLe⟩ : ∃ L, L = w2.heap.size := ⟨_, rfl⟩
      rw [hW1]
      rw [← hAe] at bA bN sz2 ⊢
      rw [← hLe] at bL bE sz2 ⊢
      have bA1 := hu21.heap bA (by simp)
      have bN1 := hu21.heap bN (by simp)
      have dA : W1.cell? ⟨A, 0, none⟩ = some (.int .u8 (k : Int)) := cell_of_heap bA1 0
      have hown1 := owns_upd H2.out.1 hu21 (by simp)
      have H3 := Lib.hid (show _ ∧ _ ∧ _ ∧ _ ∧ _ ∧ _ ∧ _ ∧ _ ∧ _ from ⟨bA1, bN1, bL, bE, hu12.trans hu21, sz2, hAe, hLe, hown1⟩)
      clear bA bN sz2 hu12 hu21 bL bE bA1 bN1 hAe hLe hown1 H2 hW1
      go_wp2_with (go_at_call 18; refine (HK.out.2.2.2 _).mono ?_; rintro e w3 ⟨rfl, rfl⟩)
      obtain ⟨W0, hW0⟩ : ∃ X, (W1.alloc (Obj.cells #[Value.pointer (some ⟨b, 0, none⟩)] 24)).alloc (Obj.cells #[Value.int IntKind.u8 (k : Int)] 5) = X := ⟨_, rfl⟩
      have hu01 : Upd [] W1 W0 := by rw [← hW0]; exact (Upd.new W1 _).trans (Upd.new _ _)
      have hs01 : W0.heap.size = W1.heap.size + 2 := by rw [← hW0]; simp
      have hb01 : W0.heap[W1.heap.size]? = some (.cells #[bookV b] 24 (0, 0)) := by rw [← hW0]; exact heap_alloc2_old W1 _ _
      have hb02 : W0.heap[W1.heap.size + 1]? = some (.cells #[byteV (UInt8.ofNat k)] 5 (0, 0)) := by rw [← hW0, HK.out.1]; exact heap_alloc2_new W1 _ _
      have hbook0 := (HB.out.1.upd0 HR.out.1).upd0 (H3.out.2.2.2.2.1.trans hu01)
      have bA0 := hu01.heap H3.out.1 (by simp)
      have bN0 := hu01.heap H3.out.2.1 (by simp)
      have bL0 := hu01.heap H3.out.2.2.1 (by simp)
      have bE0 := hu01.heap H3.out.2.2.2.1 (by simp)
      have own0 := owns_upd H3.out.2.2.2.2.2.2.2.2 hu01 (by simp)
      have hT0 : W0.heap[T]? = some (.cells #[.bool false] 4 (0, 0)) := (H3.out.2.2.2.2.1.trans hu01).heap HR.out.2.2.2 (by simp)
      have hTl := lt_of_heap HR.out.2.2.2
      have szs := H3.out.2.2.2.2.2
      rw [hW0]
      have H4 := Lib.hid (show _ ∧ _ ∧ _ ∧ _ ∧ _ ∧ _ ∧ _ from ⟨bA0, bN0, bL0, bE0, hu01, own0, hT0⟩)
      have HS := Lib.hid (show A + 1 + 1 ≤ L ∧ L + 1 < W0.heap.size ∧ T < A ∧ w.heap.size ≤ T from ⟨szs.1, lt_of_heap bE0, by have := szs.2.1; omega, by have := HT.out; omega⟩)
      clear hW0 hu01 hs01 bA0 bN0 bL0 bE0 own0 hT0 hTl szs dA
      refine (wpIn_wide (n := 5)).1 ?_
      refine wpIn_rangeFunc_ownH rfl (by omega) (gf := 53) (lb := #[.pointer (some ⟨W1.heap.size, 0, none⟩), .pointer (some ⟨W1.heap.size + 1, 0, none⟩)]) rfl trivial (enters_of Tryz.func53 (by kernel_rfl) rfl)
        (keys_stops 4 (by omega) W1.heap.size (W1.heap.size + 1) (UInt8.ofNat k) W0 hbook0 hb01 hb02) keepT_t (fun W l o o' _ h hc _ => keepT_b W l o o' h hc) (Below.refl _ _) (fun _ => rfl)
        (fun pre W => Upd [A + 1, L + 1] W0 W ∧ W.heap[A + 1]? = some (.cells #[.int .i64 (pre.length : Int)] 3 (0, 0)) ∧ W.heap[L + 1]? = some (.cells #[.int .i64 (lastD pre)] 3 (0, 0)))
        (fun _ pre _ => ∃ p x, pre = p ++ [x] ∧ BadK kl p x)
        (fun pre X Y row hs hg hr => by
          obtain ⟨q1, q2, q3⟩ := hs
          have hr2 : ∀ r, row = some r → ∃ o : Obj, X.heap[r]? = some o ∧ o.isCells = false := fun r e => (hr r e).2
          exact ⟨kept_upd q1 hg (fun r e => (hr r e).1), kept_cells hg hr2 q2, kept_cells hg hr2 q3⟩)
        (fun _ _ _ _ _ hs _ _ => hs)
        ⟨Upd.refl _ _, H4.out.2.1, H4.out.2.2.2.1⟩
        (fun x a' W => ∃ B3 B4 : Nat, W.heap[B3]? = some (.cells #[.int .u8 (k : Int), .int .u8 (x.1.toNat : Int)] 49 (0, 0)) ∧ W.heap[B4]? = some (.cells (keyCells x.2).toArray 31 (0, 0)) ∧ a' = { tmps := #[.pointer (some ⟨b, 0, none⟩), .pointer (some ⟨r, 0, none⟩), undef, undef, .pointer (some ⟨T, 0, none⟩), .pointer (some ⟨A, 0, none⟩), .pointer (some ⟨A + 1, 0, none⟩), .pointer (some ⟨L, 0, none⟩), .pointer (some ⟨L + 1, 0, none⟩), .pointer (some ⟨B3, 0, none⟩), .pointer (some ⟨B4, 0, none⟩), .int .u8 (k : Int), .bool true, .int .u8 (k : Int), .pointer (some ⟨r, 0, none⟩), .int .u8 (k : Int), .slice va kl.length vc, .pointer (some ⟨b, 0, none⟩), .int .u8 (k : Int), .func (.func 53) #[] #[.pointer (some ⟨W1.heap.size, 0, none⟩), .pointer (some ⟨W1.heap.size + 1, 0, none⟩)], .agg #[.int .u8 (k : Int), .int .u8 (x.1.toNat : Int)], .agg (keyCells x.2).toArray, undef, undef, undef, undef, undef, undef, undef, undef, undef, undef, undef, undef, undef, undef, undef, undef, undef, undef, undef, undef, undef, undef, undef, undef, undef, undef, undef, undef, undef, undef, u52, u53, u54, u55, u56, u57, u58, u59, u60, u61, u62, u63, u64, u65, undef, undef, undef, undef, undef, undef, undef], defers := [] })
        (fun x a' _ X Y row hs hg hr => by
          obtain ⟨B3, B4, q1, q2, q3⟩ := hs
          have hr2 : ∀ r, row = some r → ∃ o : Obj, X.heap[r]? = some o ∧ o.isCells = false := fun r e => (hr r e).2
          exact ⟨B3, B4, kept_cells hg hr2 q1, kept_cells hg hr2 q2, q3⟩)
        ?assign ?body ?done ?stop
      case assign =>
        intro l pre x W K hi hK
        have hz31 : ((W.alloc (.cells #[.int .u8 (k : Int), .int .u8 (x.1.toNat : Int)] 49)).alloc (.cells zc.toArray 31)).heap[W.heap.size + 1]? = some (.cells zc.toArray 31 (0, 0)) := heap_alloc2_new W _ _
        have HZ31 := Lib.hid hz31
        have hofk := HK.out.1
        clear hz31
        simp only [encKn, devV, hofk]
        unfold byteV
        clear hofk
        gi_wp2_with (first | (refine wpListIn_store_whole rfl 31 _ _ rfl (W.heap.size + 1) (keyCells x.2).toArray zc.toArray rfl rfl HZ31.out (by simp [keyCells_len, zc_len]) (size31 (keyCells_len x.2)) (keyCells_all x.2) ?_))
        have ha := setRow_heap ((W.alloc (.cells #[.int .u8 (k : Int), .int .u8 (x.1.toNat : Int)] 49)).alloc (.cells zc.toArray 31)) (W.heap.size + 1) zc.toArray (keyCells x.2).toArray 31 (0, 0) HZ31.out
        have hu2 : Upd [] W (((W.alloc (.cells #[.int .u8 (k : Int), .int .u8 (x.1.toNat : Int)] 49)).alloc (.cells zc.toArray 31)).setRow (W.heap.size + 1) (keyCells x.2).toArray) := ((Upd.new W _).trans (Upd.new _ _)).setRow (.inl (by omega)) _
        have hb : (((W.alloc (.cells #[.int .u8 (k : Int), .int .u8 (x.1.toNat : Int)] 49)).alloc (.cells zc.toArray 31)).setRow (W.heap.size + 1) (keyCells x.2).toArray).heap[W.heap.size]? = some (.cells #[.int .u8 (k : Int), .int .u8 (x.1.toNat : Int)] 49 (0, 0)) := by
          rw [setRow_other _ _ _ _ (by omega)]
          exact heap_alloc2_old W _ _
        obtain ⟨hi1, hi2, hi3⟩ := hi
        refine hK _ _ (keepsFrom_of_upd hu2 (by simp)) hu2.keepT0 ⟨hi1.trans (hu2.mono (by simp)), hu2.heap hi2 (by simp), hu2.heap hi3 (by simp)⟩ ⟨W.heap.size, W.heap.size + 1, hb, ha, rfl⟩
      case body =>
        rintro l pre x a' W hl _ ⟨hu, hN, hE⟩ ⟨B3, B4, h3, h4, rfl⟩ hlen
        have c6 : W.cell? ⟨A + 1, 0, none⟩ = some (.int .i64 (pre.length : Int)) := cell_of_heap hN 0
        have f6 := free_of_heap hN 0
        have c8 : W.cell? ⟨L + 1, 0, none⟩ = some (.int .i64 (lastD pre)) := cell_of_heap hE 0
        have f8 := free_of_heap hE 0
        have bT := hu.heap H4.out.2.2.2.2.2.2 (by have := HS.out; simp; omega)
        have c4 : W.cell? ⟨T, 0, none⟩ = some (.bool false) := cell_of_heap bT 0
        have f4 := free_of_heap bT 0
        have c5 : W.cell? ⟨A, 0, none⟩ = some (.int .u8 (k : Int)) := cell_of_heap (hu.heap H4.out.1 (by have := HS.out; simp; omega)) 0
        have c7 : W.cell? ⟨L, 0, none⟩ = some (.slice va kl.length vc) := cell_of_heap (hu.heap H4.out.2.2.1 (by have := HS.out; simp; omega)) 0
        have c90 : W.cell? ⟨B3, 0, none⟩ = some (.int .u8 (k : Int)) := cell_of_heap h3 0
        have c91 : W.cell? ⟨B3, 1, none⟩ = some (.int .u8 (x.1.toNat : Int)) := cell_of_heap h3 1
        have z1 : IntKind.i64.wrap (x.1.toNat : Int) = (x.1.toNat : Int) := IntWalk.i64_in _ (by have := UInt8.toNat_lt x.1; omega)
        have z2 : IntKind.i64.wrap ((pre.length : Int) + 1) = (pre.length : Int) + 1 := IntWalk.i64_in _ (by omega)
        have r4 : W.rangeAt B4 0 (keyCells x.2) := by
          intro j u hj
          rw [cell_of_heap h4, Nat.zero_add]
          simp only [List.getElem?_toArray]
          exact hj
        have HW := Lib.hid (show _ ∧ _ ∧ _ ∧ _ ∧ _ ∧ _ from ⟨hu, hN, hE, bT, r4, hlen⟩)
        clear hu hN hE bT h3 h4 r4 hlen
        have hbadpost : ∀ nq, BadK kl pre x → KeepsFrom W0.heap.size W ((W.drewN nq).setCell ⟨T, 0, none⟩ (.bool false)) ∧ ∃ p y, pre ++ [x] = p ++ [y] ∧ BadK kl p y := by
          intro nq hb
          refine ⟨keepsFrom_of_upd (S := [T]) (((Upd.refl [T] W).drewN nq).setCell (.inr (by simp)) _) (fun s hs => ?_), pre, x, rfl, hb⟩
          rw [List.mem_singleton] at hs
          subst hs
          exact ⟨_, _, _, HW.out.2.2.2.1⟩
        have HBP := Lib.hid hbadpost
        clear hbadpost
        by_cases h1 : kl.length ≤ pre.length
        · have d1 : decide (kl.length ≤ pre.length) = true := by simpa using h1
          have HG := Lib.hid h1
          clear h1
          dsimp only
          gi_upto_region 10 with fail
          refine wpIn_region_quiet_any (by kernel_rfl) (by kernel_rfl) (by kernel_rfl) ?_
          repeat (gi_big_quiet_step (fail))
          refine wpQuietIn_nil ?_
          intro w' hw'
          obtain ⟨nq, hw2⟩ := hw'
          subst hw2
          gi_wp2
          exact HBP.out nq (.inl HG.out)
        · have d1 : decide (kl.length ≤ pre.length) = false := by simpa using h1
          by_cases h2 : (x.1.toNat : Int) ≤ lastD pre
          · have d2 : decide ((x.1.toNat : Int) ≤ lastD pre) = true := by simpa using h2
            have HG := Lib.hid h2
            clear h1 h2
            dsimp only
            gi_upto_region 10 with fail
            refine wpIn_region_quiet_any (by kernel_rfl) (by kernel_rfl) (by kernel_rfl) ?_
            repeat (gi_big_quiet_step (fail))
            refine wpQuietIn_nil ?_
            intro w' hw'
            obtain ⟨nq, hw2⟩ := hw'
            subst hw2
            gi_wp2
            exact HBP.out nq (.inr (.inl HG.out))
          · have d2 : decide ((x.1.toNat : Int) ≤ lastD pre) = false := by simpa using h2
            have h1I : (pre.length : Int) < (kl.length : Int) := by omega
            have h1J : (0 : Int) ≤ (pre.length : Int) := by omega
            obtain ⟨gL, cL, hv, hrr⟩ := owns_range H4.out.2.2.2.2.2.1 pre.length (by omega)
            have hown0 := H4.out.2.2.2.2.2.1
            cases hv
            have hg1 : gL ≠ A + 1 := owns_ne hown0 H4.out.2.1 (by decide)
            have hg2 : gL ≠ L + 1 := owns_ne hown0 H4.out.2.2.2.1 (by decide)
            obtain ⟨y, hyr, hy⟩ : ∃ y : K, W.rangeAt gL (pre.length * 32) (keyCells y) ∧ kl[pre.length]? = some y := by
              refine ⟨_, ?_, List.getElem?_eq_getElem (by omega)⟩
              intro j v hj
              have q := hrr j v hj
              rw [cell_same (HW.out.1.block gL (World.block_lt_of_cell? W0 ⟨gL, pre.length * 32 + j, none⟩ q) (by simp; omega))]
              exact q
            have hq := neqK x.2 y
            obtain ⟨bd, hbd⟩ : ∃ bd, bd = (!decide (x.2 = y)) := ⟨_, rfl⟩
            rw [← hbd] at hq
            have HY := Lib.hid (show _ ∧ _ ∧ _ from ⟨hyr, hy, hbd⟩)
            clear h1 h2 hown0 hg1 hg2 hrr hyr hy hbd
            dsimp only
            gi_upto_region 10 with fail
            refine wpIn_region_quiet_any (by kernel_rfl) (by kernel_rfl) (by kernel_rfl) ?_
            iterate 18 (gi_big_quiet_want; gi_big_quiet_op; go_big_quiet_on)
            gi_big_quiet_want
            refine quietIn_load_key _ rfl B4 0 x.2 rfl HW.out.2.2.2.2.1 ?_
            go_big_quiet_on
            go_simp
            iterate 3 (gi_big_quiet_want; gi_big_quiet_op; go_big_quiet_on)
            gi_big_quiet_want
            refine quietIn_load_key _ rfl gL (pre.length * 32) y rfl HY.out.1 ?_
            go_big_quiet_on
            go_simp
            iterate 2 (gi_big_quiet_want; gi_big_quiet_op; go_big_quiet_on)
            refine wpQuietIn_nil ?_
            intro nq
            clear hq
            cases bd with
            | true =>
              gi_wp2
              refine HBP.out nq (.inr (.inr ?_))
              rw [HY.out.2.1]
              have h3 := HY.out.2.2
              intro q
              rw [Option.some.inj q] at h3
              simp at h3
            | false =>
              have hpost : KeepsFrom W0.heap.size W (((W.drewN nq).setCell ⟨L + 1, 0, none⟩ (.int .i64 (x.1.toNat : Int))).setCell ⟨A + 1, 0, none⟩ (.int .i64 ((pre.length : Int) + 1))) ∧ KeepT W (((W.drewN nq).setCell ⟨L + 1, 0, none⟩ (.int .i64 (x.1.toNat : Int))).setCell ⟨A + 1, 0, none⟩ (.int .i64 ((pre.length : Int) + 1))) ∧
                  Upd [A + 1, L + 1] W0 (((W.drewN nq).setCell ⟨L + 1, 0, none⟩ (.int .i64 (x.1.toNat : Int))).setCell ⟨A + 1, 0, none⟩ (.int .i64 ((pre.length : Int) + 1))) ∧
                  (((W.drewN nq).setCell ⟨L + 1, 0, none⟩ (.int .i64 (x.1.toNat : Int))).setCell ⟨A + 1, 0, none⟩ (.int .i64 ((pre.length : Int) + 1))).heap[A + 1]? = some (.cells #[.int .i64 ((pre ++ [x]).length : Int)] 3 (0, 0)) ∧
                  (((W.drewN nq).setCell ⟨L + 1, 0, none⟩ (.int .i64 (x.1.toNat : Int))).setCell ⟨A + 1, 0, none⟩ (.int .i64 ((pre.length : Int) + 1))).heap[L + 1]? = some (.cells #[.int .i64 (lastD (pre ++ [x]))] 3 (0, 0)) := by
                have hAL : A + 1 ≠ L + 1 := by have := HS.out; omega
                have hu : Upd [A + 1, L + 1] W (((W.drewN nq).setCell ⟨L + 1, 0, none⟩ (.int .i64 (x.1.toNat : Int))).setCell ⟨A + 1, 0, none⟩ (.int .i64 ((pre.length : Int) + 1))) := (((Upd.refl _ W).drewN nq).setCell (.inr (by simp)) _).setCell (.inr (by simp)) _
                have e1 : ((W.drewN nq).setCell ⟨L + 1, 0, none⟩ (.int .i64 (x.1.toNat : Int))).heap[A + 1]? = some (.cells #[.int .i64 (pre.length : Int)] 3 (0, 0)) := (Below.heap_setCell _ _ _ _ hAL).trans HW.out.2.1
                have e2 := heap_setCell_same (w := W.drewN nq) HW.out.2.2.1 0 (.int .i64 (x.1.toNat : Int))
                refine ⟨keepsFrom_of_upd hu (fun s hs => ?_), hu.keepT (fun s hs cs t fz hz => ?_), HW.out.1.trans hu, ?_, ?_⟩
                · simp only [List.mem_cons, List.not_mem_nil, or_false] at hs
                  rcases hs with rfl | rfl
                  · exact ⟨_, _, _, HW.out.2.1⟩
                  · exact ⟨_, _, _, HW.out.2.2.1⟩
                · simp only [List.mem_cons, List.not_mem_nil, or_false] at hs
                  rcases hs with rfl | rfl
                  · rw [HW.out.2.1] at hz; cases hz; decide
                  · rw [HW.out.2.2.1] at hz; cases hz; decide
                · rw [heap_setCell_same e1 0]
                  simp
                · rw [lastD_snoc]
                  exact (Below.heap_setCell _ _ _ _ (Ne.symm hAL)).trans e2
              have HPO := Lib.hid hpost
              have e1 : ((W.drewN nq).setCell ⟨L + 1, 0, none⟩ (.int .i64 (x.1.toNat : Int))).heap[A + 1]? = some (.cells #[.int .i64 (pre.length : Int)] 3 (0, 0)) := (Below.heap_setCell _ _ _ _ (show A + 1 ≠ L + 1 by have := HS.out; omega)).trans HW.out.2.1
              have e1c := cell_of_heap e1 0
              have e1f := free_of_heap e1 0
              simp only [List.getElem?_toArray, List.getElem?_cons_zero] at e1c
              clear hpost e1
              gi_wp2
              exact HPO.out
      case done =>
        rintro D ys W hD hys ⟨hu, hN, hE⟩ hK
        have hlen : ys.length = kl.length := by rw [HK.out.2.1, hys, List.length_map]
        rw [hlen] at hN
        have hAw : w.heap.size ≤ A := by have := HS.out; omega
        have huw : Upd [] w1 W := (H3.out.2.2.2.2.1.trans H4.out.2.2.2.2.1).trans' hu (by have h1 := H3.out.2.2.2.2.2.2.1; have h2 := H3.out.2.2.2.2.2.1; intro q hq; simp only [List.mem_cons, List.not_mem_nil, or_false] at hq; exact .inr (by omega))
        have huW : Upd [] w W := HR.out.1.trans huw
        have c6 : W.cell? ⟨A + 1, 0, none⟩ = some (.int .i64 (kl.length : Int)) := cell_of_heap hN 0
        have c5 : W.cell? ⟨A, 0, none⟩ = some (.int .u8 (k : Int)) := cell_of_heap (hu.heap H4.out.1 (by have := HS.out; simp; omega)) 0
        have c7 : W.cell? ⟨L, 0, none⟩ = some (.slice va kl.length vc) := cell_of_heap (hu.heap H4.out.2.2.1 (by have := HS.out; simp; omega)) 0
        have bT := hu.heap H4.out.2.2.2.2.2.2 (by have := HS.out; simp; omega)
        obtain ⟨st, hst⟩ : ∃ st, st = stOf m (UInt8.ofNat k) := ⟨_, rfl⟩
        have k14 : ∀ W', Upd [] W W' → Calls Tryz.prog 14 #[.pointer (some ⟨b, 0, none⟩), .int .u8 (k : Int)] W' fun e w' => e = .returned (.int .u8 (st.toNat : Int)) ∧ w' = W' := by
          intro W' h
          have q := state_book (HB.out.1.upd0 (huW.trans h)) (UInt8.ofNat k)
          rw [← hst, HK.out.1] at q
          exact q
        have k36 : ∀ W', Upd [] W W' → Calls Tryz.prog 36 #[.pointer (some ⟨r, 0, none⟩), .int .u8 (k : Int)] W' fun e w' => e = .returned (.int .u8 (st.toNat : Int)) ∧ w' = W' := by
          intro W' h
          have q := rstate36 (HB.out.2.2.1.upd (huW.trans h) (by simp)) (UInt8.ofNat k)
          rw [alike_st HB.out.2.1, ← hst, HK.out.1] at q
          exact q
        have hmarks : ∀ d ∈ ({ target := .collected D, args := #[] } : Deferred) :: ds, ∃ D', w.heap.size ≤ D' ∧ d = { target := .collected D', args := #[] } ∧ W.heap[D']? = some (.deferred (some [])) := by
          intro d hd
          rcases List.mem_cons.1 hd with rfl | hd
          · exact ⟨D, by have := HS.out; omega, rfl, hK⟩
          · obtain ⟨D', z1, z2, z3⟩ := HR.out.2.1 d hd
            exact ⟨D', z1, z2, huw.heap z3 (by simp)⟩
        have hnd : (({ target := .collected D, args := #[] } : Deferred) :: ds).Nodup := by
          rw [List.nodup_cons]
          refine ⟨?_, HR.out.2.2.1⟩
          intro hmem
          obtain ⟨D', z1, z2, z3⟩ := HR.out.2.1 _ hmem
          simp only [Deferred.mk.injEq, Target.collected.injEq, and_true] at z2
          have h1 := lt_of_heap z3
          have h2 := HS.out
          have h3 := H3.out.2.2.2.2.2.2.1
          omega
        have HM := Lib.hid (show Rel7 w T (({ target := .collected D, args := #[] } : Deferred) :: ds) W from ⟨huW, hmarks, hnd, bT⟩)
        have HC := Lib.hid (show _ ∧ _ ∧ _ from ⟨c5, c6, c7⟩)
        have H14 := Lib.hid (show _ ∧ _ from ⟨k14, k36⟩)
        have z3 : IntKind.u8.wrap ((k : Int) + 1) = (k : Int) + 1 := IntWalk.u8_in _ (by omega)
        clear hbook0 hb01 hb02 hu hN hE hK hlen huw huW bT k14 k36 hst hmarks hnd c5 c6 c7
        go_simp
        go_upto_region 14 with fail
        refine wp_region_noPanic ?_
        refine region_E (Upd [] W) (fun _ => false) (by kernel_rfl) ?_
        have s0 : Upd [] W W.drew := (Upd.refl [] W).drew
        refine takeE 0 (some 52) (.int .i64 (kl.length : Int)) rfl rfl (by kernel_rfl) (by kernel_rfl) (by kernel_rfl) (by kernel_rfl) (fun _ _ _ h => h) (by kernel_rfl) (fun w' hw' => by have q := (cell_same (hw'.block _ (World.block_lt_of_cell? W _ HC.out.2.1) (by simp))).trans HC.out.2.1; go_simp) s0 ?_
        simp only [Act.put, List.setIfInBounds_toArray, List.set_cons_zero, List.set_cons_succ]
        refine takeE 1 (some 53) (.slice va kl.length vc) rfl rfl (by kernel_rfl) (by kernel_rfl) (by kernel_rfl) (by kernel_rfl) (fun _ _ _ h => h) (by kernel_rfl) (fun w' hw' => by have q := (cell_same (hw'.block _ (World.block_lt_of_cell? W _ HC.out.2.2) (by simp))).trans HC.out.2.2; go_simp) s0 ?_
        simp only [Act.put, List.setIfInBounds_toArray, List.set_cons_zero, List.set_cons_succ]
        refine takeE 2 (some 54) (.int .i64 (kl.length : Int)) rfl rfl (by kernel_rfl) (by kernel_rfl) (by kernel_rfl) (by kernel_rfl) (fun _ _ _ h => h) (by kernel_rfl) (fun w' hw' => by go_simp) s0 ?_
        simp only [Act.put, List.setIfInBounds_toArray, List.set_cons_zero, List.set_cons_succ]
        refine takeE 3 (some 55) (.bool false) rfl rfl (by kernel_rfl) (by kernel_rfl) (by kernel_rfl) (by kernel_rfl) (fun _ _ _ h => h) (by kernel_rfl) (fun w' hw' => by go_simp) s0 ?_
        simp only [Act.put, List.setIfInBounds_toArray, List.set_cons_zero, List.set_cons_succ]
        refine takeE 4 (some 56) (.bool false) rfl rfl (by kernel_rfl) (by kernel_rfl) (by kernel_rfl) (by kernel_rfl) (fun _ _ _ h => h) (by kernel_rfl) (fun w' hw' => by go_simp) s0 ?_
        simp only [Act.put, List.setIfInBounds_toArray, List.set_cons_zero, List.set_cons_succ]
        refine takeE 5 (some 57) (.pointer (some ⟨b, 0, none⟩)) rfl rfl (by kernel_rfl) (by kernel_rfl) (by kernel_rfl) (by kernel_rfl) (fun _ _ _ h => h) (by kernel_rfl) (fun w' hw' => by go_simp) s0 ?_
        simp only [Act.put, List.setIfInBounds_toArray, List.set_cons_zero, List.set_cons_succ]
        refine takeE 6 (some 58) (.int .u8 (k : Int)) rfl rfl (by kernel_rfl) (by kernel_rfl) (by kernel_rfl) (by kernel_rfl) (fun _ _ _ h => h) (by kernel_rfl) (fun w' hw' => by have q := (cell_same (hw'.block _ (World.block_lt_of_cell? W _ HC.out.1) (by simp))).trans HC.out.1; go_simp) s0 ?_
        simp only [Act.put, List.setIfInBounds_toArray, List.set_cons_zero, List.set_cons_succ]
        refine takeE 8 (some 60) (.pointer (some ⟨r, 0, none⟩)) rfl rfl (by kernel_rfl) (by kernel_rfl) (by kernel_rfl) (by kernel_rfl) (fun _ _ _ h => h) (by kernel_rfl) (fun w' hw' => by go_simp) s0 ?_
        simp only [Act.put, List.setIfInBounds_toArray, List.set_cons_zero, List.set_cons_succ]
        refine takeE 9 (some 61) (.int .u8 (k : Int)) rfl rfl (by kernel_rfl) (by kernel_rfl) (by kernel_rfl) (by kernel_rfl) (fun _ _ _ h => h) (by kernel_rfl) (fun w' hw' => by have q := (cell_same (hw'.block _ (World.block_lt_of_cell? W _ HC.out.1) (by simp))).trans HC.out.1; go_simp) s0 ?_
        simp only [Act.put, List.setIfInBounds_toArray, List.set_cons_zero, List.set_cons_succ]
        refine oneE 7 (by kernel_rfl) ?_
        refine callE (some 59) rfl rfl (by kernel_rfl) (f := 14) (args := #[.pointer (some ⟨b, 0, none⟩), .int .u8 (k : Int)]) (by go_simp) (H14.out.1 _ s0) ?_
        rintro e w5 ⟨rfl, rfl⟩
        refine ⟨_, rfl, fun _ => s0, ?_⟩
        simp only [Act.put, List.setIfInBounds_toArray, List.set_cons_zero, List.set_cons_succ]
        refine oneE 10 (by kernel_rfl) ?_
        refine callE (some 62) rfl rfl (by kernel_rfl) (f := 36) (args := #[.pointer (some ⟨r, 0, none⟩), .int .u8 (k : Int)]) (by go_simp) (H14.out.2 _ s0) ?_
        rintro e w5 ⟨rfl, rfl⟩
        refine ⟨_, rfl, fun _ => s0, ?_⟩
        simp only [Act.put, List.setIfInBounds_toArray, List.set_cons_zero, List.set_cons_succ]
        refine oneE 11 (by kernel_rfl) ?_
        refine runE (some 63) W.drew (.bool false) rfl rfl (by kernel_rfl) (by go_simp) ?_
        refine ⟨fun _ => s0, ?_⟩
        simp only [Act.put, List.setIfInBounds_toArray, List.set_cons_zero, List.set_cons_succ]
        refine oneE 12 (by kernel_rfl) ?_
        refine runE (some 64) W.drew (.bool false) rfl rfl (by kernel_rfl) (by go_simp) ?_
        refine ⟨fun _ => s0, ?_⟩
        simp only [Act.put, List.setIfInBounds_toArray, List.set_cons_zero, List.set_cons_succ]
        refine doneE (by kernel_rfl) ?_ _
        simp only [NoPanic]
        go_wp2
        refine ⟨?_, by simp [intOf]; omega⟩
        exact ⟨_, _, _, _, _, _, _, _, _, _, _, _, _, _, _, _, _, _, _, _, _, _, _, _, _, _, k + 1, _, rfl, by omega, Lib.hid ⟨HM.out.1.drew, HM.out.2.1, HM.out.2.2.1, HM.out.2.2.2⟩⟩
      case stop =>
        rintro D c pre W _ hpre ⟨p, x, rfl, hbad⟩ _
        rw [HK.out.2.1] at hbad
        exact absurd hbad (good_prefix (knOf_sorted m _) hpre)
    · obtain rfl : k = 10 := by omega
      clear hlt hk
      have hbk := HB.out.1.upd0 HR.out.1
      have hrf := HB.out.2.2.1.upd HR.out.1 (by simp)
      obtain ⟨bs, hbs⟩ : ∃ bs, bs = bookB acct own m := ⟨_, rfl⟩
      have hbs2 : refB acct own2 ρ = bs := by rw [hbs, bookB_eq, refB_eq HB.out.2.1, ← HB.out.2.2.2.2.1]
      have k8 : ∀ W', Upd [] w1 W' → Calls Tryz.prog 8 #[.pointer (some ⟨b, 0, none⟩)] W' fun e w' => ∃ h c, e = .returned (.slice (some ⟨h, 0, none⟩) bs.length c) ∧ w'.ownsRow W'.heap.size 5 1 (.slice (some ⟨h, 0, none⟩) bs.length c) bs.length (bs.map byteV) ∧ Upd [] W' w' := by
        intro W' h
        have q := bytes_book (hbk.upd0 h) HB.out.2.2.2.2.2.1 HB.out.2.2.2.2.2.2.1
        rw [← hbs] at q
        exact q
      have k34 : ∀ W', Upd [] w1 W' → Calls Tryz.prog 34 #[.pointer (some ⟨r, 0, none⟩)] W' fun e w' => ∃ v, e = .returned v ∧ w'.ownsRow W'.heap.size 5 1 v bs.length (bs.map byteV) ∧ Upd [] W' w' := by
        intro W' h
        have hw : Upd [] w W' := HR.out.1.trans h
        have q := rbytes34 (hrf.upd h (by simp)) (fun j u hj => by
          have z := HB.out.2.2.2.1 j u hj
          rw [cell_same (hw.block go (World.block_lt_of_cell? w ⟨go, 0 + j, none⟩ z) (by simp))]
          exact z) HB.out.2.2.2.2.2.2.2
        rw [hbs2] at q
        exact q
      have HQ := Lib.hid (show _ ∧ _ from ⟨k8, k34⟩)
      clear hbk hrf hbs hbs2 k8 k34
      go_upto_region 17 with fail
      refine wp_region_noPanic ?_
      refine region_E (Upd [] w1) (fun j => j == 7) (by kernel_rfl) ?_
      have s0 : Upd [] w1 w1.drew := (Upd.refl [] w1).drew
      refine takeE 0 (some 66) (.pointer (some ⟨b, 0, none⟩)) rfl rfl (by kernel_rfl) (by kernel_rfl) (by kernel_rfl) (by kernel_rfl) (fun _ _ _ h => h) (by kernel_rfl) (fun w' hw' => by go_simp) s0 ?_
      simp only [Act.put, List.setIfInBounds_toArray, List.set_cons_zero, List.set_cons_succ]
      refine takeE 3 (some 69) (.pointer (some ⟨r, 0, none⟩)) rfl rfl (by kernel_rfl) (by kernel_rfl) (by kernel_rfl) (by kernel_rfl) (fun _ _ _ h => h) (by kernel_rfl) (fun w' hw' => by go_simp) s0 ?_
      simp only [Act.put, List.setIfInBounds_toArray, List.set_cons_zero, List.set_cons_succ]
      refine oneE 1 (by kernel_rfl) ?_
      refine callE (some 67) rfl rfl (by kernel_rfl) (f := 8) (args := #[.pointer (some ⟨b, 0, none⟩)]) (by go_simp) (HQ.out.1 _ s0) ?_
      rintro e w2 ⟨h8, c8, rfl, ho8, hu8⟩
      have s2 := s0.trans hu8
      refine ⟨_, rfl, fun _ => s2, wpAnyE_S (S' := Upd [] w2) (fun _ h => s2.trans h) _ _ _ _ ?_⟩
      simp only [Act.put, List.setIfInBounds_toArray, List.set_cons_zero, List.set_cons_succ]
      have s2r := Upd.refl [] w2
      refine takeE 2 (some 68) (.string ⟨bs.toArray⟩) rfl rfl (by kernel_rfl) (by kernel_rfl) (by kernel_rfl) (by kernel_rfl) (fun _ _ _ h => h) (by kernel_rfl) (fun w' hw' => by have q := conv_owns (owns_upd ho8 hw' (by simp)); go_simp) s2r ?_
      simp only [Act.put, List.setIfInBounds_toArray, List.set_cons_zero, List.set_cons_succ]
      refine oneE 4 (by kernel_rfl) ?_
      refine callE (some 70) rfl rfl (by kernel_rfl) (f := 34) (args := #[.pointer (some ⟨r, 0, none⟩)]) (by go_simp) (HQ.out.2 _ s2) ?_
      rintro e w3 ⟨v34, rfl, ho34, hu34⟩
      refine ⟨_, rfl, fun _ => hu34, ?_⟩
      simp only [Act.put, List.setIfInBounds_toArray, List.set_cons_zero, List.set_cons_succ]
      have q34 := conv_owns ho34
      refine oneE 5 (by kernel_rfl) ?_
      refine runE (some 71) w3 (.string ⟨bs.toArray⟩) rfl rfl (by kernel_rfl) (by go_simp) ?_
      refine ⟨fun _ => hu34, ?_⟩
      simp only [Act.put, List.setIfInBounds_toArray, List.set_cons_zero, List.set_cons_succ]
      clear q34
      refine oneE 6 (by kernel_rfl) ?_
      refine runE (some 72) w3 (.bool true) rfl rfl (by kernel_rfl) (by go_simp) ?_
      refine ⟨fun _ => hu34, ?_⟩
      simp only [Act.put, List.setIfInBounds_toArray, List.set_cons_zero, List.set_cons_succ]
      have s3 := s2.trans hu34
      have bT := s3.heap HR.out.2.2.2 (by simp)
      have cT := cell_of_heap bT 0
      have fT := free_of_heap bT 0
      simp only [List.getElem?_toArray, List.getElem?_cons_zero] at cT
      refine oneE 7 (by kernel_rfl) ?_
      refine skipE none (w3.setCell ⟨T, 0, none⟩ (.bool true)) rfl rfl (by kernel_rfl) (by go_simp) ?_
      refine ⟨fun q => absurd q (by decide), ?_⟩
      simp only [Act.put]
      refine doneE (by kernel_rfl) ?_ _
      simp only [NoPanic]
      have HF := Lib.hid (show _ ∧ _ from ⟨s3, bT⟩)
      clear s0 s2 s2r ho8 hu8 ho34 hu34 s3 bT cT fT
      go_wp2
      have hs := heap_setCell_same HF.out.2 0 (.bool true)
      have hall : Upd [] w (w3.setCell ⟨T, 0, none⟩ (.bool true)) := (HR.out.1.trans HF.out.1).setCell (.inl (by have := HT.out; show w.heap.size ≤ T; omega)) _
      refine leaves_marks (B := w.heap.size) _ (w3.setCell ⟨T, 0, none⟩ (.bool true)) (fun d hd => by
        obtain ⟨D, z1, z2, z3⟩ := HR.out.2.1 d hd
        refine ⟨D, z1, z2, ?_⟩
        have hDT : D ≠ T := by
          intro e
          subst e
          rw [HR.out.2.2.2] at z3
          cases z3
        exact (Below.heap_setCell _ _ _ _ hDT).trans (HF.out.1.heap z3 (by simp))) HR.out.2.2.1 ?_
      intro w' a1 a2 a3 a4 a5 a6
      exact ⟨_, results_cell_one rfl _ w' T (.bool true) rfl (cell_of_heap (a2 _ _ hs rfl) 0) (Tryz.isAgg4 w'), rfl, ⟨a3.trans hall.os, a4.trans hall.tape, a5.trans hall.output, Nat.le_trans hall.size a6, fun q hq hS => (a1 q hq).trans (hall.block q hq hS)⟩⟩
end Go.Proofs.YtdbceafejbnebaaGreatDoor
