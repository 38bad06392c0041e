/- No book: what its methods answer; the law's own keys and devices. trust.Load of nothing. The law's own calls: the chapter's rows. known: the chapter's rows hold. -/
import Derived.Test.YtdbceafejbnebaaGreatDoorM19
import Derived.Test.YtdbceafejbnebaaGreatDoorM12
/-! No book: what its methods answer; the law's own keys and devices. -/
namespace Go.Proofs.YtdbceafejbnebaaGreatDoor
open Go Go.RowKit
theorem bytes_nil (w : World) : Calls Tryz.prog 8 #[.pointer none] w fun e w' => e = .returned (.slice none 0 0) ∧ w' = w := by
  go_enter Tryz.func8, Tryz.ntmps8
  go_wp2
  go_ret
  exact ⟨rfl, rfl⟩
theorem number_nil (a : UInt8) (w : World) : Calls Tryz.prog 13 #[.pointer none, byteV a] w fun e w' => e = .returned (.tuple #[.string ⟨#[]⟩, .int .i64 1]) ∧ w' = w := by
  unfold byteV
  go_enter Tryz.func13, Tryz.ntmps13
  go_wp2
  refine bodyPost_ret (results_tmp2 rfl _ _ _) rfl ?_
  exact ⟨rfl, rfl⟩
theorem verify_nil (a : UInt8) (s : ByteArray) (w : World) : Calls Tryz.prog 15 #[.pointer none, byteV a, .string s] w fun e w' => e = .returned (.int .i64 1) ∧ w' = w := by
  have h := number_nil a w
  unfold byteV at *
  go_enter Tryz.func15, Tryz.ntmps15
  go_wp2_with (go_at_call 13; refine h.mono ?_; rintro e w1 ⟨rfl, rfl⟩)
  go_ret
  exact ⟨rfl, rfl⟩
theorem accept_nil (a : UInt8) (w : World) : Calls Tryz.prog 17 #[.pointer none, byteV a] w fun e w' => e = .returned (.int .i64 1) ∧ w' = w := by
  unfold byteV at *
  go_enter Tryz.func17, Tryz.ntmps17
  go_wp2
  go_ret
  exact ⟨rfl, rfl⟩
theorem forget_nil (a d : UInt8) (w : World) : Calls Tryz.prog 19 #[.pointer none, devV a d] w fun e w' => e = .returned (.int .i64 1) ∧ Upd [] w w' := by
  have h := fun W => may_nil a d W
  unfold devV byteV at *
  go_enter Tryz.func19, Tryz.ntmps19
  go_wp2_with (go_at_call 47; refine (h _).mono ?_; clear h; rintro e w1 ⟨rfl, hu1⟩)
  go_ret
  exact ⟨rfl, (Upd.new w _).trans hu1⟩
/-- A key of a byte. -/
def keyOf (b : UInt8) : K := ⟨b :: List.replicate 31 0, by simp⟩
theorem run_build31 (b : UInt8) (w : World) : (Instr.build 31 #[(0, .int .u8 (b.toNat : Int))]).run Tryz.prog w = .ok (.agg (keyCells (keyOf b)).toArray) w := by
  simp only [Instr.build, Sem.run_bind, zero31, run_underlying Tryz.underlying31, Result.andThen_ok, Tryz.sizeOf5]
  rw [fill_cons (off := 0) (size := 1) (cs := [byteV b]) rfl rfl (by simp [Value.cells, keyCells_len]) _ rfl, Instr.fill]
  simp only [Value.cells, List.toList_toArray]
  rfl
set_option maxHeartbeats 400000 in
set_option maxRecDepth 100000 in
theorem key10 (b : UInt8) (w : World) : Calls Tryz.prog 10 #[byteV b] w fun e w' => e = .returned (.agg (keyCells (keyOf b)).toArray) ∧ Upd [] w w' := by
  have hrb := run_build31 b
  generalize keyOf b = kb at hrb ⊢
  have hU := Upd.new w (.cells zc.toArray 31)
  have hB := alloc_heap w (.cells zc.toArray 31)
  unfold byteV
  go_enter Tryz.func10, Tryz.ntmps10
  go_upto_region 1 with fail
  change Code.wp _ _ _ _ (w.alloc (.cells zc.toArray 31))
  generalize w.alloc (.cells zc.toArray 31) = w1 at hB hU ⊢
  have HB := Lib.hid (show _ ∧ _ from ⟨hB, hU⟩)
  clear hB hU
  go_wp2_with (first
    | (refine wpList_build1 rfl 31 0 (.tmp 3) rfl (.int .u8 (b.toNat : Int)) (.agg (keyCells kb).toArray) rfl (hrb _) ?_)
    | (refine wpList_store_row rfl 31 (.tmp 2) (.tmp 4) rfl w.heap.size (keyCells kb).toArray rfl rfl 31 zc.toArray HB.out.1 (size31 (keyCells_len _)) (by simp [keyCells_len, zc_len]) (keyCells_all _) ?_))
  have hb := setRow_heap w1 w.heap.size zc.toArray (keyCells kb).toArray 31 (0, 0) HB.out.1
  refine bodyPost_ret (results_cell_row rfl _ _ _ 31 (keyCells kb).toArray (0, 0) _ rfl hb Tryz.underlying31 rfl (size31 (keyCells_len _))) rfl ?_
  exact ⟨rfl, HB.out.2.setRow (.inl (Nat.le_refl _)) _⟩
theorem dev12 (a d : UInt8) (w : World) : Calls Tryz.prog 12 #[byteV a, byteV d] w fun e w' => e = .returned (devV a d) ∧ Upd [] w w' := by
  unfold byteV
  go_enter Tryz.func12, Tryz.ntmps12
  go_wp2
  refine bodyPost_ret (results_cell_row rfl _ _ _ 49 #[byteV a, byteV d] (0, 0) _ rfl (heap_alloc_new w _) Tryz.underlying49 rfl (by kernel_rfl)) rfl ?_
  exact ⟨rfl, Upd.new w _⟩
end Go.Proofs.YtdbceafejbnebaaGreatDoor
/-! trust.Load of nothing. -/
namespace Go.Proofs.YtdbceafejbnebaaGreatDoor
open Go Go.RowKit
theorem newIn_nil (w : World) : Calls Tryz.prog 20 #[.slice none 0 0] w fun e w' => ∃ p g, e = .returned (.pointer (some ⟨p, 0, none⟩)) ∧ w.heap.size ≤ p ∧ w.heap.size ≤ g ∧ Upd [] w w' ∧ IsIn w' p g (some []) := by
  go_enter Tryz.func20, Tryz.ntmps20
  go_wp2
  go_ret
  have n1 := heap_alloc_new w (.cells #[] 5)
  have s1 : (w.alloc (.cells #[] 5)).heap.size = w.heap.size + 1 := by simp
  have n2 := heap_alloc_new (w.alloc (.cells #[] 5)) (.cells #[.slice (some ⟨w.heap.size, 0, none⟩) 0 0, .bool false] 115)
  rw [s1] at n2
  refine ⟨w.heap.size + 1, w.heap.size, rfl, by omega, Nat.le_refl _, (Upd.new w _).trans (Upd.new _ _), by omega, _, n2, 0, 0, #[], (0, 0), rfl, by simp, by simp, (Upd.new _ _).heap n1 (by simp), ?_⟩
  intro j hj
  simp at hj
theorem load_nil (w : World) : Calls Tryz.prog 5 #[.slice none 0 0] w fun e w' => e = .returned (.tuple #[.pointer none, .int .i64 9]) ∧ Upd [] w w' := by
  have k20 := newIn_nil w
  go_enter Tryz.func5, Tryz.ntmps5
  go_upto_if 26 with (first
    | (go_at_call 20; refine k20.mono ?_; clear k20; rintro e w1 ⟨p, g, rfl, hp, hg, u1, i1⟩; have k21 := u8_any p g (some []) w1 i1; have H1 := Lib.hid (show _ ∧ _ ∧ _ ∧ _ ∧ _ from ⟨hp, hg, u1, i1.glt, i1.lt⟩); clear hp hg u1 i1)
    | (go_at_call 21; refine k21.mono ?_; clear k21; rintro e w2 ⟨c, rfl, u2, i2, hc⟩; have k22 := takeKeys_any p g 4 _ w2 i2 (Nat.lt_of_lt_of_le H1.out.2.2.2.1 u2.size) (by omega); have H2 := Lib.hid (show _ ∧ _ from ⟨u2, hc⟩); clear u2 hc i2)
    | (go_at_call 22; refine k22.mono ?_; clear k22; rintro e w3 ⟨v6, rfl, u3, i3, h6⟩; have k24 := takeOnes_any p g 8 _ w3 i3 (Nat.lt_of_lt_of_le (Nat.lt_of_lt_of_le H1.out.2.2.2.1 H2.out.1.size) u3.size) (by omega); have H3 := Lib.hid (show _ ∧ _ from ⟨u3, h6⟩); clear u3 h6 i3)
    | (go_at_call 24; refine k24.mono ?_; clear k24; rintro e w4 ⟨v7, rfl, ⟨a7, n7, c7, rfl⟩, u4, i4, h7⟩; have H4 := Lib.hid (show _ ∧ _ from ⟨u4, h7⟩); have k28 := end28 p g ((st3 []).map (·.2)) w4 i4; clear u4 h7 i4)
    | (go_at_call 28; refine k28.mono ?_; clear k28; rintro e _ ⟨ev, rfl, rfl, hev⟩; have HEV := Lib.hid hev; clear hev))
  have hu4 : Upd [] w w4 := by
    obtain ⟨hp, hg, u1, _⟩ := H1.out
    refine ((u1.trans' H2.out.1 ?_).trans' H3.out.1 ?_).trans' H4.out.1 ?_ <;> (intro y hy; rw [List.mem_singleton] at hy; subst hy; exact .inr hp)
  have HU4 := Lib.hid hu4
  clear hu4
  rcases HEV.out with ⟨he, hst⟩ | ⟨he, hst⟩
  · exfalso
    obtain ⟨a, own, l, r, e1, _⟩ := partsGo_has hst
    cases e1
  · subst he
    go_wp2
    go_ret2
    exact ⟨rfl, HU4.out⟩
end Go.Proofs.YtdbceafejbnebaaGreatDoor
/-! The law's own calls: the chapter's rows. -/
namespace Go.Proofs.YtdbceafejbnebaaGreatDoor
open Go Go.RowKit
/-- A book of account 0, whose own key is ko, as it stands; w is the world that the call began with. -/
def BK (w wi : World) (b : Nat) (ko : K) (μ : Bk) : Prop := Hid (NewBook w.heap.size wi b 0 [ko] μ ∧ Upd [] w wi)
theorem BK.upd {w wi wj : World} {b : Nat} {ko : K} {μ : Bk} (h : BK w wi b ko μ) (hu : Upd [] wi wj) : BK w wj b ko μ := Lib.hid ⟨h.out.1.upd0 hu, h.out.2.trans hu⟩
theorem kKey1 (w : World) : Calls Tryz.prog 10 #[.int .u8 1] w fun e w' => e = .returned (.agg (keyCells (keyOf 1)).toArray) ∧ Upd [] w w' := key10 1 w
theorem kKey2 (w : World) : Calls Tryz.prog 10 #[.int .u8 2] w fun e w' => e = .returned (.agg (keyCells (keyOf 2)).toArray) ∧ Upd [] w w' := key10 2 w
theorem kKey3 (w : World) : Calls Tryz.prog 10 #[.int .u8 3] w fun e w' => e = .returned (.agg (keyCells (keyOf 3)).toArray) ∧ Upd [] w w' := key10 3 w
theorem kDev (w : World) : Calls Tryz.prog 12 #[.int .u8 1, .int .u8 0] w fun e w' => e = .returned (devV 1 0) ∧ Upd [] w w' := dev12 1 0 w
theorem kLearn {w wi : World} {b : Nat} {ko : K} {μ : Bk} (h : BK w wi b ko μ) (k : K) : Calls Tryz.prog 11 #[bookV b, devV 1 0, .agg (keyCells k).toArray] wi fun e w' => e = .returned (.tuple #[.bool (chg ((μ 1).getD newCon) 0 k), .int .i64 0]) ∧ BK w w' b ko (μ.put 1 (learnC ((μ 1).getD newCon) 0 k)) := by
  refine (learn_newB h.out.1 h.out.2 1 0 k (by decide)).mono ?_
  rintro e w' ⟨rfl, h1, h2, _⟩
  exact ⟨rfl, Lib.hid ⟨h1, h2⟩⟩
theorem kState {w wi : World} {b : Nat} {ko : K} {μ : Bk} (h : BK w wi b ko μ) : Calls Tryz.prog 14 #[bookV b, .int .u8 1] wi fun e w' => e = .returned (byteV (stM μ 1)) ∧ w' = wi := state_new h.out.1 1
theorem kNumber {w wi : World} {b : Nat} {ko : K} {μ : Bk} (h : BK w wi b ko μ) (hn : (knM μ 1).length ≤ 1) : Calls Tryz.prog 13 #[bookV b, .int .u8 1] wi fun e w' => e = .returned (numOf 0 ko 1 (knM μ 1)) ∧ BK w w' b ko μ :=
  (number_new h.out.1 1 hn).mono fun _ _ ⟨h1, h2⟩ => ⟨h1, h.upd h2⟩
theorem kNumber2 {w wi : World} {b : Nat} {ko : K} {μ : Bk} (h : BK w wi b ko μ) (hn : knM μ 2 = []) : Calls Tryz.prog 13 #[bookV b, .int .u8 2] wi fun e w' => e = .returned (.tuple #[.string ⟨#[]⟩, .int .i64 4]) ∧ BK w w' b ko μ := by
  refine (number_new h.out.1 2 (by rw [hn]; simp)).mono ?_
  rintro e w' ⟨rfl, h2⟩
  rw [hn]
  exact ⟨rfl, h.upd h2⟩
theorem toList_data (x : ByteArray) : x.toList = x.data.toList := ByteArray.toList_eq x
theorem numS_size (acct : UInt8) (ko : K) (a : UInt8) (k : K) : (numS ⟨(digK acct ko).toArray⟩ ⟨(digK a k).toArray⟩).size = 60 := by
  unfold numS
  have h1 : (⟨(digK acct ko).toArray⟩ : ByteArray).size = 30 := by simp [ByteArray.size, digK_len]
  have h2 : (⟨(digK a k).toArray⟩ : ByteArray).size = 30 := by simp [ByteArray.size, digK_len]
  rw [ByteArray.size_append]
  rcases minS_or ⟨(digK acct ko).toArray⟩ ⟨(digK a k).toArray⟩ with h | h <;> rcases maxS_or ⟨(digK acct ko).toArray⟩ ⟨(digK a k).toArray⟩ with h' | h' <;> rw [h, h'] <;> omega
theorem numS_mem (A B : ByteArray) (c : UInt8) (h : c ∈ (numS A B).data.toList) : c ∈ A.data.toList ∨ c ∈ B.data.toList := by
  unfold numS at h
  rw [ByteArray.data_append, Array.toList_append, List.mem_append] at h
  rcases h with h | h
  · rcases minS_or A B with e | e <;> rw [e] at h
    · exact .inl h
    · exact .inr h
  · rcases maxS_or A B with e | e <;> rw [e] at h
    · exact .inl h
    · exact .inr h
theorem numS_ne (acct : UInt8) (ko : K) (a : UInt8) (k : K) : ∀ c ∈ (numS ⟨(digK acct ko).toArray⟩ ⟨(digK a k).toArray⟩).data.toList, c ≠ 32 := by
  intro c hc
  rcases numS_mem _ _ c hc with h | h
  · exact digK_ne acct ko c (by simpa using h)
  · exact digK_ne a k c (by simpa using h)
theorem kSpaced (n : ByteArray) (hn : n.size = 60) (w : World) : Calls Tryz.prog 16 #[.string n] w fun e w' => e = .returned (.string ⟨(spacedF n.data.toList).toArray⟩) ∧ Upd [] w w' := spaced16 n hn
theorem kVerify {w wi : World} {b : Nat} {ko : K} {μ : Bk} (h : BK w wi b ko μ) (x : Kn) (c : Con) (hc : μ 1 = some c) (hk : knM μ 1 = [x]) (mx : Int) (hm : w.cell? ⟨0, 0, none⟩ = some (.int .i64 mx)) (h0 : 0 < w.heap.size) :
    Calls Tryz.prog 15 #[bookV b, .int .u8 1, .string ⟨(spacedF (numS ⟨(digK 0 ko).toArray⟩ ⟨(digK 1 x.2).toArray⟩).data.toList).toArray⟩] wi fun e w' => e = .returned (.int .i64 0) ∧ BK w w' b ko (μ.put 1 (c.setSt 2)) := by
  have hsp := spaced_back (numS ⟨(digK 0 ko).toArray⟩ ⟨(digK 1 x.2).toArray⟩).data.toList (by rw [Array.length_toList]; exact numS_size 0 ko 1 x.2) (numS_ne 0 ko 1 x.2)
  refine (verify_ok h.out.1 h.out.2 1 x c hc hk _ mx ((cell_same (h.out.2.block 0 h0 (by simp))).trans hm) (Nat.lt_of_lt_of_le h0 h.out.2.size) (by
    show (spacedF _).toArray.size ≤ 1000
    rw [List.size_toArray]
    exact Nat.le_trans (spaced_len _) (by decide)) (by
    rw [List.toList_toArray, hsp, beq_iff_eq]
    exact (toList_data _).symm)).mono ?_
  rintro e w' ⟨rfl, h1, h2⟩
  exact ⟨rfl, Lib.hid ⟨h1, h2⟩⟩
theorem kVerifyBad {w wi : World} {b : Nat} {ko : K} {μ : Bk} (h : BK w wi b ko μ) (x : Kn) (hk : knM μ 1 = [x]) (mx : Int) (hm : w.cell? ⟨0, 0, none⟩ = some (.int .i64 mx)) (h0 : 0 < w.heap.size) :
    Calls Tryz.prog 15 #[bookV b, .int .u8 1, .string ⟨#[]⟩] wi fun e w' => e = .returned (.int .i64 6) ∧ BK w w' b ko μ := by
  refine (verify_bad h.out.1 1 x hk ⟨#[]⟩ mx ((cell_same (h.out.2.block 0 h0 (by simp))).trans hm) (Nat.lt_of_lt_of_le h0 h.out.2.size) (by decide) (by
    have hs := numS_size 0 ko 1 x.2
    rw [beq_eq_false_iff_ne]
    intro e
    rw [repl_filter, toList_data] at e
    have e2 := (congrArg List.length e).symm
    rw [Array.length_toList] at e2
    have e3 : (numS ⟨(digK 0 ko).toArray⟩ ⟨(digK 1 x.2).toArray⟩).data.size = 60 := hs
    rw [e3] at e2
    cases e2)).mono ?_
  rintro e w' ⟨rfl, h2⟩
  exact ⟨rfl, h.upd h2⟩
theorem kAccept {w wi : World} {b : Nat} {ko : K} {μ : Bk} (h : BK w wi b ko μ) (c : Con) (hc : μ 1 = some c) (h3 : c.st = 3) : Calls Tryz.prog 17 #[bookV b, .int .u8 1] wi fun e w' => e = .returned (.int .i64 0) ∧ BK w w' b ko (μ.put 1 (c.setSt 1)) := by
  refine (accept_ok h.out.1 h.out.2 1 c hc h3).mono ?_
  rintro e w' ⟨rfl, h1, h2⟩
  exact ⟨rfl, Lib.hid ⟨h1, h2⟩⟩
end Go.Proofs.YtdbceafejbnebaaGreatDoor
/-! known: the chapter's rows hold. -/
namespace Go.Proofs.YtdbceafejbnebaaGreatDoor
open Go Go.RowKit
/-- One key, of device 0. -/
structure OneKey (c : Con) (k : K) (s : UInt8) : Prop where
  hs : c.hs = [true, false, false, false]
  ks : ∃ l, c.ks = k :: l
  st : c.st = s
theorem OneKey.kn {c : Con} {k : K} {s : UInt8} (h : OneKey c k s) : conKn c = [(0, k)] := by
  obtain ⟨l, hl⟩ := h.ks
  unfold conKn conUpto
  rw [h.hs, hl]
  rfl
theorem oneKey_new (k : K) : OneKey (learnC newCon 0 k) k 1 := ⟨rfl, ⟨_, rfl⟩, rfl⟩
theorem OneKey.setSt {c : Con} {k : K} {s : UInt8} (h : OneKey c k s) (s' : UInt8) : OneKey (c.setSt s') k s' := ⟨h.hs, h.ks, rfl⟩
theorem OneKey.same {c : Con} {k : K} (h : OneKey c k 2) : OneKey (learnC c 0 k) k 2 ∧ chg c 0 k = false := by
  obtain ⟨l, hl⟩ := h.ks
  refine ⟨⟨?_, ⟨l, ?_⟩, ?_⟩, ?_⟩
  · show c.hs.set 0 true = _
    rw [h.hs]; rfl
  · show c.ks.set 0 k = _
    rw [hl]; rfl
  · show (if c.st = 2 ∧ ¬ (c.hs[0]? = some true ∧ c.ks[0]? = some k) then (3 : UInt8) else c.st) = 2
    rw [if_neg, h.st]
    rintro ⟨_, q⟩
    exact q ⟨by rw [h.hs]; rfl, by rw [hl]; rfl⟩
  · unfold chg
    rw [h.hs, hl]
    simp
theorem OneKey.other {c : Con} {k k' : K} (h : OneKey c k 2) (hk : k ≠ k') : OneKey (learnC c 0 k') k' 3 ∧ chg c 0 k' = true := by
  obtain ⟨l, hl⟩ := h.ks
  refine ⟨⟨?_, ⟨l, ?_⟩, ?_⟩, ?_⟩
  · show c.hs.set 0 true = _
    rw [h.hs]; rfl
  · show c.ks.set 0 k' = _
    rw [hl]; rfl
  · show (if c.st = 2 ∧ ¬ (c.hs[0]? = some true ∧ c.ks[0]? = some k') then (3 : UInt8) else c.st) = 3
    rw [if_pos]
    refine ⟨h.st, ?_⟩
    rintro ⟨_, q⟩
    rw [hl] at q
    simp at q
    exact hk q
  · unfold chg
    rw [h.hs, hl]
    simp [hk]
structure OneIn (μ : Bk) (c : Con) : Prop where
  here : μ 1 = some c
  else' : ∀ a, a ≠ 1 → μ a = none
theorem OneIn.put {μ : Bk} {c : Con} (h : OneIn μ c) (c' : Con) : OneIn (μ.put 1 c') c' := ⟨by simp [Bk.put], fun a ha => by unfold Bk.put; rw [if_neg ha]; exact h.else' a ha⟩
theorem oneIn_new (c : Con) : OneIn (noneM.put 1 c) c := ⟨by simp [Bk.put], fun a ha => by unfold Bk.put; rw [if_neg ha]; rfl⟩
/-- A book of account 0 that knows one key of account 1. -/
def BX (w wi : World) (b : Nat) (ko k : K) (s : UInt8) : Prop := Hid (∃ μ c, BK w wi b ko μ ∧ OneIn μ c ∧ OneKey c k s)
theorem BX.upd {w wi wj : World} {b : Nat} {ko k : K} {s : UInt8} (h : BX w wi b ko k s) (hu : Upd [] wi wj) : BX w wj b ko k s := by
  obtain ⟨μ, c, h1, h2⟩ := h.out
  exact Lib.hid ⟨μ, c, h1.upd hu, h2⟩
theorem BX.world {w wi : World} {b : Nat} {ko k : K} {s : UInt8} (h : BX w wi b ko k s) : Upd [] w wi := by
  obtain ⟨μ, c, h1, _⟩ := h.out
  exact h1.out.2
theorem xNew {w wi : World} {b : Nat} {ko : K} (h : BK w wi b ko noneM) (k : K) : Calls Tryz.prog 11 #[bookV b, devV 1 0, .agg (keyCells k).toArray] wi fun e w' => e = .returned (.tuple #[.bool false, .int .i64 0]) ∧ BX w w' b ko k 1 := by
  refine (kLearn h k).mono ?_
  rintro e w' ⟨rfl, h1⟩
  exact ⟨rfl, Lib.hid ⟨_, _, h1, oneIn_new _, oneKey_new k⟩⟩
theorem xSame {w wi : World} {b : Nat} {ko k : K} (h : BX w wi b ko k 2) : Calls Tryz.prog 11 #[bookV b, devV 1 0, .agg (keyCells k).toArray] wi fun e w' => e = .returned (.tuple #[.bool false, .int .i64 0]) ∧ BX w w' b ko k 2 := by
  obtain ⟨μ, c, h1, h2, h3⟩ := h.out
  refine (kLearn h1 k).mono ?_
  rintro e w' ⟨rfl, q⟩
  rw [h2.here, Option.getD_some] at q ⊢
  rw [h3.same.2]
  exact ⟨rfl, Lib.hid ⟨_, _, q, h2.put _, h3.same.1⟩⟩
theorem xOther {w wi : World} {b : Nat} {ko k : K} (h : BX w wi b ko k 2) (k' : K) (hk : k ≠ k') : Calls Tryz.prog 11 #[bookV b, devV 1 0, .agg (keyCells k').toArray] wi fun e w' => e = .returned (.tuple #[.bool true, .int .i64 0]) ∧ BX w w' b ko k' 3 := by
  obtain ⟨μ, c, h1, h2, h3⟩ := h.out
  refine (kLearn h1 k').mono ?_
  rintro e w' ⟨rfl, q⟩
  rw [h2.here, Option.getD_some] at q ⊢
  rw [(h3.other hk).2]
  exact ⟨rfl, Lib.hid ⟨_, _, q, h2.put _, (h3.other hk).1⟩⟩
theorem knM_one {μ : Bk} {c : Con} {k : K} {s : UInt8} (h2 : OneIn μ c) (h3 : OneKey c k s) : knM μ 1 = [(0, k)] := by
  unfold knM
  rw [h2.here, Option.map_some, Option.getD_some, h3.kn]
theorem xNumber {w wi : World} {b : Nat} {ko k : K} {s : UInt8} (h : BX w wi b ko k s) : Calls Tryz.prog 13 #[bookV b, .int .u8 1] wi fun e w' => e = .returned (.tuple #[.string (numS ⟨(digK 0 ko).toArray⟩ ⟨(digK 1 k).toArray⟩), .int .i64 0]) ∧ BX w w' b ko k s := by
  obtain ⟨μ, c, h1, h2, h3⟩ := h.out
  have hk := knM_one h2 h3
  refine (kNumber h1 (by rw [hk]; simp)).mono ?_
  rintro e w' ⟨rfl, q⟩
  rw [hk]
  exact ⟨rfl, Lib.hid ⟨_, _, q, h2, h3⟩⟩
theorem xNumber2 {w wi : World} {b : Nat} {ko k : K} {s : UInt8} (h : BX w wi b ko k s) : Calls Tryz.prog 13 #[bookV b, .int .u8 2] wi fun e w' => e = .returned (.tuple #[.string ⟨#[]⟩, .int .i64 4]) ∧ BX w w' b ko k s := by
  obtain ⟨μ, c, h1, h2, h3⟩ := h.out
  refine (kNumber2 h1 (by unfold knM; rw [h2.else' 2 (by decide)]; rfl)).mono ?_
  rintro e w' ⟨rfl, q⟩
  exact ⟨rfl, Lib.hid ⟨_, _, q, h2, h3⟩⟩
theorem xState {w wi : World} {b : Nat} {ko k : K} {s : UInt8} (h : BX w wi b ko k s) (n : Int) (hn : (s.toNat : Int) = n) : Calls Tryz.prog 14 #[bookV b, .int .u8 1] wi fun e w' => e = .returned (.int .u8 n) ∧ w' = wi := by
  obtain ⟨μ, c, h1, h2, h3⟩ := h.out
  refine (kState h1).mono ?_
  rintro e w' ⟨rfl, rfl⟩
  refine ⟨?_, rfl⟩
  unfold stM byteV
  rw [h2.here, Option.map_some, Option.getD_some, h3.st, hn]
theorem xVerify {w wi : World} {b : Nat} {ko k : K} {s : UInt8} (h : BX w wi b ko k s) (mx : Int) (hm : w.cell? ⟨0, 0, none⟩ = some (.int .i64 mx)) (h0 : 0 < w.heap.size) :
    Calls Tryz.prog 15 #[bookV b, .int .u8 1, .string ⟨(spacedF (numS ⟨(digK 0 ko).toArray⟩ ⟨(digK 1 k).toArray⟩).data.toList).toArray⟩] wi fun e w' => e = .returned (.int .i64 0) ∧ BX w w' b ko k 2 := by
  obtain ⟨μ, c, h1, h2, h3⟩ := h.out
  refine (kVerify h1 (0, k) c h2.here (knM_one h2 h3) mx hm h0).mono ?_
  rintro e w' ⟨rfl, q⟩
  exact ⟨rfl, Lib.hid ⟨_, _, q, h2.put _, h3.setSt 2⟩⟩
theorem xBad {w wi : World} {b : Nat} {ko k : K} {s : UInt8} (h : BX w wi b ko k s) (mx : Int) (hm : w.cell? ⟨0, 0, none⟩ = some (.int .i64 mx)) (h0 : 0 < w.heap.size) :
    Calls Tryz.prog 15 #[bookV b, .int .u8 1, .string ⟨#[]⟩] wi fun e w' => e = .returned (.int .i64 6) ∧ BX w w' b ko k s := by
  obtain ⟨μ, c, h1, h2, h3⟩ := h.out
  refine (kVerifyBad h1 (0, k) (knM_one h2 h3) mx hm h0).mono ?_
  rintro e w' ⟨rfl, q⟩
  exact ⟨rfl, Lib.hid ⟨_, _, q, h2, h3⟩⟩
theorem xAccept {w wi : World} {b : Nat} {ko k : K} (h : BX w wi b ko k 3) : Calls Tryz.prog 17 #[bookV b, .int .u8 1] wi fun e w' => e = .returned (.int .i64 0) ∧ BX w w' b ko k 1 := by
  obtain ⟨μ, c, h1, h2, h3⟩ := h.out
  refine (kAccept h1 c h2.here h3.st).mono ?_
  rintro e w' ⟨rfl, q⟩
  exact ⟨rfl, Lib.hid ⟨_, _, q, h2.put _, h3.setSt 1⟩⟩
end Go.Proofs.YtdbceafejbnebaaGreatDoor
