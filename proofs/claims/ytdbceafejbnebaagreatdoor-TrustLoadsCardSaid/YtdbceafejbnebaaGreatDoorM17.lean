/- trust: Verify, Accept. trust.Spaced: the pieces of a text. -/
import Derived.Test.YtdbceafejbnebaaGreatDoorM16
import Derived.Test.YtdbceafejbnebaaGreatDoorM11
import Derived.Test.YtdbceafejbnebaaGreatDoorM07
/-! trust: Verify, Accept. -/
namespace Go.Proofs.YtdbceafejbnebaaGreatDoor
open Go Go.RowKit
theorem knOf_M (m : Cs) (a : UInt8) : knOf m a = knM (conOf m) a := rfl
theorem number_new {B : Nat} {w : World} {b : Nat} {acct : UInt8} {ko : K} {μ : Bk} (h : NewBook B w b acct [ko] μ) (a : UInt8) (hn : (knM μ a).length ≤ 1) :
    Calls Tryz.prog 13 #[bookV b, byteV a] w fun e w' => e = .returned (numOf acct ko a (knM μ a)) ∧ Upd [] w w' := by
  obtain ⟨g, cap, r, m, h1, h2, _⟩ := h
  have q := number13 h1 a (by rw [knOf_M, h2]; exact hn)
  rw [knOf_M, h2] at q
  exact q
theorem state_new {B : Nat} {w : World} {b : Nat} {acct : UInt8} {own : List K} {μ : Bk} (h : NewBook B w b acct own μ) (a : UInt8) :
    Calls Tryz.prog 14 #[bookV b, byteV a] w fun e w' => e = .returned (byteV (stM μ a)) ∧ w' = w := by
  obtain ⟨g, cap, r, m, h1, h2, _⟩ := h
  have q := state_book h1 a
  rw [stOf_eq, h2] at q
  exact q
theorem below_upd0 {w w' : World} (h : Below w.heap.size w w') : Upd [] w w' := ⟨h.os, h.tape, h.output, h.size, fun k hk _ => h.block k hk⟩
set_option maxHeartbeats 1000000 in
theorem verify_bad {B : Nat} {w : World} {b : Nat} {acct : UInt8} {ko : K} {μ : Bk} (h : NewBook B w b acct [ko] μ) (a : UInt8) (x : Kn) (hk : knM μ a = [x]) (s : ByteArray) (mx : Int) (hm : w.cell? ⟨0, 0, none⟩ = some (.int .i64 mx)) (h0 : 0 < w.heap.size) (hs : s.size ≤ 1000)
    (hne : (Lib.replaceAll s.data.toList [32] [] == (numS ⟨(digK acct ko).toArray⟩ ⟨(digK a x.2).toArray⟩).toList) = false) :
    Calls Tryz.prog 15 #[bookV b, byteV a, .string s] w fun e w' => e = .returned (.int .i64 6) ∧ Upd [] w w' := by
  have k13 := number_new h a (by rw [hk]; simp)
  rw [hk] at k13
  simp only [numOf] at k13
  have k50 : ∀ w', Upd [] w w' → Calls Tryz.prog 50 #[.string s, .string ⟨#[32]⟩, .string ⟨#[]⟩] w' fun e w2 => e = .returned (.string ⟨(Lib.replaceAll s.data.toList [32] []).toArray⟩) ∧ Upd [] w' w2 := by
    intro w' hu
    refine (Go.Proofs.Tryz.strings_ReplaceAll s ⟨#[32]⟩ ⟨#[]⟩ mx w' (by omega) ((cell_same (hu.block 0 h0 (by simp))).trans hm) (by decide) (by rw [show (⟨#[]⟩ : ByteArray).size = 0 from rfl, Nat.mul_zero, Nat.add_zero]; exact Nat.le_trans hs (by decide))).mono ?_
    rintro e w2 ⟨rfl, hb⟩
    exact ⟨rfl, below_upd0 hb⟩
  have HK := Lib.hid k50
  clear k50 h hk hm
  obtain ⟨want, hwant⟩ : ∃ want, want = numS ⟨(digK acct ko).toArray⟩ ⟨(digK a x.2).toArray⟩ := ⟨_, rfl⟩
  rw [← hwant] at k13 hne
  obtain ⟨got, hgot⟩ : ∃ got, got = Lib.replaceAll s.data.toList [32] [] := ⟨_, rfl⟩
  rw [← hgot] at HK hne
  clear hwant hgot
  unfold bookV byteV at *
  go_enter Tryz.func15, Tryz.ntmps15
  go_wp2_with (first
    | (go_at_call 13; refine k13.mono ?_; clear k13; rintro e w1 ⟨rfl, hu1⟩)
    | (go_at_call 50; refine (HK.out _ hu1).mono ?_; rintro e w2 ⟨rfl, hu2⟩))
  go_ret
  exact ⟨rfl, hu1.trans hu2⟩
set_option maxHeartbeats 1000000 in
theorem verify_ok {w0 w : World} {b : Nat} {acct : UInt8} {ko : K} {μ : Bk} (h : NewBook w0.heap.size w b acct [ko] μ) (hu0 : Upd [] w0 w) (a : UInt8) (x : Kn) (c : Con) (hc : μ a = some c) (hk : knM μ a = [x]) (s : ByteArray) (mx : Int) (hm : w.cell? ⟨0, 0, none⟩ = some (.int .i64 mx)) (h0 : 0 < w.heap.size) (hs : s.size ≤ 1000)
    (hne : (Lib.replaceAll s.data.toList [32] [] == (numS ⟨(digK acct ko).toArray⟩ ⟨(digK a x.2).toArray⟩).toList) = true) :
    Calls Tryz.prog 15 #[bookV b, byteV a, .string s] w fun e w' => e = .returned (.int .i64 0) ∧ NewBook w0.heap.size w' b acct [ko] (μ.put a (c.setSt 2)) ∧ Upd [] w0 w' := by
  have k13 := number_new h a (by rw [hk]; simp)
  rw [hk] at k13
  simp only [numOf] at k13
  have k50 : ∀ w', Upd [] w w' → Calls Tryz.prog 50 #[.string s, .string ⟨#[32]⟩, .string ⟨#[]⟩] w' fun e w2 => e = .returned (.string ⟨(Lib.replaceAll s.data.toList [32] []).toArray⟩) ∧ Upd [] w' w2 := by
    intro w' hu
    refine (Go.Proofs.Tryz.strings_ReplaceAll s ⟨#[32]⟩ ⟨#[]⟩ mx w' (by omega) ((cell_same (hu.block 0 h0 (by simp))).trans hm) (by decide) (by rw [show (⟨#[]⟩ : ByteArray).size = 0 from rfl, Nat.mul_zero, Nat.add_zero]; exact Nat.le_trans hs (by decide))).mono ?_
    rintro e w2 ⟨rfl, hb⟩
    exact ⟨rfl, below_upd0 hb⟩
  have HK := Lib.hid k50
  obtain ⟨g, cap, r, m, h1, h2, h3, h4, h5, h6⟩ := h
  obtain ⟨p, hl⟩ : ∃ p, look a m = some (p, c) := by
    rw [← h2] at hc
    unfold conOf at hc
    cases hl : look a m with
    | none => rw [hl] at hc; cases hc
    | some y => rw [hl] at hc; cases hc; exact ⟨y.1, rfl⟩
  have hfin : ∀ w2, Upd [] w w2 → w2.cell? ⟨b, 2, none⟩ = some (.map (some r)) ∧ (Instr.lookup 78 (.map (some r)) (.int .u8 (a.toNat : Int)) false).run Tryz.prog w2 = .ok (.pointer (some ⟨p, 0, none⟩)) w2 ∧ w2.cell? ⟨p, 132, none⟩ = some (.int .u8 (c.st.toNat : Int)) ∧ w2.frozen? ⟨p, 132, none⟩ = false ∧
      NewBook w0.heap.size (w2.setCell ⟨p, 132, none⟩ (.int .u8 2)) b acct [ko] (μ.put a (c.setSt 2)) ∧ Upd [] w0 (w2.setCell ⟨p, 132, none⟩ (.int .u8 2)) := by
    intro w2 hu
    have hb := h1.upd0 hu
    have hcon := hb.con _ (look_mem hl)
    have hlk := hb.map.lookup a
    rw [look_ptrs, hl] at hlk
    have hst := hcon.setSt 2
    exact ⟨cell_of_heap hb.cell 2, hlk, hcon.state, hcon.free 132, NewBook.turn (w0 := w0) hb h2 h3 h4 h5 h6 hl hst.2 hst.1 (hu0.trans hu)⟩
  have HF := Lib.hid hfin
  clear k50 h1 h2 h3 h4 h5 h6 hc hl hk hm hfin
  obtain ⟨want, hwant⟩ : ∃ want, want = numS ⟨(digK acct ko).toArray⟩ ⟨(digK a x.2).toArray⟩ := ⟨_, rfl⟩
  rw [← hwant] at k13 hne
  obtain ⟨got, hgot⟩ : ∃ got, got = Lib.replaceAll s.data.toList [32] [] := ⟨_, rfl⟩
  rw [← hgot] at HK hne
  clear hwant hgot
  unfold bookV byteV at *
  go_enter Tryz.func15, Tryz.ntmps15
  go_wp2_with (first
    | (go_at_call 13; refine k13.mono ?_; clear k13; rintro e w1 ⟨rfl, hu1⟩)
    | (go_at_call 50; refine (HK.out _ hu1).mono ?_; rintro e w2 ⟨rfl, hu2⟩; obtain ⟨d1, d2, d3, d4, hd⟩ := HF.out w2 (hu1.trans hu2); have HD := Lib.hid hd; clear hd))
  go_ret
  exact ⟨rfl, HD.out⟩
set_option maxHeartbeats 1000000 in
theorem accept_ok {w0 w : World} {b : Nat} {acct : UInt8} {ko : K} {μ : Bk} (h : NewBook w0.heap.size w b acct [ko] μ) (hu0 : Upd [] w0 w) (a : UInt8) (c : Con) (hc : μ a = some c) (h3' : c.st = 3) :
    Calls Tryz.prog 17 #[bookV b, byteV a] w fun e w' => e = .returned (.int .i64 0) ∧ NewBook w0.heap.size w' b acct [ko] (μ.put a (c.setSt 1)) ∧ Upd [] w0 w' := by
  have k14 := state_new h a
  have hst3 : stM μ a = 3 := by unfold stM; rw [hc, ← h3']; rfl
  rw [hst3] at k14
  obtain ⟨g, cap, r, m, h1, h2, h3, h4, h5, h6⟩ := h
  obtain ⟨p, hl⟩ : ∃ p, look a m = some (p, c) := by
    rw [← h2] at hc
    unfold conOf at hc
    cases hl : look a m with
    | none => rw [hl] at hc; cases hc
    | some y => rw [hl] at hc; cases hc; exact ⟨y.1, rfl⟩
  have hb := h1
  have hcon := hb.con _ (look_mem hl)
  have hlk := hb.map.lookup a
  rw [look_ptrs, hl] at hlk
  have hst := hcon.setSt 1
  have HD := Lib.hid (NewBook.turn (w0 := w0) hb h2 h3 h4 h5 h6 hl hst.2 hst.1 hu0)
  have d1 : w.cell? ⟨b, 2, none⟩ = some (.map (some r)) := cell_of_heap hb.cell 2
  have d3 := hcon.state
  have d4 := hcon.free 132
  clear h1 h2 h3 h4 h5 h6 hc hl hb hcon hst hst3 h3'
  simp only [Option.map_some, ptrOf] at hlk
  unfold bookV byteV at *
  go_enter Tryz.func17, Tryz.ntmps17
  go_wp2_with (go_at_call 14; refine k14.mono ?_; clear k14; rintro e w1 ⟨rfl, rfl⟩)
  go_ret
  exact ⟨rfl, HD.out⟩
end Go.Proofs.YtdbceafejbnebaaGreatDoor
/-! trust.Spaced: the pieces of a text. -/
namespace Go.Proofs.YtdbceafejbnebaaGreatDoor
open Go Go.RowKit Go.Shelf
attribute [local go_sem] Oper.semAt_some
section
variable {F : Fence} {n : Nat} {P : Program} {ops : Array Oper} {rest : List Oper} {o : Oper} {a : Act} {w w' : World} {Q : Exit → Act → World → Prop}
theorem wpListIn_round {l : Nat} {fn : FuncId} {tmps : Array Value} {assign body : Code} (hg : o.guard = none) (hro : F.round = none) (hF : ∀ f, F.fn f) (hrun : (execOp a.eval o).run P w = .ok (.round l fn tmps assign body) w') (hn : F.depth.isSome = true → 1 ≤ n)
    (R : Ending → World → Prop) (h : RoundIn F (n - 1) P l fn tmps assign body w' R)
    (hR : ∀ e w'', R e w'' → ∃ v, e = .returned v ∧ wpListIn F n P ops Q rest (a.put o.dst v) w'') : wpListIn F n P ops Q (o :: rest) a w := by
  refine wpListIn_plain hg fun K hK => ?_
  simp only [Oper.wpIn, hro, Oper.semAt_none, hrun, Oper.uponIn_round]
  refine ⟨fun f _ => hF f, hn, h.mono ?_⟩
  intro e w'' he
  obtain ⟨v, rfl, h2⟩ := hR e w'' he
  exact hK _ _ h2
end
/-- What lies in rows of bytes, in boxed slices of them, in boxed numbers, stays. -/
def KeepC (W W' : World) : Prop := W.heap.size ≤ W'.heap.size ∧ ∀ (k : Nat) (cs : Array Value) (t : TypeId) (fz : Nat × Nat), W.heap[k]? = some (.cells cs t fz) → (t = 22 ∨ t = 3 ∨ t = 5) → W'.heap[k]? = some (.cells cs t fz)
theorem KeepC.refl (W : World) : KeepC W W := ⟨Nat.le_refl _, fun _ _ _ _ h _ => h⟩
theorem keepC_t {A B C : World} (h : KeepC A B) (k : KeepC B C) : KeepC A C := ⟨Nat.le_trans h.1 k.1, fun q cs t fz hq ht => k.2 q cs t fz (h.2 q cs t fz hq ht) ht⟩
theorem keepC_b (W : World) (l : Nat) (o o' : Obj) (h : W.heap[l]? = some o) (hc : o.isCells = false) : KeepC W (W.putObj l o') := by
  refine ⟨by simp, fun q cs t fz hq _ => ?_⟩
  have hne : q ≠ l := by
    intro e
    subst e
    rw [h] at hq
    cases hq
    cases hc
  exact (World.putObj_heap_other hne).trans hq
theorem Upd.keepC {S : List Nat} {W W' : World} (h : Upd S W W') (hS : ∀ s ∈ S, ∀ cs t fz, W.heap[s]? = some (.cells cs t fz) → t ≠ 22 ∧ t ≠ 3 ∧ t ≠ 5) : KeepC W W' :=
  ⟨h.size, fun k cs t fz hk ht => h.heap hk (fun hkS => by
    obtain ⟨a, b, c⟩ := hS k hkS cs t fz hk
    rcases ht with ht | ht | ht
    · exact a ht
    · exact b ht
    · exact c ht)⟩
theorem Upd.keepC0 {W W' : World} (h : Upd [] W W') : KeepC W W' := h.keepC (by simp)
def encC (g : Nat) (k : Fin 12) : Array Value := #[.slice (some ⟨g, 5 * k.val, none⟩) 5 5]
def all12 : List (Fin 12) := List.finRange 12
theorem all12_take {k : Nat} (hk : k < 12) : all12.take (k + 1) = all12.take k ++ [⟨k, hk⟩] := by
  have h : k < all12.length := by simp [all12, hk]
  rw [← List.take_append_getElem h]
  simp [all12]
set_option maxHeartbeats 4000000 in
set_option maxRecDepth 100000 in
theorem chunk_in (n : Nat) (hn : 1 ≤ n) (l B1 B2 g cap : Nat) (J Jx : List (Fin 12) → World → Prop) (W : World) (hJ : AbidesFrom W.heap.size J)
    (hY : ∀ pre x W1, J pre W1 → pre.length < 12 → YieldAt Fence.wide (n - 1) Tryz.prog l (encC g x) W1 fun e W' =>
      (e = .returned (.bool true) ∧ J (pre ++ [x]) W' ∧ KeepC W1 W') ∨ (e = .returned (.bool false) ∧ Jx (pre ++ [x]) W'))
    (h1 : W.heap[B1]? = some (.cells #[.slice (some ⟨g, 0, none⟩) 60 cap] 22 (0, 0))) (h2 : W.heap[B2]? = some (.cells #[.int .i64 5] 3 (0, 0))) (hcap : 60 ≤ cap)
    (h0 : J [] W) :
    CallsIn Fence.wide n Tryz.prog 74 #[.func (.yield l) #[] #[], .pointer (some ⟨B1, 0, none⟩), .pointer (some ⟨B2, 0, none⟩)] W fun e W' => (∃ v, e = .returned v) ∧
      ((∃ ys, ys = all12 ∧ J ys W') ∨ (∃ pre, pre <+: all12 ∧ Jx pre W')) := by
  refine callsIn_wide.2 ?_
  have HJ := Lib.hid hJ
  have HY := Lib.hid hY
  have H0 := Lib.hid h0
  have H12 := Lib.hid (show _ ∧ _ from ⟨h1, h2⟩)
  clear hJ hY h0 h1 h2
  go_enter Tryz.func74, Tryz.ntmps74
  go_wp2
  go_loopw [4] (fun i wr => ∃ k : Nat, i = .int .i64 (5 * (k : Int)) ∧ k ≤ 12 ∧ Hid (J (all12.take k) wr ∧ KeepC W wr)) (fun i _ => 60 - (intOf i).toNat)
  case atStart => exact ⟨0, rfl, by omega, Lib.hid ⟨H0.out, KeepC.refl W⟩⟩
  case round =>
    obtain ⟨k, rfl, hk, hR⟩ := hrel
    obtain ⟨a5, ha5⟩ : ∃ a5, a5 = 5 * k := ⟨_, rfl⟩
    have e5 : 5 * (k : Int) = (a5 : Int) := by omega
    rw [e5]
    have d1 : wr.cell? ⟨B1, 0, none⟩ = some (.slice (some ⟨g, 0, none⟩) 60 cap) := cell_of_heap (hR.out.2.2 _ _ _ _ H12.out.1 (by simp)) 0
    have d2 : wr.cell? ⟨B2, 0, none⟩ = some (.int .i64 5) := cell_of_heap (hR.out.2.2 _ _ _ _ H12.out.2 (by simp)) 0
    by_cases hlt : k < 12
    · have hltI : (a5 : Int) < 60 := by omega
      have ha0 : (0 : Int) ≤ (a5 : Int) := by omega
      obtain ⟨b5, hb5⟩ : ∃ b5, b5 = a5 + 5 := ⟨_, rfl⟩
      have z1 : IntKind.i64.wrap ((a5 : Int) + 5) = (b5 : Int) := by rw [IntWalk.i64_in _ (by omega)]; omega
      have z2 : (a5 : Int) ≤ (b5 : Int) := by omega
      have z3 : (b5 : Int) ≤ (cap : Int) := by omega
      have z4 : b5 - a5 = 5 := by omega
      have z5 : (a5 : Int) ≤ 60 := by omega
      have z6 : min 5 ((60 - a5 : Nat) : Int) = 5 := by omega
      have z8 : b5 ≠ a5 := by omega
      have z9 : cap ≠ a5 := by omega
      have HA := Lib.hid (show _ ∧ _ ∧ _ ∧ _ from ⟨ha5, hb5, e5, hlt⟩)
      have s0 : wr.drew.cell? ⟨B1, 0, none⟩ = some (.slice (some ⟨g, 0, none⟩) 60 cap) ∧ wr.drew.cell? ⟨B2, 0, none⟩ = some (.int .i64 5) := ⟨d1, d2⟩
      have HS := Lib.hid s0
      clear ha5 hb5 e5 hlt s0
      go_upto_region 3 with fail
      go_region_held3 (fun w' => w'.cell? ⟨B1, 0, none⟩ = some (.slice (some ⟨g, 0, none⟩) 60 cap) ∧ w'.cell? ⟨B2, 0, none⟩ = some (.int .i64 5)) (first | exact HS.out) (fail)
      go_upto_region 4 with fail
      have hJd := abides_upd HJ.out hR.out.1 ((Upd.refl [] wr).drew)
      have hk12 : k < 12 := HA.out.2.2.2
      obtain ⟨fn, tmps, assign, body, hy, hround⟩ := HY.out _ ⟨k, hk12⟩ wr.drew hJd (by rw [List.length_take]; have := HA.out.2.2.2; omega)
      have henc : encC g ⟨k, hk12⟩ = #[.slice (some ⟨g, a5, none⟩) 5 5] := by unfold encC; rw [HA.out.1]
      rw [henc] at hy
      have HRO := Lib.hid hround
      clear hround henc hJd
      refine (wpIn_wide (n := n)).1 ?_
      gi_wp2_with (first | (refine wpListIn_round rfl rfl (fun _ => trivial) (w' := wr.drew) (l := l) (fn := fn) (tmps := tmps) (assign := assign) (body := body) ?hrun (fun _ => hn) _ HRO.out ?_; (case hrun => (go_simp; done))))
      rintro e w3 (⟨rfl, hJ3, hk3⟩ | ⟨rfl, hJx3⟩)
      · refine ⟨_, rfl, ?_⟩
        have d2 : w3.cell? ⟨B2, 0, none⟩ = some (.int .i64 5) := cell_of_heap (hk3.2 _ _ _ _ (hR.out.2.2 _ _ _ _ H12.out.2 (by simp)) (by simp)) 0
        have HJ3 := Lib.hid (show _ ∧ _ from ⟨hJ3, hk3⟩)
        clear hy hJ3 hk3
        gi_wp2
        go_simp
        go_wp2
        go_roundw
        case rel =>
          obtain ⟨e1, e2, e3, e4⟩ := HA.out
          refine ⟨k + 1, by congr 1; omega, by omega, Lib.hid ⟨?_, keepC_t hR.out.2 (keepC_t ((Upd.refl [] wr).drew).keepC0 HJ3.out.2)⟩⟩
          rw [all12_take e4]
          exact HJ3.out.1
        case measure => have := HA.out; simp only [intOf]; omega
      · refine ⟨_, rfl, ?_⟩
        clear hy
        gi_wp2
        go_simp
        go_wp2
        refine bodyPost_ret (results_none rfl _ _ _) rfl ?_
        refine ⟨⟨_, rfl⟩, .inr ⟨_, ?_, hJx3⟩⟩
        rw [← all12_take HA.out.2.2.2]
        exact List.take_prefix _ _
    · have hkN : k = 12 := by omega
      have hkI : (a5 : Int) = 60 := by omega
      rw [hkN] at hR
      rw [hkI]
      clear hkN hkI hk hlt ha5 e5
      go_wp2
      refine bodyPost_end (results_none rfl _ _ _) rfl ?_
      exact ⟨⟨_, rfl⟩, .inl ⟨_, rfl, hR.out.1⟩⟩
theorem chunk_stops (n : Nat) (hn : 1 ≤ n) (B1 B2 g cap : Nat) (w : World)
    (h1 : w.heap[B1]? = some (.cells #[.slice (some ⟨g, 0, none⟩) 60 cap] 22 (0, 0))) (h2 : w.heap[B2]? = some (.cells #[.int .i64 5] 3 (0, 0))) (hcap : 60 ≤ cap) :
    SeqStopsK Fence.wide n Tryz.prog 74 #[.pointer (some ⟨B1, 0, none⟩), .pointer (some ⟨B2, 0, none⟩)] (encC g) KeepC (fun xs => xs = all12) (fun pre => pre <+: all12) 12 w := by
  intro l J Jx W hb hJ hJx hY h0
  have hu := upd_below hb
  exact chunk_in n hn l B1 B2 g cap J Jx W hJ hY (hu.heap h1 (by simp)) (hu.heap h2 (by simp)) hcap h0
end Go.Proofs.YtdbceafejbnebaaGreatDoor
