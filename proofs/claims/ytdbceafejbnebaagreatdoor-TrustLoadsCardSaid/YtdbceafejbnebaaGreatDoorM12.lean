/- trust.Load. -/
import Derived.Test.YtdbceafejbnebaaGreatDoorM11
namespace Go.Proofs.YtdbceafejbnebaaGreatDoor
open Go Go.RowKit
def st1 (xs : List UInt8) : Option (List UInt8) := ((some xs).bind u8Go).map (·.2)
def st2 (xs : List UInt8) : Option (List K × List UInt8) := listGo 4 keyGo (st1 xs)
def st3 (xs : List UInt8) : Option (List One × List UInt8) := listGo 8 oneGo ((st2 xs).map (·.2))
theorem partsGo_not {xs : List UInt8} (h : (st3 xs).map (·.2) ≠ some []) : partsGo xs = none := by
  unfold partsGo
  unfold st3 st2 st1 at h
  cases h1 : u8Go xs with
  | none => rfl
  | some r =>
    simp only [Option.bind_some, h1, Option.map_some] at h ⊢
    cases h2 : listGo 4 keyGo (some r.2) with
    | none => rfl
    | some s =>
      simp only [Option.bind_some, h2, Option.map_some] at h ⊢
      cases h3 : listGo 8 oneGo (some s.2) with
      | none => rfl
      | some t =>
        simp only [Option.bind_some, h3, Option.map_some] at h ⊢
        rw [if_neg]
        intro e
        exact h (by rw [e])
theorem partsGo_has {xs : List UInt8} (h : (st3 xs).map (·.2) = some []) : ∃ a own l r, partsGo xs = some (a, own, l) ∧ (some xs).bind u8Go = some (a, r) ∧ (∃ s, st2 xs = some (own, s)) ∧ st3 xs = some (l, []) := by
  unfold partsGo
  unfold st3 st2 st1 at *
  cases h1 : u8Go xs with
  | none => simp [h1, listGo] at h
  | some r =>
    simp only [Option.bind_some, h1, Option.map_some] at h ⊢
    cases h2 : listGo 4 keyGo (some r.2) with
    | none =>
      simp only [h2] at h
      exact absurd h (by simp [listGo])
    | some s =>
      simp only [Option.bind_some, h2, Option.map_some] at h ⊢
      cases h3 : listGo 8 oneGo (some s.2) with
      | none => simp [h3] at h
      | some t =>
        simp only [h3, Option.map_some, Option.some.injEq] at h
        refine ⟨r.1, s.1, t.1, r.2, ?_, rfl, ⟨s.2, rfl⟩, ?_⟩
        · rw [Option.bind_some, if_pos h]
        · rw [← h]
theorem end28 (p g : Nat) (st : Option (List UInt8)) (w : World) (hi : IsIn w p g st) :
    Calls Tryz.prog 28 #[.pointer (some ⟨p, 0, none⟩)] w fun e w' => ∃ ev : Int, e = .returned (.int .i64 ev) ∧ w = w' ∧ ((ev = 0 ∧ st = some []) ∨ (ev = 9 ∧ st ≠ some [])) := by
  cases st with
  | none => exact (end_none p g w hi).mono fun e w' ⟨h1, h2⟩ => ⟨9, h1, h2, .inr ⟨rfl, by simp⟩⟩
  | some xs =>
    refine (end_some p g xs w hi).mono fun e w' ⟨h1, h2⟩ => ⟨_, h1, h2, ?_⟩
    by_cases h : xs = []
    · rw [if_pos h, h]; exact .inl ⟨rfl, rfl⟩
    · rw [if_neg h]; exact .inr ⟨rfl, by simpa using h⟩
theorem manyGo_len {α : Type} {item : List UInt8 → Option (α × List UInt8)} : ∀ (n : Nat) (xs : List UInt8) (l : List α) (ys : List UInt8), manyGo item n xs = some (l, ys) → l.length = n := by
  intro n
  induction n with
  | zero => intro xs l ys h; simp [manyGo] at h; simp [h.1]
  | succ n ih =>
    intro xs l ys h
    rw [manyGo] at h
    cases h1 : item xs with
    | none => rw [h1] at h; simp at h
    | some r =>
      rw [h1, Option.bind_some] at h
      cases h2 : manyGo item n r.2 with
      | none => rw [h2] at h; simp at h
      | some t =>
        rw [h2] at h
        simp only [Option.map_some, Option.some.injEq, Prod.mk.injEq] at h
        rw [← h.1, List.length_cons, ih r.2 t.1 t.2 h2]
theorem listGo_len {α : Type} {item : List UInt8 → Option (α × List UInt8)} {most : Nat} {st : Option (List UInt8)} {l : List α} {ys : List UInt8} (h : listGo most item st = some (l, ys)) : l.length ≤ most := by
  unfold listGo at h
  cases st with
  | none => simp at h
  | some xs =>
    rw [Option.bind_some] at h
    split at h
    · rename_i q
      rw [manyGo_len _ _ _ _ h]
      exact q.2
    · cases h
theorem manyGo_all {α : Type} {item : List UInt8 → Option (α × List UInt8)} {p : α → Prop} (hp : ∀ xs r, item xs = some r → p r.1) : ∀ (n : Nat) (xs : List UInt8) (l : List α) (ys : List UInt8), manyGo item n xs = some (l, ys) → ∀ x ∈ l, p x := by
  intro n
  induction n with
  | zero => intro xs l ys h; simp [manyGo] at h; simp [h.1]
  | succ n ih =>
    intro xs l ys h
    rw [manyGo] at h
    cases h1 : item xs with
    | none => rw [h1] at h; simp at h
    | some r =>
      rw [h1, Option.bind_some] at h
      cases h2 : manyGo item n r.2 with
      | none => rw [h2] at h; simp at h
      | some t =>
        rw [h2] at h
        simp only [Option.map_some, Option.some.injEq, Prod.mk.injEq] at h
        rw [← h.1]
        intro x hx
        rcases List.mem_cons.1 hx with rfl | hx
        · exact hp xs r h1
        · exact ih r.2 t.1 t.2 h2 x hx
theorem listGo_all {α : Type} {item : List UInt8 → Option (α × List UInt8)} {p : α → Prop} (hp : ∀ xs r, item xs = some r → p r.1) {most : Nat} {st : Option (List UInt8)} {l : List α} {ys : List UInt8} (h : listGo most item st = some (l, ys)) : ∀ x ∈ l, p x := by
  unfold listGo at h
  cases st with
  | none => simp at h
  | some xs =>
    rw [Option.bind_some] at h
    split at h
    · exact manyGo_all hp _ _ _ _ h
    · cases h
theorem oneGo_four (xs : List UInt8) (r : One × List UInt8) (h : oneGo xs = some r) : r.1.2.2.length ≤ 4 := by
  unfold oneGo at h
  cases h1 : u8Go xs with
  | none => rw [h1] at h; simp at h
  | some q =>
    rw [h1, Option.bind_some] at h
    cases h2 : u8Go q.2 with
    | none => rw [h2] at h; simp at h
    | some q2 =>
      rw [h2, Option.bind_some] at h
      cases h3 : listGo 4 knGo (some q2.2) with
      | none => rw [h3] at h; simp at h
      | some t =>
        rw [h3] at h
        simp only [Option.map_some, Option.some.injEq] at h
        rw [← h]
        exact listGo_len h3
theorem loadM_ones {xs : List UInt8} {c : UInt8} {own : List K} {l : List One} (h : partsGo xs = some (c, own, l)) (h2 : onesM c noneM l = none) : loadM xs = none := by
  unfold loadM
  rw [h, Option.bind_some]
  simp only [h2, Option.bind_none]
  split <;> rfl
theorem RowN.keep82 {w w' : World} {gk : Nat} {l : List Kn} (h : RowN w gk l) (hk : Keep82 w w') : RowN w' gk l := by
  obtain ⟨cur, h1, h2⟩ := h
  exact ⟨cur, hk _ _ _ _ h1 (by decide), h2⟩
theorem loadM_parts {xs : List UInt8} (h : partsGo xs = none) : loadM xs = none := by unfold loadM; rw [h]; rfl
set_option maxHeartbeats 4000000 in
set_option maxRecDepth 100000 in
theorem load5 {w : World} (gx off cap : Nat) (xs : List UInt8) (hx : SlB w gx (.slice (some ⟨gx, off, none⟩) xs.length cap) xs) (hl : xs.length ≤ 3000) :
    Calls Tryz.prog 5 #[.slice (some ⟨gx, off, none⟩) xs.length cap] w fun e w' =>
      (loadM xs = none ∧ e = .returned (.tuple #[.pointer none, .int .i64 9]) ∧ Upd [] w w') ∨
      ∃ acct own μ b, loadM xs = some (acct, own, μ) ∧ e = .returned (.tuple #[bookV b, .int .i64 0]) ∧ NewBook w.heap.size w' b acct own μ ∧ Upd [] w w' := by
  have k20 := newIn_any gx off cap xs w hx (by omega)
  have HX := Lib.hid (show _ ∧ _ from ⟨hx, hl⟩)
  clear hx hl
  go_enter Tryz.func5, Tryz.ntmps5
  go_upto_if 26 with (first
    | (go_at_call 20; refine k20.mono ?_; clear k20; rintro e w1 ⟨p, g, rfl, hp, hg, u1, i1⟩; have k21 := u8_any p g (some xs) w1 i1; have H1 := Lib.hid (show _ ∧ _ ∧ _ ∧ _ ∧ _ from ⟨hp, hg, u1, i1.glt, i1.lt⟩); clear hp hg u1 i1)
    | (go_at_call 21; refine k21.mono ?_; clear k21; rintro e w2 ⟨c, rfl, u2, i2, hc⟩; have k22 := takeKeys_any p g 4 _ w2 i2 (Nat.lt_of_lt_of_le H1.out.2.2.2.1 u2.size) (by omega); have H2 := Lib.hid (show _ ∧ _ from ⟨u2, hc⟩); clear u2 hc i2)
    | (go_at_call 22; refine k22.mono ?_; clear k22; rintro e w3 ⟨v6, rfl, u3, i3, h6⟩; have k24 := takeOnes_any p g 8 _ w3 i3 (Nat.lt_of_lt_of_le (Nat.lt_of_lt_of_le H1.out.2.2.2.1 H2.out.1.size) u3.size) (by omega); have H3 := Lib.hid (show _ ∧ _ from ⟨u3, h6⟩); clear u3 h6 i3)
    | (go_at_call 24; refine k24.mono ?_; clear k24; rintro e w4 ⟨v7, rfl, ⟨a7, n7, c7, rfl⟩, u4, i4, h7⟩; have H4 := Lib.hid (show _ ∧ _ from ⟨u4, h7⟩); have k28 := end28 p g ((st3 xs).map (·.2)) w4 i4; clear u4 h7 i4)
    | (go_at_call 28; refine k28.mono ?_; clear k28; rintro e _ ⟨ev, rfl, rfl, hev⟩; have HEV := Lib.hid hev; clear hev))
  have hu4 : Upd [] w w4 := by
    obtain ⟨hp, hg, u1, _⟩ := H1.out
    refine ((u1.trans' H2.out.1 ?_).trans' H3.out.1 ?_).trans' H4.out.1 ?_ <;> (intro y hy; rw [List.mem_singleton] at hy; subst hy; exact .inr hp)
  have HU4 := Lib.hid hu4
  clear hu4
  rcases HEV.out with ⟨he, hst⟩ | ⟨he, hst⟩
  · subst he
    obtain ⟨a, own, l, r, e1, e2, ⟨s, e3⟩, e4⟩ := partsGo_has hst
    obtain rfl : c = a := H2.out.2 _ _ e2
    have ho4 : own.length ≤ 4 := listGo_len e3
    have hl8 : l.length ≤ 8 := listGo_len e4
    have ho6 := H3.out.2 _ _ e3
    obtain ⟨cells, hv7, ho7⟩ := H4.out.2 _ _ e4
    obtain ⟨a6, n6, c6, rfl⟩ := owns_isSl ho6
    obtain ⟨hn6, ha6⟩ : n6 = own.length ∧ (1 ≤ own.length → ∃ g6, a6 = some ⟨g6, 0, none⟩ ∧ RowK w4 g6 c6 own) := by
      have hH := ho6
      obtain ⟨_, ⟨z, z0⟩ | ⟨g', cap', cur, z, z2, z3, z4⟩⟩ := ho6
      · cases z
        exact ⟨z0.symm, fun h => by omega⟩
      · cases z
        exact ⟨rfl, fun _ => ⟨g', rfl, (RowK.of_owns hH).1.upd H4.out.1 (by
          rw [List.mem_singleton]
          have q1 := H1.out.2.2.2.2
          have q2 := H2.out.1.size
          omega)⟩⟩
    subst hn6
    obtain ⟨hn7, ha7⟩ : n7 = l.length ∧ (1 ≤ l.length → ∃ g7, a7 = some ⟨g7, 0, none⟩ ∧ RowO w3.heap.size w4 g7 l) := by
      obtain ⟨_, ⟨z, z0⟩ | ⟨g', cap', cur, z, z2, z3, z4⟩⟩ := hv7
      · cases z; exact ⟨z0.symm, fun h => by omega⟩
      · cases z; exact ⟨rfl, fun _ => ⟨g', rfl, cur, cells, z3, z4.2.2.2, ho7⟩⟩
    subst hn7
    have HL4 := Lib.hid (show ∀ x ∈ l, x.2.2.length ≤ 4 from listGo_all (p := fun x : One => x.2.2.length ≤ 4) oneGo_four e4)
    have HL := Lib.hid (show _ ∧ _ ∧ _ ∧ _ ∧ _ from ⟨e1, ho4, hl8, ha7, ha6⟩)
    clear e1 e2 e3 e4 ho4 hl8 ho6 hv7 ho7 ha6 ha7
    by_cases hbad : 8 ≤ c.toNat ∨ own.length < 1
    · have k9 := new_not c a6 own.length c6 w4 (by omega)
      have HBAD := Lib.hid hbad
      clear hbad
      unfold byteV at k9
      go_wp2_with (go_at_call 9; refine k9.mono ?_; clear k9; rintro e _ ⟨rfl, rfl⟩)
      go_ret2
      refine .inl ⟨?_, rfl, HU4.out⟩
      unfold loadM
      rw [HL.out.1, Option.bind_some, if_neg]
      have := HBAD.out
      simp only
      omega
    · obtain ⟨g6, rfl, hr6⟩ := HL.out.2.2.2.2 (by omega)
      have k9 := new_new c g6 c6 own w4 w4 (Upd.refl [] w4) hr6 (by omega) (by omega) HL.out.2.1
      have HGOOD := Lib.hid (show c.toNat < 8 ∧ 1 ≤ own.length by omega)
      clear hbad hr6
      unfold bookV byteV at k9
      go_wp2_with (go_at_call 9; refine k9.mono ?_; clear k9; rintro e w5 ⟨b, rfl, hb5, hu5⟩; have H5 := Lib.hid (show _ ∧ _ from ⟨hb5, hu5⟩); clear hb5 hu5)
      have hI : (l.length : Int) ≤ 8 := by have := HL.out.2.2.1; omega
      go_loopw [37] (fun i wr => ∃ (k : Nat) (μ : Bk), i = .int .i64 (k : Int) ∧ k ≤ l.length ∧ Hid (NewBook w4.heap.size wr b c (setF own) μ ∧ Upd [] w4 wr ∧ onesM c noneM l = onesM c μ (l.drop k))) (fun i _ => l.length - (intOf i).toNat)
      case atStart => exact ⟨0, noneM, rfl, by omega, Lib.hid ⟨H5.out.1, H5.out.2, rfl⟩⟩
      case round =>
        obtain ⟨k, μ, rfl, hk, hR⟩ := hrel
        by_cases hlt : k < l.length
        · have hltI : (k : Int) < (l.length : Int) := by omega
          obtain ⟨g7, rfl, hr7⟩ := HL.out.2.2.2.1 (by omega)
          obtain ⟨cs, hone, hrg⟩ := (hr7.upd hR.out.2.1 (by simp) (by simp)).get k hlt
          obtain ⟨vv, rfl, ⟨ad, an, ac, rfl⟩, hkn⟩ := hone
          obtain ⟨x, hx⟩ : ∃ x, x = l[k] := ⟨_, rfl⟩
          have hx4 : x.2.2.length ≤ 4 := by rw [hx]; exact HL4.out _ (List.getElem_mem hlt)
          have hkn4 : (x.2.2.length : Int) ≤ 4 := by omega
          rw [← hx] at hkn hrg
          obtain ⟨han, had⟩ : an = x.2.2.length ∧ (1 ≤ x.2.2.length → ∃ g8, ad = some ⟨g8, 0, none⟩ ∧ RowN wr g8 x.2.2) := by
            obtain ⟨_, ⟨z, z0⟩ | ⟨g', cap', cur, z, z2, z3, z4⟩⟩ := hkn
            · cases z; exact ⟨z0.symm, fun h => by omega⟩
            · cases z; exact ⟨rfl, fun _ => ⟨g', rfl, cur, z3, z4.2.2.2⟩⟩
          subst han
          have hon : onesM c noneM l = (oneM c μ x).bind fun μ2 => onesM c μ2 (l.drop (k + 1)) := by
            rw [hR.out.2.2, List.drop_eq_getElem_cons hlt, ← hx]
            rfl
          have HX2 := Lib.hid (show _ ∧ _ ∧ _ from ⟨hrg, had, hon⟩)
          have hbox := heap_alloc_new wr (.cells #[byteV x.1, byteV x.2.1, .slice ad x.2.2.length ac] 70 (0, 0))
          have huB : Upd [] wr (wr.alloc (.cells #[byteV x.1, byteV x.2.1, .slice ad x.2.2.length ac] 70)) := Upd.new wr _
          have hJ0 : Hid (NewBook w4.heap.size (wr.alloc (.cells #[byteV x.1, byteV x.2.1, .slice ad x.2.2.length ac] 70)) b c (setF own) μ ∧ Upd [] w4 (wr.alloc (.cells #[byteV x.1, byteV x.2.1, .slice ad x.2.2.length ac] 70)) ∧ Keep82 (wr.alloc (.cells #[byteV x.1, byteV x.2.1, .slice ad x.2.2.length ac] 70)) (wr.alloc (.cells #[byteV x.1, byteV x.2.1, .slice ad x.2.2.length ac] 70)) ∧ knsM c μ x.1 x.2.2 = knsM c μ x.1 (x.2.2.drop 0)) :=
            Lib.hid ⟨hR.out.1.upd0 huB, hR.out.2.1.trans huB, Keep82.refl _, rfl⟩
          have HBX := Lib.hid (show _ ∧ _ from ⟨hbox, huB⟩)
          clear hrg had hon hbox huB hkn hr7 hx
          unfold byteV at *
          go_wp2_with (refine wpList_load_mid rfl 70 _ rfl g7 (k * 3) rfl [.int .u8 (x.1.toNat : Int), .int .u8 (x.2.1.toNat : Int), .slice ad x.2.2.length ac] _ HX2.out.1 Tryz.underlying70 rfl (by rw [Tryz.size70]; rfl) ?_)
          generalize hwB : wr.alloc (Obj.cells #[Value.int IntKind.u8 (x.1.toNat : Int), Value.int IntKind.u8 (x.2.1.toNat : Int), Value.slice ad x.2.2.length ac] 70) = wB at hJ0 HBX ⊢
          clear hwB
          generalize hLb : wr.heap.size = Lb at HBX ⊢
          clear hLb
          go_loopw [44] (fun i wi => ∃ (jn : Nat) (μ1 : Bk), i = .int .i64 (jn : Int) ∧ jn ≤ x.2.2.length ∧ Hid (NewBook w4.heap.size wi b c (setF own) μ1 ∧ Upd [] w4 wi ∧ Keep82 wB wi ∧ knsM c μ x.1 x.2.2 = knsM c μ1 x.1 (x.2.2.drop jn))) (fun i _ => x.2.2.length - (intOf i).toNat)
          case atStart => exact ⟨0, μ, rfl, by omega, hJ0⟩
          case round =>
            obtain ⟨jn, μ1, rfl, hjn, hJ⟩ := hrel
            by_cases hjlt : jn < x.2.2.length
            · have hjI : (jn : Int) < (x.2.2.length : Int) := by omega
              obtain ⟨g8, rfl, hr8⟩ := HX2.out.2.1 (by omega)
              obtain ⟨i1, i2, i3, i4⟩ := hJ.out
              obtain ⟨y, hy⟩ : ∃ y, y = x.2.2[jn] := ⟨_, rfl⟩
              have hry := (hr8.keep82 (HBX.out.2.keep82.trans i3)).range jn hjlt
              rw [← hy] at hry
              have ha : (wr.alloc (.cells zkn.toArray 73)).heap[wr.heap.size]? = some (.cells zkn.toArray 73 (0, 0)) := heap_alloc_new wr _
              have hb := setRow_heap (wr.alloc (.cells zkn.toArray 73)) wr.heap.size zkn.toArray (knCells y).toArray 73 (0, 0) ha
              have hu : Upd [] wr ((wr.alloc (.cells zkn.toArray 73)).setRow wr.heap.size (knCells y).toArray) := (Upd.new wr _).setRow (.inl (Nat.le_refl _)) _
              have hbx := hu.heap (i3 _ _ _ _ HBX.out.1 (by decide)) (by simp)
              have d0 : ((wr.alloc (.cells zkn.toArray 73)).setRow wr.heap.size (knCells y).toArray).cell? ⟨Lb, 0, none⟩ = some (.int .u8 (x.1.toNat : Int)) := cell_of_heap hbx 0
              have d1 : ((wr.alloc (.cells zkn.toArray 73)).setRow wr.heap.size (knCells y).toArray).cell? ⟨wr.heap.size, 0, none⟩ = some (.int .u8 (y.1.toNat : Int)) := cell_of_heap hb 0
              have d2 : ((wr.alloc (.cells zkn.toArray 73)).setRow wr.heap.size (knCells y).toArray).rangeAt wr.heap.size 1 (keyCells y.2) := by
                intro q v hq
                rw [cell_of_heap hb]
                simp only [List.getElem?_toArray, knCells]
                rw [show 1 + q = q + 1 by omega, List.getElem?_cons_succ]
                exact hq
              have hkn2 : knsM c μ x.1 x.2.2 = (learnM c μ1 x.1 y.1 y.2).bind fun μ2 => knsM c μ2 x.1 (x.2.2.drop (jn + 1)) := by
                rw [i4, List.drop_eq_getElem_cons hjlt, ← hy]
                rfl
              have HK := Lib.hid (show _ ∧ _ ∧ _ ∧ _ ∧ _ ∧ _ ∧ _ from ⟨hry, ha, hb, hu, d2, hkn2, hy⟩)
              have hnb := i1.upd0 hu
              have huw := i2.trans hu
              clear hry ha hb hu d2 hkn2 i1 i2 i3 i4 hbx hr8 hy
              by_cases hm : mayE c x.1 y.1 = 0
              · have k11 := learn_newB hnb huw x.1 y.1 y.2 hm
                have HM := Lib.hid hm
                clear hm hnb huw
                unfold bookV devV byteV at k11
                go_wp2_with (first
                  | (refine wpList_load_mid rfl 73 _ rfl g8 (jn * 33) rfl (knCells y) _ HK.out.1 Tryz.underlying73 rfl (hu73 _) ?_)
                  | (refine wpList_store_row rfl 73 _ _ rfl wr.heap.size (knCells y).toArray rfl rfl 73 zkn.toArray HK.out.2.1 (size73 (knCells_len y)) (by simp [knCells_len, zkn, zc_len]) (all_oneCell_toArray (knCells_one y)) ?_; change wpList _ _ _ _ _ ((wr.alloc (.cells zkn.toArray 73)).setRow wr.heap.size (knCells y).toArray))
                  | (refine wpList_load_mid rfl 31 _ rfl wr.heap.size 1 rfl (keyCells y.2) _ HK.out.2.2.2.2.1 Tryz.underlying31 rfl (hu31 _) ?_)
                  | (go_at_call 11; refine k11.mono ?_; clear k11; rintro e wk ⟨rfl, q1, q2, q3⟩; have HQ := Lib.hid (show _ ∧ _ ∧ _ from ⟨q1, q2, q3⟩); clear q1 q2 q3))
                go_roundw
                case rel =>
                  refine ⟨jn + 1, _, rfl, by omega, Lib.hid ⟨HQ.out.1, HQ.out.2.1, hJ.out.2.2.1.trans (HK.out.2.2.2.1.keep82.trans HQ.out.2.2), ?_⟩⟩
                  rw [HK.out.2.2.2.2.2.1]
                  unfold learnM
                  rw [if_pos HM.out]
                  rfl
                case measure => simp [intOf]; omega
              · have k11 := learn_newA hnb x.1 y.1 y.2 hm
                have HM := Lib.hid (show _ ∧ _ from ⟨hm, huw⟩)
                clear hm hnb huw
                unfold bookV devV byteV at k11
                go_wp2_with (first
                  | (refine wpList_load_mid rfl 73 _ rfl g8 (jn * 33) rfl (knCells y) _ HK.out.1 Tryz.underlying73 rfl (hu73 _) ?_)
                  | (refine wpList_store_row rfl 73 _ _ rfl wr.heap.size (knCells y).toArray rfl rfl 73 zkn.toArray HK.out.2.1 (size73 (knCells_len y)) (by simp [knCells_len, zkn, zc_len]) (all_oneCell_toArray (knCells_one y)) ?_; change wpList _ _ _ _ _ ((wr.alloc (.cells zkn.toArray 73)).setRow wr.heap.size (knCells y).toArray))
                  | (refine wpList_load_mid rfl 31 _ rfl wr.heap.size 1 rfl (keyCells y.2) _ HK.out.2.2.2.2.1 Tryz.underlying31 rfl (hu31 _) ?_)
                  | (go_at_call 11; refine k11.mono ?_; clear k11; rintro e wk ⟨rfl, q1⟩; have HQ := Lib.hid q1; clear q1))
                go_ret2
                refine .inl ⟨loadM_ones HL.out.1 ?_, rfl, HU4.out.trans (HM.out.2.trans HQ.out)⟩
                rw [HX2.out.2.2]
                have e0 : knsM c μ x.1 x.2.2 = none := by
                  rw [HK.out.2.2.2.2.2.1]
                  unfold learnM
                  rw [if_neg HM.out.1]
                  rfl
                unfold oneM
                rw [e0]
                rfl
            · obtain rfl : jn = x.2.2.length := by omega
              obtain ⟨⟨g9, cap9, r9, m9, hbk, hcm, b1, b2, b3, b4⟩, i2, i3, i4⟩ := hJ.out
              have e0 : knsM c μ x.1 x.2.2 = some μ1 := by rw [i4, List.drop_length]; rfl
              have hon2 : onesM c noneM l = ((μ1 x.1).bind fun c9 => if 1 ≤ x.2.1.toNat ∧ x.2.1.toNat ≤ 3 then some (μ1.put x.1 (c9.setSt x.2.1)) else none).bind fun μ2 => onesM c μ2 (l.drop (k + 1)) := by
                rw [HX2.out.2.2]
                unfold oneM
                rw [e0, Option.bind_some]
              have hbx := i3 _ _ _ _ HBX.out.1 (by decide)
              have d0 : wr.cell? ⟨Lb, 0, none⟩ = some (.int .u8 (x.1.toNat : Int)) := cell_of_heap hbx 0
              have d1 : wr.cell? ⟨Lb, 1, none⟩ = some (.int .u8 (x.2.1.toNat : Int)) := cell_of_heap hbx 1
              have dm : wr.cell? ⟨b, 2, none⟩ = some (.map (some r9)) := cell_of_heap hbk.cell 2
              have hlk : ∀ n, (Instr.lookup 78 (.map (some r9)) (.int .u8 (x.1.toNat : Int)) false).run Tryz.prog (wr.drewN n) = .ok (ptrOf ((look x.1 m9).map (·.1))) (wr.drewN n) := by
                intro n
                have := (hbk.upd0 ((Upd.refl [] wr).drewN n)).map.lookup x.1
                rw [look_ptrs] at this
                exact this
              have hμ : μ1 x.1 = (look x.1 m9).map (·.2) := by rw [← hcm]; rfl
              have HZ := Lib.hid (show _ ∧ _ ∧ _ ∧ _ ∧ _ ∧ _ ∧ _ ∧ _ ∧ _ ∧ _ from ⟨hbk, hcm, b1, b2, b3, b4, i2, hon2, hμ, hbx⟩)
              clear hbk hcm b1 b2 b3 b4 i2 i3 i4 e0 hon2 hμ hbx
              cases hlook : look x.1 m9 with
              | none =>
                rw [hlook] at hlk
                simp only [Option.map_none, ptrOf] at hlk
                have HLK := Lib.hid hlook
                clear hlook
                go_upto_region 20 with fail
                go_quiet (fail)
                go_wp2
                go_ret2
                refine .inl ⟨loadM_ones HL.out.1 ?_, rfl, HU4.out.trans (HZ.out.2.2.2.2.2.2.1.drewN _)⟩
                rw [HZ.out.2.2.2.2.2.2.2.1, HZ.out.2.2.2.2.2.2.2.2.1, HLK.out]
                rfl
              | some pc =>
                obtain ⟨p9, c9⟩ := pc
                rw [hlook] at hlk
                simp only [Option.map_some, ptrOf] at hlk
                have HLK := Lib.hid hlook
                clear hlook
                by_cases hgd : 1 ≤ x.2.1.toNat ∧ x.2.1.toNat ≤ 3
                · have t1 : decide ((x.2.1.toNat : Int) < 1) = false := by simp; omega
                  have t2 : decide ((3 : Int) < (x.2.1.toNat : Int)) = false := by simp; omega
                  have HGD := Lib.hid hgd
                  clear hgd
                  go_upto_region 20 with fail
                  go_quiet (fail)
                  go_upto_region 22 with fail
                  obtain ⟨hbk, hcm, b1, b2, b3, b4, i2, hon2, hμ, hbx⟩ := HZ.out
                  obtain ⟨wq, hwq⟩ : ∃ X, wr.drewN nq = X := ⟨_, rfl⟩
                  have hdq : Upd [] wr wq := by rw [← hwq]; exact (Upd.refl [] wr).drewN nq
                  have hbkq := hbk.upd0 hdq
                  have hc9 := hbkq.con _ (look_mem HLK.out)
                  have hst := hc9.setSt x.2.1
                  have hne1 : p9 ≠ b := hc9.ne hbkq.cell (by decide)
                  have hne2 : p9 ≠ Lb := hc9.ne (hdq.heap hbx (by simp)) (by decide)
                  have hS : ∀ W, Upd [p9] wq W → (W.cell? ⟨Lb, 0, none⟩ = some (.int .u8 (x.1.toNat : Int)) ∧ W.cell? ⟨Lb, 1, none⟩ = some (.int .u8 (x.2.1.toNat : Int)) ∧ W.cell? ⟨b, 2, none⟩ = some (.map (some r9))) := by
                    intro W h
                    have z1 := h.heap (hdq.heap hbx (by simp)) (by simp [Ne.symm hne2])
                    have z2 := h.heap hbkq.cell (by simp [Ne.symm hne1])
                    exact ⟨cell_of_heap z1 0, cell_of_heap z1 1, cell_of_heap z2 2⟩
                  have hS0 := Lib.hid (hS wq.drew ((Upd.refl [p9] wq).drew))
                  have hS1 := Lib.hid (hS _ hst.2.drew)
                  have hlkq : (Instr.lookup 78 (.map (some r9)) (.int .u8 (x.1.toNat : Int)) false).run Tryz.prog wq.drew = .ok (.pointer (some ⟨p9, 0, none⟩)) wq.drew := by
                    have := hlk (nq + 1)
                    rw [← World.drewN_drewN, hwq] at this
                    exact this
                  have hc132 : wq.cell? ⟨p9, 132, none⟩ = some (.int .u8 (c9.st.toNat : Int)) := hc9.state
                  have hf132 := hc9.free 132
                  have hturn := NewBook.turn (w0 := w4) hbkq hcm b1 b2 b3 b4 HLK.out hst.2 hst.1 (i2.trans hdq)
                  unfold byteV at hst hturn hS1
                  have HT := Lib.hid hturn
                  rw [hwq]
                  clear hwq hdq hbk hbkq hcm b1 b2 b3 b4 i2 hon2 hμ hbx hc9 hst hturn hS d0 d1 dm hlk hne1 hne2
                  go_region_held (fun w' => w'.cell? ⟨Lb, 0, none⟩ = some (.int .u8 (x.1.toNat : Int)) ∧ w'.cell? ⟨Lb, 1, none⟩ = some (.int .u8 (x.2.1.toNat : Int)) ∧ w'.cell? ⟨b, 2, none⟩ = some (.map (some r9))) (first | exact hS0.out | exact hS1.out) (fail)
                  go_wp2
                  go_roundw
                  case rel =>
                    refine ⟨k + 1, _, rfl, by omega, Lib.hid ⟨HT.out.1.upd0 (Upd.refl [] _).drew, HT.out.2.drew, ?_⟩⟩
                    rw [HZ.out.2.2.2.2.2.2.2.1, HZ.out.2.2.2.2.2.2.2.2.1, HLK.out, Option.map_some, Option.bind_some, if_pos HGD.out, Option.bind_some]
                  case measure => simp [intOf]; omega
                · have HGD := Lib.hid hgd
                  by_cases hlo : x.2.1.toNat < 1
                  · have t1 : (x.2.1.toNat : Int) < 1 := by omega
                    clear hgd hlo
                    go_upto_region 20 with fail
                    go_quiet (fail)
                    go_wp2
                    go_ret2
                    refine .inl ⟨loadM_ones HL.out.1 ?_, rfl, HU4.out.trans (HZ.out.2.2.2.2.2.2.1.drewN _)⟩
                    rw [HZ.out.2.2.2.2.2.2.2.1, HZ.out.2.2.2.2.2.2.2.2.1, HLK.out, Option.map_some, Option.bind_some, if_neg HGD.out]
                    rfl
                  · have t1 : decide ((x.2.1.toNat : Int) < 1) = false := by simp; omega
                    have t2 : (3 : Int) < (x.2.1.toNat : Int) := by omega
                    clear hgd hlo
                    go_upto_region 20 with fail
                    go_quiet (fail)
                    go_wp2
                    go_ret2
                    refine .inl ⟨loadM_ones HL.out.1 ?_, rfl, HU4.out.trans (HZ.out.2.2.2.2.2.2.1.drewN _)⟩
                    rw [HZ.out.2.2.2.2.2.2.2.1, HZ.out.2.2.2.2.2.2.2.2.1, HLK.out, Option.map_some, Option.bind_some, if_neg HGD.out]
                    rfl
        · obtain rfl : k = l.length := by omega
          obtain ⟨hnb, hu, hon⟩ := hR.out
          have hon2 : onesM c noneM l = some μ := by rw [hon, List.drop_length]; rfl
          have k8 := bytes_new hnb (setF_nil HGOOD.out.2) (Nat.le_trans (setF_len own) HL.out.2.1)
          obtain ⟨bl, hbl⟩ : ∃ bl, bl = bookM c (setF own) μ := ⟨_, rfl⟩
          rw [← hbl] at k8
          have k29 : ∀ (W : World) (h cc : Nat), Hid (Shows W ⟨h, 0, none⟩ bl ∧ Upd [] wr W) → Calls Tryz.prog 29 #[.slice (some ⟨h, 0, none⟩) bl.length cc, .slice (some ⟨gx, off, none⟩) xs.length cap] W fun e W' => e = .returned (.bool (decide (bl = xs))) ∧ W' = W := by
            intro W h cc hW
            have hsh : Shows W ⟨gx, off, none⟩ xs := by
              intro j u hj
              rw [Addr.add_lit]
              exact (HX.out.1.upd ((HU4.out.trans hu).trans hW.out.2) (by simp)).news j u hj
            exact equal29 ⟨h, 0, none⟩ ⟨gx, off, none⟩ bl xs cc cap hW.out.1 hsh
          have HF := Lib.hid (show _ ∧ _ ∧ _ ∧ _ from ⟨hnb, hu, hon2, hbl⟩)
          obtain ⟨eq, heq⟩ : ∃ eq : Bool, eq = decide (bl = xs) := ⟨_, rfl⟩
          rw [← heq] at k29
          have HEQ := Lib.hid heq
          clear hnb hu hon hon2 hbl heq
          unfold bookV at k8
          have hload : loadM xs = if bl = xs then some (c, setF own, μ) else none := by
            unfold loadM
            rw [HL.out.1, Option.bind_some, if_pos ⟨HGOOD.out.1, HGOOD.out.2⟩]
            simp only [HF.out.2.2.1, Option.bind_some]
            rw [← HF.out.2.2.2]
          have HLD := Lib.hid hload
          clear hload
          cases eq with
          | true =>
            go_wp2_with (first
              | (go_at_call 8; refine k8.mono ?_; clear k8; rintro e w6 ⟨h, cc, rfl, q1, q2⟩; have HQ : Hid (Shows w6 ⟨h, 0, none⟩ bl ∧ Upd [] wr w6) := Lib.hid ⟨q1, q2⟩; have k29a := k29 w6 h cc HQ; clear q1 q2)
              | (go_at_call 29; refine k29a.mono ?_; clear k29a; rintro e _ ⟨rfl, rfl⟩))
            go_ret2
            refine .inr ⟨c, setF own, μ, b, ?_, rfl, ?_, HU4.out.trans (HF.out.2.1.trans HQ.out.2)⟩
            · rw [HLD.out, if_pos (by have := HEQ.out; simpa using this.symm)]
            · obtain ⟨g, cp, r, m, z1, z2, z3, z4, z5, z6⟩ := HF.out.1.upd0 HQ.out.2
              have hsz := HU4.out.size
              exact ⟨g, cp, r, m, z1, z2, by omega, by omega, by omega, fun q hq => Nat.le_trans hsz (z6 q hq)⟩
          | false =>
            go_wp2_with (first
              | (go_at_call 8; refine k8.mono ?_; clear k8; rintro e w6 ⟨h, cc, rfl, q1, q2⟩; have HQ : Hid (Shows w6 ⟨h, 0, none⟩ bl ∧ Upd [] wr w6) := Lib.hid ⟨q1, q2⟩; have k29a := k29 w6 h cc HQ; clear q1 q2)
              | (go_at_call 29; refine k29a.mono ?_; clear k29a; rintro e _ ⟨rfl, rfl⟩))
            go_ret2
            refine .inl ⟨?_, rfl, HU4.out.trans (HF.out.2.1.trans HQ.out.2)⟩
            rw [HLD.out, if_neg (by have := HEQ.out; simpa using this.symm)]
  · subst he
    go_wp2
    go_ret2
    exact .inl ⟨loadM_parts (partsGo_not hst), rfl, HU4.out⟩
end Go.Proofs.YtdbceafejbnebaaGreatDoor
