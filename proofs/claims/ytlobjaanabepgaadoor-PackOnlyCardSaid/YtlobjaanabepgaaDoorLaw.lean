/- What the law knows. -/
import Derived.Test.YtlobjaanabepgaaDoorPackB
import Derived.Test.YtlobjaanabepgaaDoorRun
namespace Go.Proofs.YtlobjaanabepgaaDoor
open Go Go.AM
set_option maxRecDepth 100000
set_option linter.unusedVariables false
set_option linter.unusedSimpArgs false
def T0 : Tb := ⟨List.replicate 256 0, [[-1]], [-1]⟩
theorem encT0 : encB T0 = b0 := by kernel_rfl
theorem okT0 : encOk T0 = true := by kernel_rfl
theorem okZ : encOk ⟨[], [], []⟩ = false := by kernel_rfl
theorem hq_emp : hq .nil 0 = emp := rfl
/-- A table that was read off a memory. -/
theorem chkT_spec {lo : Nat} {h : AHeap} {v : AV} (H : chkT lo h v = true) : ∃ c n t w, v = .agg [c, n, t] ∧ (Byt h c T0.cls ∧ Sl1 id h n [w] ∧ Ints h w [-1] ∧ Ints h t [-1]) ∧ (newV lo c = true ∧ newV lo n = true ∧ newV lo t = true ∧ newV lo w = true) := by
  unfold chkT at H
  split at H
  rotate_left
  · cases H
  rename_i c n t
  split at H
  rotate_left
  · cases H
  rename_i cl w tl h1 h2 h3
  simp only [Bool.and_eq_true, beq_iff_eq] at H
  obtain ⟨g1, g2, g3, ⟨g4, rfl⟩, rfl, H⟩ := H
  split at H
  rotate_left
  · cases H
  rename_i r h4
  simp only [beq_iff_eq] at H
  subst H
  exact ⟨c, n, t, w, rfl, ⟨readI_spec h1, readV_spec h2, readI_spec h4, readI_spec h3⟩, g1, g2, g3, g4⟩
theorem newV_spec {lo : Nat} {v : AV} (H : newV lo v = true) (hv : ∀ b g i f, v ≠ .ptr b g i f) (hm : ∀ r, v ≠ .map r) : ∀ b, inV v b → lo ≤ b := by
  intro b hb
  cases v <;> first | exact hb.elim | (exact absurd rfl (hv _ _ _ _)) | (exact absurd rfl (hm _)) | skip
  simp only [newV] at H
  have : b = _ := hb
  subst this
  exact Nat.le_of_ble_eq_true H
theorem tab0 {h : AHeap} {c n t w : AV} (h1 : Byt h c T0.cls) (h2 : Sl1 id h n [w]) (h3 : Ints h w [-1]) (h4 : Ints h t [-1]) : TabV h c n t T0 where
  c := h1
  n := ⟨[w], h2, rfl, fun j a b => by
    have : j = 0 := by simpa using a
    subst this
    exact h3⟩
  t := h4
  cr := fun x hx => by simp only [T0, List.mem_replicate] at hx; rw [hx.2]; unfold U8; omega
  nr := fun r hr x hx => by simp only [T0, List.mem_singleton] at hr; subst hr; simp only [List.mem_singleton] at hx; subst hx; unfold I64; omega
  tr := fun x hx => by simp only [T0, List.mem_singleton] at hx; subst hx; unfold I64; omega
  cl := by simp [T0]
  nl := by simp [T0]
  tl := by simp [T0]
  rl := fun r hr => by simp only [T0, List.mem_singleton] at hr; subst hr; simp
theorem tabZ (h : AHeap) : TabV h .nils .nils .nils ⟨[], [], []⟩ where
  c := Sl1.nil ..
  n := ⟨[], Sl1.nil .., rfl, fun j a b => absurd a (by simp)⟩
  t := Sl1.nil ..
  cr := fun _ h => (by cases h)
  nr := fun _ h => (by cases h)
  tr := fun _ h => (by cases h)
  cl := by simp
  nl := by simp
  tl := by simp
  rl := fun _ h => (by cases h)
theorem table_spec (h : AHeap) : SC P 8 [.nils, .int .u8 0, .nils, .nils] h (fun x h' => HK no h h' ∧ ∃ c n t, x = .agg [c, n, t] ∧ TabV h' c n t T0) := by
  have H := qRun_spec hm 4000 _ _ _ _ _ table_run
  rw [hq_emp] at H
  refine SC_mono (SC_emb H rfl h) ?_
  rintro v h' ⟨v0, h0, ⟨t, n, rfl, hk⟩, rfl, rfl⟩
  obtain ⟨c, n', t', w, rfl, ⟨h1, h2, h3, h4⟩, _⟩ := chkT_spec hk
  refine ⟨emb_keep .., sft h.n c, sft h.n n', sft h.n t', by simp [sft, sfts], ?_⟩
  exact tab0 (w := sft h.n w) (h1.emb_int h) (by have := h2.emb_id h; simpa using this) (h3.emb_int h) (h4.emb_int h)
theorem notPtr {α : Type} {f : α → AV} {h : AHeap} {v : AV} {l : List α} (H : Sl1 f h v l) : (∀ b g i q, v ≠ .ptr b g i q) ∧ (∀ r, v ≠ .map r) := by
  rcases H with ⟨rfl, _⟩ | ⟨b, g, i, B, rfl, _⟩
  · exact ⟨fun _ _ _ _ e => (by cases e), fun _ e => (by cases e)⟩
  · exact ⟨fun _ _ _ _ e => (by cases e), fun _ e => (by cases e)⟩
theorem decode0_spec {h : AHeap} {v : AV} (B : Byt h v b0) : SC P 5 [v] h (fun x h' => HK no h h' ∧ ∃ c n t, x = .tup [.agg [c, n, t], .int .u16 0] ∧ TabV h' c n t T0) := by
  have B' := B
  rcases B with ⟨_, e⟩ | ⟨b, g, i, _, rfl, _⟩
  · simp [b0] at e
  have H := qRun_spec hm 4000 _ _ _ _ _ decode_run
  have V : View [.sl b g i (b0.map fun a => [AV.int .u8 a]).length] (hq (.node (some (.blk ⟨1, b0.map fun c => [.int .u8 c], 0, 0, true⟩)) .nil .nil) 1) h := View.one B' rfl rfl
  refine SC_mono (SC_view H V rfl ?_) ?_
  · rintro v0 h0 ⟨t, n, rfl, hk⟩ j hj
    have : j = 0 := by simpa using hj
    subst this
    unfold chkD at hk
    split at hk
    rotate_left
    · cases hk
    simp only [Bool.and_eq_true] at hk
    have h3 := hk.2.2
    unfold fstOk at h3
    split at h3
    · rename_i B hB
      exact ⟨B, hB, Nat.eq_of_beq_eq_true h3⟩
    · cases h3
  · rintro v h' ⟨v0, h0, ⟨t, n, rfl, hk⟩, rfl, rfl⟩
    unfold chkD at hk
    split at hk
    rotate_left
    · cases hk
    rename_i tv nn
    simp only [Bool.and_eq_true, beq_iff_eq] at hk
    obtain ⟨hk, rfl, _⟩ := hk
    obtain ⟨c, n', t', w, rfl, ⟨h1, h2, h3, h4⟩, g1, g2, g3, g4⟩ := chkT_spec hk
    refine ⟨emV_keep .., ren [.sl b g i (b0.map fun a => [AV.int .u8 a]).length] h.n c, ren [.sl b g i (b0.map fun a => [AV.int .u8 a]).length] h.n n', ren [.sl b g i (b0.map fun a => [AV.int .u8 a]).length] h.n t', by simp only [ren, rens], ?_⟩
    refine tab0 (h1.emV_int (newV_spec g1 (notPtr h1).1 (notPtr h1).2)) (w := ren [.sl b g i (b0.map fun a => [AV.int .u8 a]).length] h.n w) ?_ (h3.emV_int (newV_spec g4 (notPtr h3).1 (notPtr h3).2)) (h4.emV_int (newV_spec g3 (notPtr h4).1 (notPtr h4).2))
    have := h2.emV_id (h := h) (big := [.sl b g i (b0.map fun a => [AV.int .u8 a]).length]) (newV_spec g2 (notPtr h2).1 (notPtr h2).2)
    simpa using this
theorem known_spec (h : AHeap) : SC P 4 [] h (fun x h' => HK no h h' ∧ x = .bool true) := by
  refine SC_X hm Tryd.func4 rfl (by kernel_rfl) ?_
  simp only [go_sem, reduceIte, Nat.reduceEqDiff]
  refine SC_mono (table_spec h) ?_
  rintro x h1 ⟨K1, c, n, t, rfl, V1⟩
  have cc := V1.c.isCell
  have ct := V1.t.isCell
  have cn : n.isCell = true := by obtain ⟨vs, B, _⟩ := V1.n; exact B.isCell
  simp only [go_sem, reduceIte, Nat.reduceEqDiff]
  -- t
  have K2 : HK no h1 (newS 3 [[.nils, .nils, .nils]] h1) := newS_keep ..
  have C2 : Cel (newS 3 [[.nils, .nils, .nils]] h1) h1.n [.nils, .nils, .nils] := Cel.newS h1 [.nils, .nils, .nils]
  generalize newS 3 [[.nils, .nils, .nils]] h1 = h2 at *
  obtain ⟨h3, e3, C3, K3, n3⟩ := C2.stA (cs' := [c, n, t]) rfl (by simp [cc, cn, ct])
  have KK3 : HK no h1 h3 := K2.trans' K3 (fun i hi e => by omega)
  have e3' : fStore (2 + 1) h2 (.ptr h1.n 0 0 0) (.agg [c, n, t]) = some h3 := e3
  have V3 := V1.keep0 KK3
  have L3 : fLoad true 3 h3 (.ptr h1.n 0 0 0) = some (.agg [c, n, t]) := C3.ldW
  simp only [go_sem, reduceIte, Nat.reduceEqDiff, Nat.reduceAdd, e3', L3]
  refine SC_mono (encode_spec V3) ?_
  rintro x h4 ⟨K4, bv, hx⟩
  rcases hx with ⟨_, rfl, O4⟩ | ⟨hk, _⟩
  rotate_left
  · rw [okT0] at hk; cases hk
  rw [encT0] at O4
  have B4 := O4.sl
  simp only [go_sem, reduceIte, Nat.reduceEqDiff, Nat.reduceAdd]
  refine SC_mono (decode0_spec B4) ?_
  rintro x h5 ⟨K5, c5, n5, t5, rfl, V5⟩
  have cc5 := V5.c.isCell
  have ct5 := V5.t.isCell
  have cn5 : n5.isCell = true := by obtain ⟨vs, B, _⟩ := V5.n; exact B.isCell
  simp only [go_sem, reduceIte, Nat.reduceEqDiff, Nat.reduceAdd]
  have K6 : HK no h5 (newS 3 [[.nils, .nils, .nils]] h5) := newS_keep ..
  have C6 : Cel (newS 3 [[.nils, .nils, .nils]] h5) h5.n [.nils, .nils, .nils] := Cel.newS h5 [.nils, .nils, .nils]
  generalize newS 3 [[.nils, .nils, .nils]] h5 = h6 at *
  obtain ⟨h7, e7, C7, K7, n7⟩ := C6.stA (cs' := [c5, n5, t5]) rfl (by simp [cc5, cn5, ct5])
  have KK7 : HK no h5 h7 := K6.trans' K7 (fun i hi e => by omega)
  have e7' : fStore (2 + 1) h6 (.ptr h5.n 0 0 0) (.agg [c5, n5, t5]) = some h7 := e7
  simp only [go_sem, reduceIte, Nat.reduceEqDiff, Nat.reduceAdd, e7']
  refine SC_mono (decode_spec (Sl1.nil _ h7) (fun _ h => (by cases h)) (by simp)) ?_
  rintro x h8 ⟨K8, hx⟩
  rcases hx with rfl | ⟨c8, n8, t8, T, rfl, V8, _, he⟩
  rotate_left
  · exact absurd he (by simp [encB, bodyE])
  simp only [go_sem, reduceIte, Nat.reduceEqDiff, Nat.reduceAdd]
  have K9 : HK no h8 (newS 3 [[.nils, .nils, .nils]] h8) := newS_keep ..
  have C9 : Cel (newS 3 [[.nils, .nils, .nils]] h8) h8.n [.nils, .nils, .nils] := Cel.newS h8 [.nils, .nils, .nils]
  generalize newS 3 [[.nils, .nils, .nils]] h8 = h9 at *
  obtain ⟨h10, e10, C10, K10, n10⟩ := C9.stA (cs' := [.nils, .nils, .nils]) rfl rfl
  have KK10 : HK no h8 h10 := K9.trans' K10 (fun i hi e => by omega)
  have e10' : fStore (2 + 1) h9 (.ptr h8.n 0 0 0) (.agg [.nils, .nils, .nils]) = some h10 := e10
  simp only [go_sem, reduceIte, Nat.reduceEqDiff, Nat.reduceAdd, e10']
  refine SC_mono (encode_spec (tabZ h10)) ?_
  rintro x h11 ⟨K11, bz, hx⟩
  rcases hx with ⟨hk, _⟩ | ⟨_, rfl⟩
  · rw [okZ] at hk; cases hk
  simp only [go_sem, reduceIte, Nat.reduceEqDiff, Nat.reduceAdd]
  refine SC_mono (sum_spec (Sl1.nil _ h11) (by simp)) ?_
  rintro x h12 ⟨rfl, rfl⟩
  have f0 : fnv [] = 2166136261 := rfl
  have f1 : fnv [97] = 3826002220 := by kernel_rfl
  have K13 : HK no h12 (newS 1 [[AV.int .u8 97]] h12) := newS_keep ..
  have O13 := newS_own (AV.int .u8) h12.n h12 [97] (Nat.le_refl _)
  have em : fMark (newS 1 [[AV.int .u8 97]] h12) (.sl h12.n 0 0 1) = some (.sl h12.n 0 0 1) := by
    simp [fMark, newS, push_at]
  simp only [go_sem, reduceIte, Nat.reduceEqDiff, Nat.reduceAdd, f0, decide_true, em]
  refine SC_mono (sum_spec O13.sl (by simp)) ?_
  rintro x h14 ⟨rfl, rfl⟩
  -- all that was made stands
  have J4 : HK no h4 (newS 1 [[AV.int .u8 97]] h12) := ((((K5.trans KK7).trans K8).trans KK10).trans K11).trans K13
  have J7 : HK no h7 (newS 1 [[AV.int .u8 97]] h12) := ((K8.trans KK10).trans K11).trans K13
  have W1 := (V3.keep0 K4).keep0 J4
  have W5 := (V5.keep0 KK7).keep0 J7
  have M1 : fLoad true 3 (newS 1 [[AV.int .u8 97]] h12) (.ptr h1.n 0 0 0) = some (.agg [c, n, t]) := ((C3.keep0 K4).keep0 J4).ldW
  have M7 : fLoad true 3 (newS 1 [[AV.int .u8 97]] h12) (.ptr h5.n 0 0 0) = some (.agg [c5, n5, t5]) := (C7.keep0 J7).ldW
  have B12 := B4.keep0 J4
  simp only [List.map_cons, List.map_nil] at *
  simp only [go_sem, reduceIte, Nat.reduceEqDiff, Nat.reduceAdd, f1, decide_true, M1, M7]
  refine SC_mono (same14_spec W5 W1) ?_
  rintro x h15 ⟨K15, rfl⟩
  have B15 := B12.keep0 K15
  have e18 : decide ((9 : Int) < (b0.length : Int)) = true := by decide
  have e71 : b0[0] = 71 := rfl
  simp only [go_sem, reduceIte, Nat.reduceEqDiff, Nat.reduceAdd, decide_true, B15.len, e18, B15.ix0 _ (by decide : 0 < b0.length), B15.ld (by decide : 0 < b0.length), e71, Tryd.f4]
  exact ⟨(((K1.trans KK3).trans K4).trans J4).trans K15, by trivial⟩
end Go.Proofs.YtlobjaanabepgaaDoor
/- The law, walked: bytes that are a table's are the one way to write it. -/
namespace Go.Proofs.YtlobjaanabepgaaDoor
open Go Go.AM
set_option maxRecDepth 100000
set_option linter.unusedVariables false
set_option linter.unusedSimpArgs false
theorem law_spec {h : AHeap} {v : AV} {l : List Int} (B : Byt h v l) (hu : ∀ x ∈ l, U8 x) : SC P 3 [v] h (fun x h' => x = .bool true) := by
  refine SC_X hm Tryd.func3 rfl (by kernel_rfl) ?_
  simp only [go_sem, reduceIte, Nat.reduceEqDiff, B.len]
  by_cases hgt : (2000 : Int) < l.length
  · simp only [go_sem, reduceIte, Nat.reduceEqDiff, Nat.reduceAdd, hgt, decide_true]
    refine SC_mono (known_spec h) ?_
    rintro x h1 ⟨K1, rfl⟩
    simp only [go_sem, reduceIte, Nat.reduceEqDiff, Nat.reduceAdd, Tryd.f3]
  simp only [go_sem, reduceIte, Nat.reduceEqDiff, Nat.reduceAdd, hgt, decide_false]
  refine SC_mono (known_spec h) ?_
  rintro x h1 ⟨K1, rfl⟩
  simp only [go_sem, reduceIte, Nat.reduceEqDiff, Nat.reduceAdd, Bool.not_true]
  refine SC_mono (decode_spec (B.keep0 K1) hu (by omega)) ?_
  rintro x h2 ⟨K2, hx⟩
  have K3 : HK no h2 (newS 3 [[.nils, .nils, .nils]] h2) := newS_keep ..
  have C3 : Cel (newS 3 [[.nils, .nils, .nils]] h2) h2.n [.nils, .nils, .nils] := Cel.newS h2 [.nils, .nils, .nils]
  generalize hh3 : newS 3 [[.nils, .nils, .nils]] h2 = h3 at *
  rcases hx with rfl | ⟨c, n, t, T, rfl, V, hok, he⟩
  · obtain ⟨h4, e4, C4, K4, n4⟩ := C3.stA (cs' := [.nils, .nils, .nils]) rfl rfl
    have e4' : fStore (2 + 1) h3 (.ptr h2.n 0 0 0) (.agg [.nils, .nils, .nils]) = some h4 := e4
    have L4 : fLoad true 3 h4 (.ptr h2.n 0 0 0) = some (.agg [.nils, .nils, .nils]) := C4.ldW
    have d70 : decide ((70 : Int) ≠ 0) = true := by decide
    simp only [go_sem, reduceIte, Nat.reduceEqDiff, Nat.reduceAdd, hh3, e4', d70, decide_true, L4]
    refine SC_mono (same14_spec (tabZ h4) (tabZ h4)) ?_
    rintro x h5 ⟨K5, rfl⟩
    simp only [go_sem, reduceIte, Nat.reduceEqDiff, Nat.reduceAdd, Tryd.f3]
  · have cc := V.c.isCell
    have ct := V.t.isCell
    have cn : n.isCell = true := by obtain ⟨vs, B, _⟩ := V.n; exact B.isCell
    obtain ⟨h4, e4, C4, K4, n4⟩ := C3.stA (cs' := [c, n, t]) rfl (by simp [cc, cn, ct])
    have e4' : fStore (2 + 1) h3 (.ptr h2.n 0 0 0) (.agg [c, n, t]) = some h4 := e4
    have L4 : fLoad true 3 h4 (.ptr h2.n 0 0 0) = some (.agg [c, n, t]) := C4.ldW
    have KK4 : HK no h2 h4 := K3.trans' K4 (fun i hi e => by omega)
    have d0 : decide ((0 : Int) ≠ 0) = false := by decide
    simp only [go_sem, reduceIte, Nat.reduceEqDiff, Nat.reduceAdd, hh3, e4', d0, L4]
    refine SC_mono (encode_spec (V.keep0 KK4)) ?_
    rintro x h5 ⟨K5, bv, hx⟩
    rcases hx with ⟨_, rfl, O5⟩ | ⟨hk, _⟩
    rotate_left
    · rw [hok] at hk; cases hk
    rw [he] at O5
    have B5 := B.keep0 (((K1.trans K2).trans KK4).trans K5)
    have eb : (l == l) = true := by simp
    simp only [go_sem, reduceIte, Nat.reduceEqDiff, Nat.reduceAdd, decide_true, byts_str O5.sl hu, byts_str B5 hu, eb, Tryd.f3]
end Go.Proofs.YtlobjaanabepgaaDoor
