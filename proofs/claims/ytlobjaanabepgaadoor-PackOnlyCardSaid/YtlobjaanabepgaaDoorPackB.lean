/- Bytes that are cut off the front: pack's reader. -/
import Derived.Test.YtlobjaanabepgaaDoorPackA
namespace Go.Proofs.YtlobjaanabepgaaDoor
open Go Go.AM
set_option maxRecDepth 100000
set_option linter.unusedVariables false
set_option linter.unusedSimpArgs false
/-- A reader: what is left, and is it short. -/
def Rd (h : AHeap) (q : Nat) : Prop := ∃ bv s l, Cel h q [bv, .bool s] ∧ Byt h bv l ∧ (∀ b, inV bv b → b < q) ∧ (∀ x ∈ l, U8 x) ∧ l.length < 1099511627776
theorem Rd.keep {S : Nat → Prop} {h h' : AHeap} {q : Nat} (H : Rd h q) (k : HK S h h') (hs : ∀ b, b ≤ q → ¬ S b) : Rd h' q := by
  obtain ⟨bv, s, l, C, B, hb, hu, hl⟩ := H
  exact ⟨bv, s, l, C.keep k (hs q (Nat.le_refl _)), B.keep k (fun b _ hv => hs b (Nat.le_of_lt (hb b hv))), hb, hu, hl⟩
theorem Rd.keep0 {h h' : AHeap} {q : Nat} (H : Rd h q) (k : HK no h h') : Rd h' q := H.keep k (fun _ _ h => h)
theorem take_spec {h : AHeap} {q : Nat} (R : Rd h q) (n : Nat) (hn : n ≤ 65536) :
    SC P 15 [.ptr q 0 0 0, .int .i64 n] h (fun x h' => Rd h' q ∧ HK (· = q) h h' ∧ ∃ l, Byt h' x l ∧ l.length = n ∧ ∀ c ∈ l, U8 c) := by
  obtain ⟨bv, s, l, C, B, hb, hu, hl⟩ := R
  refine SC_X hm Tryd.func15 rfl (by kernel_rfl) ?_
  have L0 := C.ld1 (off := 0) rfl
  simp only [go_sem, reduceIte, Nat.reduceEqDiff, Nat.reduceAdd, L0, B.len]
  by_cases hlt : l.length < n
  · have e : decide ((l.length : Int) < (n : Int)) = true := by simp; omega
    obtain ⟨h1, e1, C1, K1, n1⟩ := C.st (off := 1) (n := 1) (x := .bool true) rfl rfl (by simp)
    obtain ⟨h2, e2, C2, K2, n2⟩ := C1.st (off := 0) (n := 1) (x := .nils) rfl rfl (by simp)
    have K12 : HK (· = q) h h2 := K1.trans K2
    simp only [go_sem, reduceIte, Nat.reduceEqDiff, Nat.reduceAdd, e, e1, e2, make1 1 _ h2 n (by omega) (by omega), Tryd.f15]
    have K3 := newS_keep 1 (List.replicate n [AV.int .u8 0]) h2
    refine ⟨⟨.nils, true, [], C2.keep0 K3, Sl1.nil .., fun b h => h.elim, fun _ h => (by cases h), by simp⟩, K12.no_trans K3, List.replicate n 0, (make1_own _ 0 h2 n 0 (by omega)).sl, by simp, ?_⟩
    intro c hc
    rw [List.mem_replicate] at hc
    rw [hc.2]; unfold U8; omega
  · have e : decide ((l.length : Int) < (n : Int)) = false := by simp; omega
    have hle : n ≤ l.length := by omega
    obtain ⟨h1, e1, C1, K1, n1⟩ := C.st (off := 0) (n := 1) (x := subv bv n l.length) (by rw [isCell_cells (B.sub hle (Nat.le_refl _)).isCell]; rfl) (by rw [isCell_cells (B.sub hle (Nat.le_refl _)).isCell]; simp [(B.sub hle (Nat.le_refl _)).isCell]) (by simp)
    have hq : ∀ b, inV bv b → ¬ b = q := fun b hv e => by have := hb b hv; omega
    have B1 := B.keep K1 (fun b _ hv => hq b hv)
    simp only [go_sem, reduceIte, Nat.reduceEqDiff, Nat.reduceAdd, e, L0, B.slice_hi3 hle, B.slice_lo hle, e1, Tryd.f15]
    refine ⟨⟨subv bv n l.length, s, _, ?_, B1.sub hle (Nat.le_refl _), fun b hv => hb b (inV_subv hv), fun x hx => hu x (List.mem_of_mem_take (List.mem_of_mem_drop hx)), by simp; omega⟩, K1, _, B1.sub (Nat.zero_le _) hle, by simp; omega, fun c hc => hu c (List.mem_of_mem_take (List.mem_of_mem_drop hc))⟩
    rw [isCell_cells (B.sub hle (Nat.le_refl _)).isCell] at C1
    exact C1
theorem rtwo_spec {h : AHeap} {q : Nat} (R : Rd h q) :
    SC P 12 [.ptr q 0 0 0] h (fun x h' => Rd h' q ∧ HK (· = q) h h' ∧ ∃ n, x = .int .i64 n ∧ 0 ≤ n ∧ n < 65536) := by
  refine SC_X hm Tryd.func12 rfl (by kernel_rfl) ?_
  simp only [go_sem, reduceIte, Nat.reduceEqDiff]
  refine SC_mono (take_spec R 2 (by omega)) ?_
  rintro x h' ⟨R', K, l, B, hl, hu⟩
  match l, hl, hu with
  | [a, b], _, hu =>
    have ha := hu a (by simp)
    have hb := hu b (by simp)
    unfold U8 at ha hb
    simp only [go_sem, reduceIte, Nat.reduceEqDiff]
    refine X_draw (ps [0,1,2,3,4,5,6,7,8,9,10] .nil) (by kernel_rfl) ?_
    simp only [go_sem, reduceIte, Nat.reduceEqDiff, B.ix0 _ (by simp : 0 < [a, b].length), B.ld (by simp : 0 < [a, b].length), B.ix1 _ (by simp : 1 < [a, b].length), B.ld (by simp : 1 < [a, b].length), List.getElem_cons_zero, List.getElem_cons_succ, w64 (show -9223372036854775808 ≤ a by omega) (by omega), w64 (show -9223372036854775808 ≤ b by omega) (by omega), shl8_64, w64 (show -9223372036854775808 ≤ a * 256 by omega) (by omega), or_byte a b (by omega) (by omega) (by omega) (by omega), Tryd.f12]
    exact ⟨R', K, _, rfl, by omega, by omega⟩
/-- What a closure over the reader reads. -/
def ReadsF (g : Nat) : Prop := ∀ (h : AHeap) (p q : Nat), Cel h p [.ptr q 0 0 0] → q < p → Rd h q → SC P g [.ptr p 0 0 0] h (fun x h' => Rd h' q ∧ HK (· = q) h h' ∧ ∃ n, x = .int .i64 n ∧ -1 ≤ n ∧ n < 65536)
theorem read1 : ReadsF 14 := by
  intro h p q C hpq R
  refine SC_X hm Tryd.func14 rfl (by kernel_rfl) ?_
  have L0 := C.ld1 (off := 0) rfl
  simp only [go_sem, reduceIte, Nat.reduceEqDiff, Nat.reduceAdd, L0]
  refine SC_mono (take_spec R 1 (by omega)) ?_
  rintro x h' ⟨R', K, l, B, hl, hu⟩
  match l, hl, hu with
  | [a], _, hu =>
    have ha := hu a (by simp)
    unfold U8 at ha
    simp only [go_sem, reduceIte, Nat.reduceEqDiff, B.ix0 _ (by simp : 0 < [a].length), B.ld (by simp : 0 < [a].length), List.getElem_cons_zero, w64 (show -9223372036854775808 ≤ a by omega) (by omega), Tryd.f14]
    exact ⟨R', K, _, rfl, by omega, by omega⟩
theorem read2 : ReadsF 17 := by
  intro h p q C hpq R
  refine SC_X hm Tryd.func17 rfl (by kernel_rfl) ?_
  have L0 := C.ld1 (off := 0) rfl
  simp only [go_sem, reduceIte, Nat.reduceEqDiff, Nat.reduceAdd, L0]
  refine SC_mono (rtwo_spec R) ?_
  rintro x h' ⟨R', K, n, rfl, h1, h2⟩
  simp only [go_sem, reduceIte, Nat.reduceEqDiff, w64 (show -9223372036854775808 ≤ n - 1 by omega) (by omega), Tryd.f17]
  exact ⟨R', K, _, rfl, by omega, by omega⟩
/-! ### Repeat -/
theorem mul64_one {h : AHeap} (y : Int) (h0 : 0 ≤ y) (h1 : y < 4294967296) : SC P 48 [.int .u64 1, .int .u64 y] h (fun x h' => h' = h ∧ x = .tup [.int .u64 0, .int .u64 y]) := by
  refine SC_X hm Tryd.func48 rfl (by kernel_rfl) ?_
  have m1 : aBits .and .u64 1 4294967295 = 1 := by decide
  have m0 : aBits .and .u64 0 4294967295 = 0 := by decide
  have my : aBits .and .u64 y 4294967295 = y := by
    rw [and_low .u64 y 4294967295 32 (by decide) h0 (by simp [IntKind.bits]; omega) (by decide) (by
      have : (2 : Int) ^ 32 = 4294967296 := by decide
      rw [this]; exact wu64 (by omega) (by omega))]
    have : (2 : Int) ^ 32 = 4294967296 := by decide
    rw [this]; omega
  have d1 : (1 : Int) / 4294967296 = 0 := by decide
  have dy : y / 4294967296 = 0 := by omega
  have wy : IntKind.u64.wrap y = y := wu64 h0 (by omega)
  have w0 : IntKind.u64.wrap 0 = 0 := by decide
  have w1 : IntKind.u64.wrap 1 = 1 := by decide
  simp only [go_sem, reduceIte, Nat.reduceEqDiff, shr32_u64, m1, m0, my, d1, dy, wy, w0, w1, Int.one_mul, Int.zero_mul, Int.mul_zero, Int.mul_one, Int.add_zero, Int.zero_add, Int.zero_ediv, Tryd.f48]
  exact ⟨by trivial, by trivial⟩
theorem mul_one' {h : AHeap} (y : Int) (h0 : 0 ≤ y) (h1 : y < 4294967296) : SC P 38 [.int .u64 1, .int .u64 y] h (fun x h' => h' = h ∧ x = .tup [.int .u64 0, .int .u64 y]) := by
  refine SC_X hm Tryd.func38 rfl (by kernel_rfl) ?_
  simp only [go_sem, reduceIte, Nat.reduceEqDiff]
  refine SC_mono (mul64_one y h0 h1) ?_
  rintro x h' ⟨rfl, rfl⟩
  simp only [go_sem, reduceIte, Nat.reduceEqDiff, Tryd.f38]
  exact ⟨by trivial, by trivial⟩
abbrev OwnI := Own1 (AV.int .i64)
theorem repeat_spec {h : AHeap} {v : AV} {a : Int} (B : Ints h v [a]) (n : Nat) (hn : n < 65536) :
    SC P 29 [v, .int .i64 n] h (fun x h' => HK no h h' ∧ ∃ l, OwnI h.n h' x l ∧ l.length = n ∧ ∀ c ∈ l, c = a) := by
  refine SC_X hm Tryd.func29 rfl (by kernel_rfl) ?_
  have e : decide ((n : Int) < 0) = false := by simp
  have wn : IntKind.u64.wrap (n : Int) = n := wu64 (by omega) (by omega)
  have w1 : IntKind.u64.wrap (([a].length : Nat) : Int) = 1 := by show IntKind.u64.wrap 1 = 1; decide
  simp only [go_sem, reduceIte, Nat.reduceEqDiff, e, B.len, wn, w1]
  refine SC_mono (mul_one' (n : Int) (by omega) (by omega)) ?_
  rintro x h' ⟨rfl, rfl⟩
  have e2 : decide ((9223372036854775807 : Int) < (n : Int)) = false := by simp; omega
  have e0 : decide ((0 : Int) < 0) = false := by decide
  have K1 := newS_keep 1 (List.replicate n [AV.int .i64 0]) h'
  have O1 := make1_own (AV.int .i64) h'.n h' n 0 (Nat.le_refl _)
  have B1 := B.keep0 K1
  simp only [go_sem, reduceIte, Nat.reduceEqDiff, Nat.reduceAdd, e2, e0, w64 (show -9223372036854775808 ≤ (n : Int) by omega) (by omega), make1 8 _ h' n (by omega) (by omega)]
  generalize newS 1 (List.replicate n [AV.int .i64 0]) h' = h1 at *
  obtain ⟨h2, e3, O2, K2⟩ := O1.cpy (i := 0) (n := n) (by omega) B1.elems
  simp only [go_sem, reduceIte, Nat.reduceEqDiff, Nat.reduceAdd, e3]
  have hmin : min [a].length n = min 1 n := rfl
  refine X_loop (fun m F hh => HK no h' hh ∧ F 7 = .sl h'.n 0 0 n ∧ ∃ (k : Nat) (l : List Int), m = n - k ∧ k ≤ n ∧ (n = 0 ∨ 1 ≤ k) ∧ F 8 = .int .i64 (k : Nat) ∧ OwnI h'.n hh (.sl h'.n 0 0 n) l ∧ l.length = n ∧ ∀ c ∈ l.take k, c = a) (n - min 1 n) ⟨K1.trans' K2 (fun i hi e => by omega), ?_, min 1 n, _, rfl, by omega, by omega, ?_, O2, ?_, ?_⟩ ?_
  any_goals (simp only [go_sem, reduceIte, Nat.reduceEqDiff]; done)
  · simp only [go_sem, reduceIte, Nat.reduceEqDiff]; rw [hmin]
  · simp; omega
  · intro c hc
    by_cases hn0 : n = 0
    · subst hn0; simp at hc
    · rw [show min 1 n = 1 by omega] at hc
      have : [a].take n = [a] := List.take_of_length_le (by simp; omega)
      rw [this] at hc
      simpa using hc
  rintro m F hh ⟨K, f7, k, l, rfl, hk, hk1, f8, O, hl, hall⟩
  simp only [go_sem, f7, f8, reduceIte, Nat.reduceEqDiff]
  by_cases hlt : k < n
  · have e : decide ((k : Int) < (n : Int)) = true := by simp; omega
    have S := O.sl
    simp only [go_sem, f7, f8, reduceIte, Nat.reduceEqDiff, e]
    refine X_draw (ps [0,1,2,3,4,5,6,7,8,9] .nil) (by kernel_rfl) ?_
    simp only [go_sem, f7, f8, reduceIte, Nat.reduceEqDiff]
    have e4 : fSlice 1 hh (.sl h'.n 0 0 n) (some (.int .i64 k)) none none = some (.sl h'.n 0 k (n - k)) := by
      rw [S.slice_lo (by omega)]; simp [subv, hl]
    have e5 : fSlice 1 hh (.sl h'.n 0 0 n) none (some (.int .i64 k)) none = some (.sl h'.n 0 0 k) := by
      rw [S.slice_hi (by omega)]; simp [subv]
    have S2 : Ints hh (.sl h'.n 0 0 k) (l.take k) := by
      have := S.sub (Nat.zero_le k) (by omega)
      simpa [subv] using this
    obtain ⟨h3, e6, O3, K3⟩ := O.cpy (i := k) (n := n - k) (by omega) S2.elems
    have hlt2 : (l.take k).length = k := by simp; omega
    rw [hlt2] at e6
    simp only [go_sem, f7, f8, reduceIte, Nat.reduceEqDiff, Nat.reduceAdd, e4, e5, e6]
    refine ⟨n - (k + min k (n - k)), by omega, K.trans' K3 (fun i hi e => by omega), trivial, k + min k (n - k), _, rfl, by omega, by omega, ?_, O3, ?_, ?_⟩
    · rw [w64 (by omega) (by omega)]; rfl
    · simp; omega
    · intro c hc
      have := List.mem_of_mem_take hc
      rw [List.take_append] at hc
      rcases List.mem_append.1 hc with hc | hc
      · exact hall c (List.mem_of_mem_take hc)
      · rw [hlt2, show k + min k (n - k) - k = min k (n - k) by omega, List.take_append] at hc
        rcases List.mem_append.1 hc with hc | hc
        · exact hall c (List.mem_of_mem_take (List.mem_of_mem_take hc))
        · rw [show min k (n - k) - ((l.take k).take (n - k)).length = 0 by simp; omega] at hc
          simp at hc
  · have e : decide ((k : Int) < (n : Int)) = false := by simp; omega
    simp only [go_sem, f7, f8, reduceIte, Nat.reduceEqDiff, Nat.reduceAdd, e, Tryd.f29]
    exact ⟨K, l, O, hl, by rwa [List.take_of_length_le (by omega)] at hall⟩
end Go.Proofs.YtlobjaanabepgaaDoor
/- A row that is read. -/
namespace Go.Proofs.YtlobjaanabepgaaDoor
open Go Go.AM
set_option maxRecDepth 100000
set_option linter.unusedVariables false
set_option linter.unusedSimpArgs false
theorem row_spec {g : Nat} (G : ReadsF g) {h : AHeap} {p q : Nat} (C : Cel h p [.ptr q 0 0 0]) (hpq : q < p) (R : Rd h q) (many : Nat) (hmany : many ≤ 65536) :
    SC P 13 [.ptr q 0 0 0, .int .i64 many, .fn g [.ptr p 0 0 0]] h (fun x h' => Rd h' q ∧ HK (· = q) h h' ∧ ∃ l, OwnI h.n h' x l ∧ l.length ≤ many ∧ ∀ c ∈ l, -1 ≤ c ∧ c < 65536) := by
  refine SC_X hm Tryd.func13 rfl (by kernel_rfl) ?_
  have hpn := C.2
  simp only [go_sem, reduceIte, Nat.reduceEqDiff]
  refine X_loop (fun m F hh => Rd hh q ∧ HK (· = q) h hh ∧ F 0 = .ptr q 0 0 0 ∧ F 1 = .int .i64 many ∧ F 2 = .fn g [.ptr p 0 0 0] ∧ ∃ v l, m = many - l.length ∧ F 7 = v ∧ OwnI h.n hh v l ∧ l.length ≤ many ∧ ∀ c ∈ l, -1 ≤ c ∧ c < 65536) many ⟨R, .refl .., ?_, ?_, ?_, .nils, [], rfl, ?_, Own1.nil .., Nat.zero_le _, fun _ h => (by cases h)⟩ ?_
  any_goals (simp only [go_sem, reduceIte, Nat.reduceEqDiff]; done)
  rintro m F hh ⟨R, K, f0, f1, f2, v, l, rfl, f7, O, hl, hall⟩
  have CC := C.keep K (fun e => by omega)
  have R0 := R
  obtain ⟨bv, s, lb, Cq, Bq, hbq, huq, hlq⟩ := R0
  have L1 := Cq.ld1 (off := 1) rfl
  simp only [go_sem, f0, f1, f2, f7, reduceIte, Nat.reduceEqDiff, O.sl.len]
  by_cases hlt : l.length < many
  rotate_left
  · have e : decide ((l.length : Int) < (many : Int)) = false := by simp; omega
    simp only [go_sem, f0, f1, f2, f7, reduceIte, Nat.reduceEqDiff, Nat.reduceAdd, e, Tryd.f13]
    exact ⟨R, K, l, O, hl, hall⟩
  have e : decide ((l.length : Int) < (many : Int)) = true := by simp; omega
  cases s with
  | true =>
    simp only [go_sem, f0, f1, f2, f7, reduceIte, Nat.reduceEqDiff, Nat.reduceAdd, e, L1, Bool.not_true, Tryd.f13]
    exact ⟨R, K, l, O, hl, hall⟩
  | false =>
    simp only [go_sem, f0, f1, f2, f7, reduceIte, Nat.reduceEqDiff, Nat.reduceAdd, e, L1, Bool.not_false]
    refine SC_mono (take_spec R 1 (by omega)) ?_
    rintro x h1 ⟨R1, K1, la, Ba, hla, hua⟩
    match la, hla, hua with
    | [a], _, hua =>
    have ha := hua a (by simp)
    unfold U8 at ha
    have K1' := K.trans K1
    have hvq : ∀ b, inV v b → ¬ b = q := fun b hv e => by have := O.ge hv; omega
    have O1 := O.keep K1 (fun b _ hv => hvq b hv)
    have ea : IntKind.i64.wrap a = ((a.toNat : Nat) : Int) := by rw [w64 (by omega) (by omega)]; omega
    have esub : IntKind.i64.wrap ((many : Int) - (l.length : Int)) = (many : Int) - l.length := w64 (by omega) (by omega)
    simp only [go_sem, f0, f1, f2, f7, reduceIte, Nat.reduceEqDiff, Ba.ix0 _ (by simp : 0 < [a].length), Ba.ld (by simp : 0 < [a].length), List.getElem_cons_zero, ea]
    have R1' := R1
    obtain ⟨bv1, s1, lb1, Cq1, Bq1, hbq1, huq1, hlq1⟩ := R1'
    obtain ⟨h2, e2, C2, K2, n2⟩ := Cq1.st (off := 1) (n := 1) (x := .bool true) rfl rfl (by simp)
    have bad : Rd h2 q ∧ HK (· = q) h h2 := ⟨⟨bv1, true, lb1, C2, Bq1.keep K2 (fun b _ hv e => by have := hbq1 b hv; omega), hbq1, huq1, hlq1⟩, K1'.trans K2⟩
    by_cases ha0 : ((a.toNat : Nat) : Int) = 0
    · simp only [go_sem, f0, f1, f2, f7, reduceIte, Nat.reduceEqDiff, Nat.reduceAdd, ha0, decide_true, e2, Tryd.f13]
      exact ⟨bad.1, bad.2, [], Own1.nil .., Nat.zero_le _, fun _ h => (by cases h)⟩
    by_cases ha1 : (many : Int) - l.length < ((a.toNat : Nat) : Int)
    · simp only [go_sem, f0, f1, f2, f7, reduceIte, Nat.reduceEqDiff, Nat.reduceAdd, ha0, ha1, decide_true, decide_false, O1.sl.len, esub, e2, Tryd.f13]
      exact ⟨bad.1, bad.2, [], Own1.nil .., Nat.zero_le _, fun _ h => (by cases h)⟩
    simp only [go_sem, f0, f1, f2, f7, reduceIte, Nat.reduceEqDiff, Nat.reduceAdd, ha0, ha1, decide_false, O1.sl.len, esub]
    refine SC_mono (G h1 p q (CC.keep K1 (fun e => by omega)) hpq R1) ?_
    rintro x3 h3 ⟨R3, K3, n3, rfl, hn3, hn3'⟩
    have K4 := newS_keep 1 [[AV.int .i64 n3]] h3
    have B4 : Ints (newS 1 [[AV.int .i64 n3]] h3) (.sl h3.n 0 0 1) [n3] := (newS_own (AV.int .i64) 0 h3 [n3] (by omega)).sl
    simp only [go_sem, f0, f1, f2, f7, reduceIte, Nat.reduceEqDiff]
    refine SC_mono (repeat_spec B4 a.toNat (by omega)) ?_
    rintro x5 h5 ⟨K5, l5, O5, hl5, hall5⟩
    have K13 : HK (· = q) h h3 := K1'.trans K3
    have K35 : HK no h3 h5 := K4.trans K5
    have O3 := (O1.keep K3 (fun b _ hv => hvq b hv)).keep0 K35
    obtain ⟨v6, h6, e6, O6, K6, _⟩ := O3.app (lim := 140737488355328 / (7 + 1)) (Nat.le_trans K13.n K35.n) O5.sl.elems (by omega)
    simp only [go_sem, f0, f1, f2, f7, reduceIte, Nat.reduceEqDiff, e6]
    refine ⟨many - (l ++ l5).length, by simp; omega, (R3.keep0 K35).keep K6 (fun b hb hv => by have := O3.ge hv; omega), (K13.no_trans K35).trv K6 (fun i hi => O3.ge hi), trivial, trivial, trivial, v6, _, rfl, rfl, O6, by simp; omega, fun c hc => ?_⟩
    rcases List.mem_append.1 hc with hc | hc
    · exact hall c hc
    · rw [hall5 c hc]; exact ⟨hn3, hn3'⟩
end Go.Proofs.YtlobjaanabepgaaDoor
/- A table, out of bytes: pack.Decode. -/
namespace Go.Proofs.YtlobjaanabepgaaDoor
open Go Go.AM
set_option maxRecDepth 100000
set_option linter.unusedVariables false
set_option linter.unusedSimpArgs false
def Zr : List AV := [.nils, .nils, .nils]
/-- What stands while a table is read. -/
structure DI (h : AHeap) (b2 q p b6 m : Nat) (hh : AHeap) (cv nv tv : AV) (cl : List Int) (vs : List AV) (rows : List (List Int)) (tl : List Int) : Prop where
  K : HK no h hh
  R : Rd hh q
  Cp : Cel hh p [.ptr q 0 0 0]
  C2 : Cel hh b2 [.nils, .nils, .nils]
  C6 : Cel hh b6 [cv, nv, tv]
  Oc : OwnB m hh cv cl
  On : Own1 id m hh nv vs
  Ot : OwnI m hh tv tl
  rl : vs.length = rows.length
  rr : ∀ j (h1 : j < vs.length) (h2 : j < rows.length), OwnI m hh vs[j] rows[j]
  dcn : Dj cv nv
  dct : Dj cv tv
  dnt : Dj nv tv
  drn : ∀ w ∈ vs, Dj w nv
  drt : ∀ w ∈ vs, Dj w tv
  cu : ∀ x ∈ cl, U8 x
  ru : ∀ r ∈ rows, r.length ≤ 65536 ∧ ∀ x ∈ r, -1 ≤ x ∧ x < 65536
  tu : ∀ x ∈ tl, -1 ≤ x ∧ x < 65536
  cl_ : cl.length ≤ 65536
  rl_ : rows.length ≤ 65536
  tl_ : tl.length ≤ 65536
  hm : h.n ≤ b2 ∧ b2 < q ∧ q < p ∧ p < b6 ∧ b6 < m ∧ m ≤ hh.n
section
variable {h : AHeap} {b2 q p b6 m : Nat} {hh h' : AHeap} {cv nv tv : AV} {cl : List Int} {vs : List AV} {rows : List (List Int)} {tl : List Int}
theorem DI.keepq (D : DI h b2 q p b6 m hh cv nv tv cl vs rows tl) (K : HK (· = q) hh h') (R : Rd h' q) : DI h b2 q p b6 m h' cv nv tv cl vs rows tl where
  K := D.K.trans' K (fun i hi e => by have := D.hm; omega)
  R := R
  Cp := D.Cp.keep K (fun e => by have := D.hm; omega)
  C2 := D.C2.keep K (fun e => by have := D.hm; omega)
  C6 := D.C6.keep K (fun e => by have := D.hm; omega)
  Oc := D.Oc.keep K (fun b _ hv e => by have := D.Oc.ge hv; have := D.hm; omega)
  On := D.On.keep K (fun b _ hv e => by have := D.On.ge hv; have := D.hm; omega)
  Ot := D.Ot.keep K (fun b _ hv e => by have := D.Ot.ge hv; have := D.hm; omega)
  rl := D.rl
  rr := fun j h1 h2 => (D.rr j h1 h2).keep K (fun b _ hv e => by have := (D.rr j h1 h2).ge hv; have := D.hm; omega)
  dcn := D.dcn
  dct := D.dct
  dnt := D.dnt
  drn := D.drn
  drt := D.drt
  cu := D.cu
  ru := D.ru
  tu := D.tu
  cl_ := D.cl_
  rl_ := D.rl_
  tl_ := D.tl_
  hm := by have := D.hm; have := K.n; omega
theorem DI.keep0 (D : DI h b2 q p b6 m hh cv nv tv cl vs rows tl) (K : HK no hh h') : DI h b2 q p b6 m h' cv nv tv cl vs rows tl :=
  D.keepq (K.mono (fun _ _ h => h.elim)) (D.R.keep0 K)
/-- A tag more. -/
theorem DI.tag (D : DI h b2 q p b6 m hh cv nv tv cl vs rows tl) {n : Int} (hn : -1 ≤ n ∧ n < 65536) (hl : tl.length < 65536) :
    ∃ v2 h2 h3, fAppend 1 (140737488355328 / (7 + 1)) (newS 1 [[AV.int .i64 n]] hh) tv (.sl hh.n 0 0 1) = some (v2, h2) ∧ fStore 1 h2 (.ptr b6 0 0 (0 + 2)) v2 = some h3 ∧ DI h b2 q p b6 m h3 cv nv v2 cl vs rows (tl ++ [n]) := by
  have K1 := newS_keep 1 [[AV.int .i64 n]] hh
  have D1 := D.keep0 K1
  have hm := D.hm
  obtain ⟨v2, h2, e2, O2, K2, hv2⟩ := D1.Ot.app (l' := [n]) (lim := 140737488355328 / (7 + 1)) D1.hm.2.2.2.2.2 (newS_elems 1 _ hh 1 rfl) (by simp; omega)
  have C6 := D1.C6.keep K2 (fun e => by have := D1.Ot.ge e; omega)
  obtain ⟨h3, e3, C3, K3, n3⟩ := C6.st1 (0 + 2) (by simp) v2 O2.sl.isCell
  have key : ∀ w, (∀ b, inV w b → m ≤ b) → ∀ b, inV w b → ¬ b = b6 := fun w hw b hb e => by have := hw b hb; omega
  refine ⟨v2, h2, h3, e2, e3, ?_⟩
  have hlt : ∀ {w : AV}, (∀ b, inV w b → b < (newS 1 [[AV.int .i64 n]] hh).n) → Dj w tv → Dj w v2 := fun {w} hw hd b hb hb2 => by
    rcases hv2 b hb2 with h | h
    · exact hd b hb h
    · have := hw b hb; omega
  refine ⟨(D1.K.trv K2 (fun i hi => by have := D1.Ot.ge hi; omega)).trans' K3 (fun i hi e => by omega), (D1.R.keep K2 (fun b hb hv => by have := D1.Ot.ge hv; omega)).keep K3 (fun b hb e => by omega), (D1.Cp.keep K2 (fun hv => by have := D1.Ot.ge hv; omega)).keep K3 (fun e => by omega), (D1.C2.keep K2 (fun hv => by have := D1.Ot.ge hv; omega)).keep K3 (fun e => by omega), C3, (D1.Oc.keep K2 (fun b _ hv => D1.dct b hv)).keep K3 (fun b _ => key cv (fun b hb => D.Oc.ge hb) b), (D1.On.keep K2 (fun b _ hv => D1.dnt b hv)).keep K3 (fun b _ => key nv (fun b hb => D.On.ge hb) b), O2.keep K3 (fun b _ => key v2 (fun b hb => O2.ge hb) b), D.rl, fun j h1 h2 => ?_, D.dcn, hlt (fun b hb => D1.Oc.sl.lt hb) D.dct, hlt (fun b hb => D1.On.sl.lt hb) D.dnt, D.drn, fun w hw => ?_, D.cu, D.ru, fun x hx => ?_, D.cl_, D.rl_, by simp; omega, by have := K1.n; have := K2.n; omega⟩
  · exact ((D1.rr j h1 h2).keep K2 (fun b _ hv => D.drt _ (List.getElem_mem h1) b hv)).keep K3 (fun b _ => key _ (fun b hb => (D.rr j h1 h2).ge hb) b)
  · obtain ⟨j, hj, rfl⟩ := List.getElem_of_mem hw
    exact hlt (fun b hb => (D1.rr j hj (by have := D.rl; omega)).sl.lt hb) (D.drt _ hw)
  · rcases List.mem_append.1 hx with hx | hx
    · exact D.tu x hx
    · simp at hx; subst hx; exact hn
/-- A row more. -/
theorem DI.row (D : DI h b2 q p b6 m hh cv nv tv cl vs rows tl) {w : AV} {r : List Int} (O : OwnI m hh w r) (hwn : Dj w nv) (hwt : Dj w tv) (hr : r.length ≤ 65536 ∧ ∀ x ∈ r, -1 ≤ x ∧ x < 65536) (hl : rows.length < 65536) :
    ∃ v2 h2 h3, fAppend 1 (140737488355328 / (23 + 1)) (newS 1 [[w]] hh) nv (.sl hh.n 0 0 1) = some (v2, h2) ∧ fStore 1 h2 (.ptr b6 0 0 (0 + 1)) v2 = some h3 ∧ DI h b2 q p b6 m h3 cv v2 tv cl (vs ++ [w]) (rows ++ [r]) tl := by
  have K1 := newS_keep 1 [[w]] hh
  have D1 := D.keep0 K1
  have hm := D.hm
  have hrl := D.rl
  obtain ⟨v2, h2, e2, O2, K2, hv2⟩ := D1.On.app (l' := [w]) (lim := 140737488355328 / (23 + 1)) D1.hm.2.2.2.2.2 (newS_elems 1 _ hh 1 rfl) (by simp; omega)
  have C6 := D1.C6.keep K2 (fun e => by have := D1.On.ge e; omega)
  obtain ⟨h3, e3, C3, K3, n3⟩ := C6.st1 (0 + 1) (by simp) v2 O2.sl.isCell
  have key : ∀ w, (∀ b, inV w b → m ≤ b) → ∀ b, inV w b → ¬ b = b6 := fun w hw b hb e => by have := hw b hb; omega
  refine ⟨v2, h2, h3, e2, e3, ?_⟩
  have hltn : ∀ {u : AV}, (∀ b, inV u b → b < hh.n) → Dj u nv → Dj u v2 := fun {u} hu hd b hb hb2 => by
    rcases hv2 b hb2 with h | h
    · exact hd b hb h
    · have := hu b hb; have := K1.n; omega
  refine ⟨(D1.K.trv K2 (fun i hi => by have := D1.On.ge hi; omega)).trans' K3 (fun i hi e => by omega), (D1.R.keep K2 (fun b hb hv => by have := D1.On.ge hv; omega)).keep K3 (fun b hb e => by omega), (D1.Cp.keep K2 (fun hv => by have := D1.On.ge hv; omega)).keep K3 (fun e => by omega), (D1.C2.keep K2 (fun hv => by have := D1.On.ge hv; omega)).keep K3 (fun e => by omega), C3, (D1.Oc.keep K2 (fun b _ hv => D1.dcn b hv)).keep K3 (fun b _ => key cv (fun b hb => D.Oc.ge hb) b), O2.keep K3 (fun b _ => key v2 (fun b hb => O2.ge hb) b), (D1.Ot.keep K2 (fun b _ hv => D1.dnt.symm b hv)).keep K3 (fun b _ => key tv (fun b hb => D.Ot.ge hb) b), by simp [D.rl], fun j h1 h2 => ?_, hltn (fun b hb => D.Oc.sl.lt hb) D.dcn, D.dct, fun b hb hb2 => ?_, fun u hu => ?_, fun u hu => ?_, D.cu, fun x hx => ?_, D.tu, D.cl_, by simp; omega, D.tl_, by have := K1.n; have := K2.n; omega⟩
  · by_cases hj : j < vs.length
    · have e1 : (vs ++ [w])[j] = vs[j] := List.getElem_append_left hj
      have e4 : (rows ++ [r])[j] = rows[j]'(by omega) := List.getElem_append_left (by omega)
      rw [e1, e4]
      exact ((D1.rr j hj (by omega)).keep K2 (fun b _ hv => D.drn _ (List.getElem_mem hj) b hv)).keep K3 (fun b _ => key _ (fun b hb => (D.rr j hj (by omega)).ge hb) b)
    · have hj2 : j = vs.length := by simp at h1; omega
      subst hj2
      have e1 : (vs ++ [w])[vs.length] = w := by simp
      have e4 : (rows ++ [r])[vs.length] = r := by simp [hrl]
      rw [e1, e4]
      exact ((O.keep0 K1).keep K2 (fun b _ hv => hwn b hv)).keep K3 (fun b _ => key w (fun b hb => O.ge hb) b)
  · rcases hv2 b hb with h | h
    · exact D.dnt b h hb2
    · have := D.Ot.sl.lt hb2; have := K1.n; omega
  · rcases List.mem_append.1 hu with hu | hu
    · obtain ⟨j, hj, rfl⟩ := List.getElem_of_mem hu
      exact hltn (fun b hb => (D.rr j hj (by omega)).sl.lt hb) (D.drn _ hu)
    · simp at hu; subst hu
      exact hltn (fun b hb => O.sl.lt hb) hwn
  · rcases List.mem_append.1 hu with hu | hu
    · exact D.drt _ hu
    · simp at hu; subst hu; exact hwt
  · rcases List.mem_append.1 hx with hx | hx
    · exact D.ru x hx
    · simp at hx; subst hx; exact hr
/-- A class more. -/
theorem DI.clsA (D : DI h b2 q p b6 m hh cv .nils .nils cl [] [] []) {x : AV} {lx : List Int} (O : OwnI m hh x lx) (hd : Dj cv x) {n : Int} (hn : U8 n) (hl : cl.length < 65536) :
    ∃ v2 h2 h3, fAppend 1 (140737488355328 / (0 + 1)) (newS 1 [[AV.int .u8 n]] hh) cv (.sl hh.n 0 0 1) = some (v2, h2) ∧ fStore 1 h2 (.ptr b6 0 0 (0 + 0)) v2 = some h3 ∧ DI h b2 q p b6 m h3 v2 .nils .nils (cl ++ [n]) [] [] [] ∧ OwnI m h3 x lx ∧ Dj v2 x := by
  have K1 := newS_keep 1 [[AV.int .u8 n]] hh
  have D1 := D.keep0 K1
  have hm := D.hm
  obtain ⟨v2, h2, e2, O2, K2, hv2⟩ := D1.Oc.app (l' := [n]) (lim := 140737488355328 / (0 + 1)) D1.hm.2.2.2.2.2 (newS_elems 1 _ hh 1 rfl) (by simp; omega)
  have C6 := D1.C6.keep K2 (fun e => by have := D1.Oc.ge e; omega)
  obtain ⟨h3, e3, C3, K3, n3⟩ := C6.st1 (0 + 0) (by simp) v2 O2.sl.isCell
  refine ⟨v2, h2, h3, e2, e3, ?_, ((O.keep0 K1).keep K2 (fun b _ hv hc => hd b hc hv)).keep K3 (fun b _ hv e => by have := O.ge hv; omega), fun b hb hx => ?_⟩
  · refine ⟨(D1.K.trv K2 (fun i hi => by have := D1.Oc.ge hi; omega)).trans' K3 (fun i hi e => by omega), (D1.R.keep K2 (fun b hb hv => by have := D1.Oc.ge hv; omega)).keep K3 (fun b hb e => by omega), (D1.Cp.keep K2 (fun hv => by have := D1.Oc.ge hv; omega)).keep K3 (fun e => by omega), (D1.C2.keep K2 (fun hv => by have := D1.Oc.ge hv; omega)).keep K3 (fun e => by omega), C3, O2.keep K3 (fun b _ hv e => by have := O2.ge hv; omega), Own1.nil .., Own1.nil .., rfl, fun j h1 => absurd h1 (by simp), Dj.nil' _, Dj.nil' _, Dj.nil _, fun _ h => (by cases h), fun _ h => (by cases h), fun x hx => ?_, fun _ h => (by cases h), fun _ h => (by cases h), by simp; omega, by simp, by simp, by have := K1.n; have := K2.n; omega⟩
    rcases List.mem_append.1 hx with hx | hx
    · exact D.cu x hx
    · simp at hx; subst hx; exact hn
  · rcases hv2 b hb with h | h
    · exact hd b h hx
    · have := O.sl.lt hx; have := K1.n; omega
theorem DI.tab (D : DI h b2 q p b6 m hh cv nv tv cl vs rows tl) : TabV hh cv nv tv ⟨cl, rows, tl⟩ where
  c := D.Oc.sl
  n := ⟨vs, D.On.sl, D.rl, fun j h1 h2 => (D.rr j h1 h2).sl⟩
  t := D.Ot.sl
  cr := D.cu
  nr := fun r hr x hx => by have := (D.ru r hr).2 x hx; exact ⟨by omega, by omega⟩
  tr := fun x hx => by have := D.tu x hx; exact ⟨by omega, by omega⟩
  cl := by have := D.cl_; show cl.length < _; omega
  nl := by have := D.rl_; show rows.length < _; omega
  tl := by have := D.tl_; show tl.length < _; omega
  rl := fun r hr => by have := (D.ru r hr).1; omega
end
end Go.Proofs.YtlobjaanabepgaaDoor
/- A table, out of bytes: pack.Decode, walked. -/
namespace Go.Proofs.YtlobjaanabepgaaDoor
open Go Go.AM
set_option maxRecDepth 100000
set_option linter.unusedVariables false
set_option linter.unusedSimpArgs false
theorem mxF_mem : ∀ (l : List Int) (a : Int), mxF a l ∈ a :: l
  | [], a => by simp [mxF]
  | b :: l, a => by
    have h := mxF_mem l (if a < b then b else a)
    have e : mxF a (b :: l) = mxF (if a < b then b else a) l := rfl
    rw [e]
    rcases List.mem_cons.1 h with h | h
    · rw [h]; split <;> simp
    · simp [h]
theorem two_u8 (n : Int) : ∀ c ∈ two n, U8 c := by
  intro c hc
  simp only [two, List.mem_cons, List.not_mem_nil, or_false] at hc
  unfold U8
  rcases hc with rfl | rfl <;> omega
theorem runsF_u8 (lay : Int → List Int) (good : Int → Prop) (hlay : ∀ x, good x → ∀ c ∈ lay x, U8 c) : ∀ (k : Nat) (l : List Int), (∀ x ∈ l, good x) → ∀ c ∈ runsF lay k l, U8 c
  | 0, _, _, c, hc => by simp [runsF] at hc
  | _ + 1, [], _, c, hc => by simp [runsF] at hc
  | k + 1, a :: r, hg, c, hc => by
    rw [runsF] at hc
    rcases List.mem_cons.1 hc with rfl | hc
    · have := runN_le a r; unfold U8; omega
    · rcases List.mem_append.1 hc with hc | hc
      · exact hlay a (hg a (by simp)) c hc
      · exact runsF_u8 lay good hlay k _ (fun x hx => hg x (List.mem_of_mem_drop hx)) c hc
theorem layi64_u8 (x : Int) : ∀ c ∈ layi64 x, U8 c := by
  intro c hc
  simp only [layi64, List.mem_cons, List.not_mem_nil, or_false] at hc
  unfold U8
  rcases hc with rfl | rfl <;> omega
theorem encB_u8 (T : Tb) (hc : ∀ x ∈ T.cls, U8 x) : ∀ c ∈ encB T, U8 c := by
  intro c h
  simp only [encB, bodyE, List.mem_append] at h
  rcases h with ((((h | h) | h) | h) | h) | h
  · simp at h; unfold U8; omega
  · exact two_u8 _ c h
  · exact runsF_u8 layu8 U8 (fun x hx c hc => by simp [layu8] at hc; subst hc; exact hx) _ _ hc c h
  · obtain ⟨p, _, h⟩ := List.mem_flatMap.1 h
    rcases List.mem_append.1 h with h | h
    · exact two_u8 _ c h
    · exact runsF_u8 layi64 (fun _ => True) (fun x _ => layi64_u8 x) _ _ (fun _ _ => trivial) c h
  · exact two_u8 _ c h
  · exact two_u8 _ c h
/-- What a call of Decode comes to. -/
def DecQ (h : AHeap) (l : List Int) (x : AV) (h' : AHeap) : Prop := HK no h h' ∧ (x = .tup [.agg [.nils, .nils, .nils], .int .u16 70] ∨ ∃ c n t T, x = .tup [.agg [c, n, t], .int .u16 0] ∧ TabV h' c n t T ∧ encOk T = true ∧ encB T = l)
theorem DecQ.bad {h h' : AHeap} {l : List Int} (K : HK no h h') : DecQ h l (.tup [.agg [.nils, .nils, .nils], .int .u16 70]) h' := ⟨K, .inl rfl⟩
set_option maxHeartbeats 2000000 in
theorem decode_spec {h : AHeap} {v : AV} {l : List Int} (B : Byt h v l) (hu : ∀ x ∈ l, U8 x) (hl : l.length < 1099511627776) : SC P 5 [v] h (DecQ h l) := by
  refine SC_X hm Tryd.func5 rfl (by kernel_rfl) ?_
  simp only [go_sem, reduceIte, Nat.reduceEqDiff]
  have K1 : HK no h (newS 3 [[.nils, .nils, .nils]] h) := newS_keep ..
  have C2 : Cel (newS 3 [[.nils, .nils, .nils]] h) h.n [.nils, .nils, .nils] := Cel.newS h [.nils, .nils, .nils]
  generalize newS 3 [[.nils, .nils, .nils]] h = h1 at *
  -- how it ends where there is none
  have bad : ∀ hh, HK no h hh → Cel hh h.n [.nils, .nils, .nils] → ∃ h2, fStore (2 + 1) hh (.ptr h.n 0 0 0) (.agg [.nils, .nils, .nils]) = some h2 ∧ fLoad true 3 h2 (.ptr h.n 0 0 0) = some (.agg [.nils, .nils, .nils]) ∧ HK no h h2 := by
    intro hh K C
    obtain ⟨h2, e2, C2, K2, _⟩ := C.stA (cs' := [.nils, .nils, .nils]) rfl rfl
    exact ⟨h2, e2, C2.ldW, K.trans' K2 (fun i hi e => by omega)⟩
  simp only [go_sem, reduceIte, Nat.reduceEqDiff, B.keep0 K1 |>.len]
  obtain ⟨h2, e2, e3, K2⟩ := bad h1 K1 C2
  by_cases hlt : l.length < 9
  · have e : decide ((l.length : Int) < 9) = true := by simp; omega
    simp only [go_sem, reduceIte, Nat.reduceEqDiff, Nat.reduceAdd, e, e2, e3, Tryd.f5]
    exact .bad K2
  have e : decide ((l.length : Int) < 9) = false := by simp; omega
  simp only [go_sem, reduceIte, Nat.reduceEqDiff, Nat.reduceAdd, e]
  refine SC_mono magic_spec ?_
  rintro mv h3 ⟨O3, K3⟩
  simp only [go_sem, reduceIte, Nat.reduceEqDiff, Nat.reduceAdd]
  refine SC_mono (hasPrefix_spec ((B.keep0 K1).keep0 K3) O3.sl (fun c hc => hu c hc) (by simp)) ?_
  rintro x h4 ⟨rfl, rfl⟩
  have K13 := K1.trans K3
  cases hp : (decide (([71, 67, 1] : List Int).length ≤ l.length) && (l.take ([71, 67, 1] : List Int).length == [71, 67, 1])) with
  | false =>
    obtain ⟨h5, e5, e6, K5⟩ := bad h4 K13 (C2.keep0 K3)
    simp only [go_sem, reduceIte, Nat.reduceEqDiff, Nat.reduceAdd, hp, e5, e6, Bool.not_false, Tryd.f5]
    exact .bad K5
  | true =>
  clear e2 e3 K2
  simp only [go_sem, reduceIte, Nat.reduceEqDiff, Nat.reduceAdd, hp, Bool.not_true]
  refine SC_mono magic_spec ?_
  rintro mv2 h5 ⟨O5, K5⟩
  have K15 := K13.trans K5
  have B5 := B.keep0 K15
  have esub : IntKind.i64.wrap ((l.length : Int) - 4) = ((l.length - 4 : Nat) : Int) := by rw [w64 (by omega) (by omega)]; omega
  have esl := B5.slice (lo := ([71, 67, 1] : List Int).length) (hi := l.length - 4) (by simp; omega) (by omega) .i64 .i64
  have Bs := B5.sub (lo := ([71, 67, 1] : List Int).length) (hi := l.length - 4) (by simp; omega) (by omega)
  have Us : ∀ x ∈ (l.take (l.length - 4)).drop ([71, 67, 1] : List Int).length, U8 x := fun x hx => hu x (List.mem_of_mem_take (List.mem_of_mem_drop hx))
  have Ls : ((l.take (l.length - 4)).drop ([71, 67, 1] : List Int).length).length < 1099511627776 := by simp; omega
  have hsv : ∀ b, inV (subv v ([71, 67, 1] : List Int).length (l.length - 4)) b → b < h.n := fun b hb => B.lt (inV_subv hb)
  generalize subv v ([71, 67, 1] : List Int).length (l.length - 4) = sv at *
  generalize (l.take (l.length - 4)).drop ([71, 67, 1] : List Int).length = sl at *
  simp only [go_sem, reduceIte, Nat.reduceEqDiff, Nat.reduceAdd, O5.sl.len, B5.len, esub, esl, Bs.isCell]
  have C5 := (C2.keep0 K3).keep0 K5
  -- the reader, and what points to it
  have K6 : HK no h5 (newS 2 [[sv, .bool false]] h5) := newS_keep ..
  have Cq : Cel (newS 2 [[sv, .bool false]] h5) h5.n [sv, .bool false] := Cel.newS h5 [sv, .bool false]
  have hn6 : (newS 2 [[sv, .bool false]] h5).n = h5.n + 1 := rfl
  generalize newS 2 [[sv, .bool false]] h5 = h6 at *
  have K7 : HK no h6 (newS 1 [[.nilp]] h6) := newS_keep ..
  have Cp : Cel (newS 1 [[.nilp]] h6) h6.n [.nilp] := Cel.newS h6 [.nilp]
  rw [hn6] at Cp
  generalize newS 1 [[.nilp]] h6 = h7 at *
  have R6 : Rd h6 h5.n := ⟨sv, false, sl, Cq, Bs.keep0 K6, fun b hb => by have := hsv b hb; have := K15.n; omega, Us, Ls⟩
  have hh5 := C5.2
  obtain ⟨h8, e8, C8, K8, n8⟩ := Cp.st1 0 (by simp) (.ptr h5.n 0 0 0) rfl
  have R8 : Rd h8 h5.n := (R6.keep0 K7).keep K8 (fun b hb e => by omega)
  have C28 : Cel h8 h.n [.nils, .nils, .nils] := ((C5.keep0 K6).keep0 K7).keep K8 (fun e => by omega)
  have KK8 : HK no h h8 := (K15.trans (K6.trans K7)).trans' K8 (fun i hi e => by omega)
  simp only [go_sem, reduceIte, Nat.reduceEqDiff, Nat.reduceAdd, e8]
  have hp8 := C8.2
  have Lp := C8.ld1 (off := 0) rfl
  simp only [go_sem, reduceIte, Nat.reduceEqDiff, Nat.reduceAdd, Lp]
  refine SC_mono (rtwo_spec R8) ?_
  rintro x h9 ⟨R9, K9, many, rfl, hmany0, hmany⟩
  simp only [go_sem, reduceIte, Nat.reduceEqDiff, Nat.reduceAdd]
  have K10 : HK no h9 (newS 3 [[.nils, .nils, .nils]] h9) := newS_keep ..
  have C10 : Cel (newS 3 [[.nils, .nils, .nils]] h9) h9.n [.nils, .nils, .nils] := Cel.newS h9 [.nils, .nils, .nils]
  have hn10 : (newS 3 [[.nils, .nils, .nils]] h9).n = h9.n + 1 := rfl
  generalize newS 3 [[.nils, .nils, .nils]] h9 = h10 at *
  have hk9 := K9.n
  have D10 : DI h h.n h5.n (h5.n + 1) h9.n h10.n h10 .nils .nils .nils [] [] [] [] :=
    ⟨(KK8.trans' K9 (fun i hi e => by omega)).trans K10, R9.keep0 K10, (C8.keep K9 (fun e => by omega)).keep0 K10, (C28.keep K9 (fun e => by omega)).keep0 K10, C10, Own1.nil .., Own1.nil .., Own1.nil .., rfl, fun j h1 => absurd h1 (by simp), Dj.nil _, Dj.nil _, Dj.nil _, fun _ h => (by cases h), fun _ h => (by cases h), fun _ h => (by cases h), fun _ h => (by cases h), fun _ h => (by cases h), by simp, by simp, by simp, by omega⟩
  simp only [go_sem, reduceIte, Nat.reduceEqDiff, Nat.reduceAdd, D10.Cp.ld1 (off := 0) rfl]
  refine SC_mono (row_spec read1 D10.Cp (by omega) D10.R 256 (by omega)) ?_
  rintro x h11 ⟨R11, K11, lx, Ox, hlx, hax⟩
  have D11 := D10.keepq K11 R11
  generalize h5.n = q at *
  generalize h9.n = b6 at *
  generalize hm10 : h10.n = m at *
  simp only [go_sem, reduceIte, Nat.reduceEqDiff, Nat.reduceAdd, Ox.sl.len]
  refine X_cutB (fun F hh => F 0 = v ∧ F 2 = .ptr h.n 0 0 0 ∧ F 4 = .ptr (q + 1) 0 0 0 ∧ F 5 = .int .i64 many ∧ F 6 = .ptr b6 0 0 0 ∧ ∃ cv cl, DI h h.n q (q + 1) b6 m hh cv .nils .nils cl [] [] []) ?_ ?_
  · refine X_loop (fun n F hh => F 0 = v ∧ F 2 = .ptr h.n 0 0 0 ∧ F 4 = .ptr (q + 1) 0 0 0 ∧ F 5 = .int .i64 many ∧ F 6 = .ptr b6 0 0 0 ∧ F 35 = x ∧ F 36 = .int .i64 lx.length ∧ ∃ (k : Nat) (cv : AV) (cl : List Int), n = lx.length - k ∧ k ≤ lx.length ∧ cl.length = k ∧ F 37 = .int .i64 (k : Nat) ∧ DI h h.n q (q + 1) b6 m hh cv .nils .nils cl [] [] [] ∧ OwnI m hh x lx ∧ Dj cv x) lx.length ⟨?_, ?_, ?_, ?_, ?_, ?_, ?_, 0, .nils, [], rfl, by omega, rfl, ?_, D11, Ox, Dj.nil _⟩ ?_
    any_goals (simp only [go_sem, reduceIte, Nat.reduceEqDiff]; done)
    · simp only [go_sem, reduceIte, Nat.reduceEqDiff]; rfl
    rintro n F hh ⟨f0, f2, f4, f5, f6, f35, f36, k, cv, cl, rfl, hk, hcl, f37, D, Ox, hd⟩
    simp only [go_sem, f0, f2, f4, f5, f6, f35, f36, f37, reduceIte, Nat.reduceEqDiff]
    by_cases hlt : k < lx.length
    · have e : decide ((k : Int) < (lx.length : Int)) = true := by simp; omega
      have hx := hax _ (List.getElem_mem hlt)
      have L0 := D.C6.ld1 (off := 0 + 0) rfl
      have hu8 : U8 (IntKind.u8.wrap lx[k]) := by rw [wu8m]; unfold U8; omega
      obtain ⟨v2, h2, h3, e2, e3, D3, Ox3, hd3⟩ := D.clsA Ox hd hu8 (by omega)
      simp only [go_sem, f0, f2, f4, f5, f6, f35, f36, f37, reduceIte, Nat.reduceEqDiff, e, Ox.sl.ixn _ hlt, Ox.sl.ld hlt, L0, e2, e3]
      exact ⟨lx.length - (k + 1), by omega, trivial, trivial, trivial, trivial, trivial, trivial, trivial, k + 1, v2, _, rfl, by omega, by simp; omega, by rw [w64 (by omega) (by omega)]; rfl, D3, Ox3, hd3⟩
    · have e : decide ((k : Int) < (lx.length : Int)) = false := by simp; omega
      simp only [go_sem, f0, f2, f4, f5, f6, f35, f36, f37, reduceIte, Nat.reduceEqDiff, e]
      exact ⟨trivial, trivial, trivial, trivial, trivial, cv, cl, D⟩
  rintro F hh ⟨f0, f2, f4, f5, f6, cv, cl, D⟩
  have L0 := D.C6.ld1 (off := 0 + 0) rfl
  simp only [go_sem, f0, f2, f4, f5, f6, reduceIte, Nat.reduceEqDiff, L0, D.Oc.sl.len]
  cases cl with
  | nil =>
    obtain ⟨h2, e2, e3, K2⟩ := bad hh D.K D.C2
    simp only [go_sem, f0, f2, f4, f5, f6, reduceIte, Nat.reduceEqDiff, Nat.reduceAdd, List.length_nil, natlit, Int.natCast_zero, decide_true, e2, e3, Tryd.f5]
    exact .bad K2
  | cons a cl =>
  have e : decide (((a :: cl).length : Int) = 0) = false := by simp; omega
  simp only [go_sem, f0, f2, f4, f5, f6, reduceIte, Nat.reduceEqDiff, Nat.reduceAdd, e, L0]
  refine SC_mono (max_u8 D.Oc.sl (by have := D.cl_; simp at this; omega)) ?_
  rintro x h' ⟨rfl, rfl⟩
  have hmx : 0 ≤ mxF a cl ∧ mxF a cl < 256 := D.cu _ (mxF_mem cl a)
  have hw1 : IntKind.i64.wrap (mxF a cl) = mxF a cl := w64 (by omega) (by omega)
  have hw2 : IntKind.i64.wrap (mxF a cl + 1) = (((mxF a cl + 1).toNat : Nat) : Int) := by rw [w64 (by omega) (by omega)]; omega
  simp only [go_sem, f0, f2, f4, f5, f6, reduceIte, Nat.reduceEqDiff, Nat.reduceAdd, hw1, hw2]
  generalize hclsdef : (mxF a cl + 1).toNat = classes at *
  have hcls : classes ≤ 256 := by
    have : (mxF a cl + 1) ≤ 256 := by omega
    have h2 : ((mxF a cl + 1).toNat : Nat) ≤ 256 := by omega
    rw [← hclsdef]; exact h2
  clear hw2
  obtain ⟨many, rfl⟩ := Int.eq_ofNat_of_zero_le hmany0
  refine X_cutB (fun F hh => F 0 = v ∧ F 2 = .ptr h.n 0 0 0 ∧ F 4 = .ptr (q + 1) 0 0 0 ∧ F 6 = .ptr b6 0 0 0 ∧ ∃ cv nv tv cl vs rows tl, DI h h.n q (q + 1) b6 m hh cv nv tv cl vs rows tl) ?_ ?_
  · refine X_loop (fun n F hh => F 0 = v ∧ F 2 = .ptr h.n 0 0 0 ∧ F 4 = .ptr (q + 1) 0 0 0 ∧ F 6 = .ptr b6 0 0 0 ∧ F 9 = .int .i64 classes ∧ F 59 = .int .i64 many ∧ ∃ (k : Nat) (cv nv tv : AV) (cl : List Int) (vs : List AV) (rows : List (List Int)) (tl : List Int), n = many - k ∧ k ≤ many ∧ rows.length = k ∧ tl.length = k ∧ F 60 = .int .i64 (k : Nat) ∧ DI h h.n q (q + 1) b6 m hh cv nv tv cl vs rows tl) many ⟨?_, ?_, ?_, ?_, ?_, ?_, 0, cv, .nils, .nils, _, [], [], [], rfl, by omega, rfl, rfl, ?_, D⟩ ?_
    any_goals (simp only [go_sem, f0, f2, f4, f5, f6, reduceIte, Nat.reduceEqDiff, Int.ofNat_eq_natCast]; done)
    · simp only [go_sem, reduceIte, Nat.reduceEqDiff]; rfl
    rintro n F hh ⟨f0, f2, f4, f6, f9, f59, k, cv, nv, tv, cl, vs, rows, tl, rfl, hk, hrows, htl, f60, D⟩
    simp only [go_sem, f0, f2, f4, f6, f9, f59, f60, reduceIte, Nat.reduceEqDiff]
    by_cases hlt : k < many
    rotate_left
    · have e : decide ((k : Int) < (many : Int)) = false := by simp; omega
      simp only [go_sem, f0, f2, f4, f6, f9, f59, f60, reduceIte, Nat.reduceEqDiff, e]
      exact ⟨trivial, trivial, trivial, trivial, _, _, _, _, _, _, _, D⟩
    have e : decide ((k : Int) < (many : Int)) = true := by simp; omega
    simp only [go_sem, f0, f2, f4, f6, f9, f59, f60, reduceIte, Nat.reduceEqDiff, e]
    refine X_draw (ps [0] (.q 1 (ps [2] (.c 3 [1] (ps [4] (.c 5 [1] (ps [6,7,8] .nil))))))) (by kernel_rfl) ?_
    simp only [go_sem, f0, f2, f4, f6, f9, f59, f60, reduceIte, Nat.reduceEqDiff, D.C6.ld1 (off := 0 + 2) rfl, D.Cp.ld1 (off := 0) rfl]
    refine SC_mono (rtwo_spec D.R) ?_
    rintro x h2 ⟨R2, K2, n, rfl, hn0, hn1⟩
    have D2 := D.keepq K2 R2
    have K3 := newS_keep 1 [[AV.int .i64 (n - 1)]] h2
    obtain ⟨v2, h3, h4, e3, e4, D4⟩ := D2.tag (n := n - 1) (by omega) (by omega)
    simp only [go_sem, f0, f2, f4, f6, f9, f59, f60, reduceIte, Nat.reduceEqDiff, w64 (show -9223372036854775808 ≤ n - 1 by omega) (by omega), D2.C6.ld1 (off := 0 + 2) rfl, (D2.keep0 K3).C6.ld1 (off := 0 + 2) rfl, e3, e4, List.contains_cons, List.contains_nil, Nat.reduceBEq, Bool.or_true, Bool.true_or, Bool.or_false, and_self, true_and, Bool.false_eq_true]
    refine X_draw (ps [0] (.q 1 (ps [2,3,4] (.c 5 [1] (.c 6 [1] (ps [7,8,9] .nil)))))) (by kernel_rfl) ?_
    simp only [go_sem, f0, f2, f4, f6, f9, f59, f60, reduceIte, Nat.reduceEqDiff, D4.C6.ld1 (off := 0 + 1) rfl, D4.Cp.ld1 (off := 0) rfl]
    refine SC_mono (row_spec read2 D4.Cp (by omega) D4.R classes (by omega)) ?_
    rintro x h5 ⟨R5, K5, r, Or, hr, hra⟩
    have D5 := D4.keepq K5 R5
    have K6 := newS_keep 1 [[x]] h5
    have hmm := D4.hm
    obtain ⟨v6, h6, h7, e6, e7, D7⟩ := D5.row (Or.weak hmm.2.2.2.2.2) (fun b hb hb2 => by have := Or.ge hb; have := D4.On.sl.lt hb2; omega) (fun b hb hb2 => by have := Or.ge hb; have := D4.Ot.sl.lt hb2; omega) ⟨by omega, hra⟩ (by omega)
    have D7' := D7
    obtain ⟨bv, s, lb, Cq', _⟩ := D7'.R
    have L1 := Cq'.ld1 (off := 0 + 1) rfl
    simp only [go_sem, f0, f2, f4, f6, f9, f59, f60, reduceIte, Nat.reduceEqDiff, Or.sl.isCell, D5.C6.ld1 (off := 0 + 1) rfl, (D5.keep0 K6).C6.ld1 (off := 0 + 1) rfl, e6, e7, D7.Cp.ld1 (off := 0) rfl, L1, List.contains_cons, List.contains_nil, Nat.reduceBEq, Bool.or_true, Bool.true_or, Bool.or_false, and_self, true_and, Bool.false_eq_true]
    cases s with
    | true =>
      simp only [go_sem, f0, f2, f4, f6, f9, f59, f60, reduceIte, Nat.reduceEqDiff]
      exact ⟨_, _, _, _, _, _, _, D7⟩
    | false =>
      simp only [go_sem, f0, f2, f4, f6, f9, f59, f60, reduceIte, Nat.reduceEqDiff]
      exact ⟨many - (k + 1), by omega, k + 1, _, _, _, _, _, _, _, rfl, by omega, by simp; omega, by simp; omega, by rw [w64 (by omega) (by omega)]; rfl, D7⟩
  clear hcls
  rintro F hh ⟨f0, f2, f4, f6, cv, nv, tv, cl, vs, rows, tl, D⟩
  have hm' := D.hm
  have LA : fLoad true 3 hh (.ptr b6 0 0 0) = some (.agg [cv, nv, tv]) := D.C6.ldW
  simp only [go_sem, f0, f2, f4, f6, reduceIte, Nat.reduceEqDiff, Nat.reduceAdd, LA]
  refine SC_mono (encode_spec D.tab) ?_
  rintro x h2 ⟨K2, ev, hx⟩
  have D2 := D.keep0 K2
  have D2' := D2
  obtain ⟨bv, s, lb, Cq', _⟩ := D2'.R
  have L1 := Cq'.ld1 (off := 1) rfl
  have LA2 : fLoad true 3 h2 (.ptr b6 0 0 0) = some (.agg [cv, nv, tv]) := D2.C6.ldW
  obtain ⟨h3, e3, e4, K3⟩ := bad h2 D2.K D2.C2
  rcases hx with ⟨hok, rfl, Ov⟩ | ⟨hok, rfl⟩
  rotate_left
  · cases s with
    | true =>
      simp only [go_sem, f0, f2, f4, f6, reduceIte, Nat.reduceEqDiff, Nat.reduceAdd, D2.Cp.ld1 (off := 0) rfl, L1, e3, e4, Tryd.f5]
      exact .bad K3
    | false =>
      simp only [go_sem, f0, f2, f4, f6, reduceIte, Nat.reduceEqDiff, Nat.reduceAdd, D2.Cp.ld1 (off := 0) rfl, L1, show decide ((1 : Int) ≠ 0) = true by decide, e3, e4, Tryd.f5]
      exact .bad K3
  cases s with
  | true =>
    simp only [go_sem, f0, f2, f4, f6, reduceIte, Nat.reduceEqDiff, Nat.reduceAdd, D2.Cp.ld1 (off := 0) rfl, L1, e3, e4, Tryd.f5]
    exact .bad K3
  | false =>
  simp only [go_sem, f0, f2, f4, f6, reduceIte, Nat.reduceEqDiff, Nat.reduceAdd, D2.Cp.ld1 (off := 0) rfl, L1, show decide ((0 : Int) ≠ 0) = false by decide]
  refine SC_mono (beq_spec Ov.sl (B.keep0 D2.K) (encB_u8 _ D.cu) hu) ?_
  rintro x h' ⟨rfl, rfl⟩
  cases heq : encB ⟨cl, rows, tl⟩ == l with
  | false =>
    simp only [go_sem, f0, f2, f4, f6, reduceIte, Nat.reduceEqDiff, Nat.reduceAdd, heq, Bool.not_false, e3, e4, Tryd.f5]
    exact .bad K3
  | true =>
    have cc := D.Oc.sl.isCell
    have cn := D.On.sl.isCell
    have ct := D.Ot.sl.isCell
    obtain ⟨h5, e5, C5, K5, _⟩ := D2.C2.stA (cs' := [cv, nv, tv]) rfl (by simp [cc, cn, ct])
    have LA5 : fLoad true 3 h5 (.ptr h.n 0 0 0) = some (.agg [cv, nv, tv]) := C5.ldW
    have e5' : fStore (2 + 1) h' (.ptr h.n 0 0 0) (.agg [cv, nv, tv]) = some h5 := e5
    simp only [go_sem, f0, f2, f4, f6, reduceIte, Nat.reduceEqDiff, Nat.reduceAdd, heq, Bool.not_true, LA2, e5', LA5, Tryd.f5]
    have hmm := D2.hm
    have T2 := D2.tab
    refine ⟨D2.K.trans' K5 (fun i hi e => by omega), .inr ⟨cv, nv, tv, ⟨cl, rows, tl⟩, rfl, ?_, hok, by simpa using heq⟩⟩
    exact { T2 with
      c := T2.c.keep K5 (fun b _ hv e => by have := D2.Oc.ge hv; omega)
      n := ⟨vs, D2.On.sl.keep K5 (fun b _ hv e => by have := D2.On.ge hv; omega), D2.rl, fun j h1 h2 => (D2.rr j h1 h2).sl.keep K5 (fun b _ hv e => by have := (D2.rr j h1 h2).ge hv; omega)⟩
      t := T2.t.keep K5 (fun b _ hv e => by have := D2.Ot.ge hv; omega) }
end Go.Proofs.YtlobjaanabepgaaDoor
/- Tables that are alike. -/
namespace Go.Proofs.YtlobjaanabepgaaDoor
open Go Go.AM
set_option maxRecDepth 100000
set_option linter.unusedVariables false
set_option linter.unusedSimpArgs false
set_option maxHeartbeats 1000000 in
theorem same13_spec {h : AHeap} {n n' t t' : AV} {next : List (List Int)} {tags : List Int} (N : IntsS h n next) (N' : IntsS h n' next) (T : Ints h t tags) (T' : Ints h t' tags) (hn : next.length < 1099511627776) (ht : tags.length < 1099511627776) (hr : ∀ r ∈ next, r.length < 1099511627776) :
    SC P 19 [.agg [n, t], .agg [n', t']] h (fun x h' => HK no h h' ∧ x = .bool true) := by
  refine SC_X hm Tryd.func19 rfl (by kernel_rfl) ?_
  obtain ⟨vs, B, hvs, BB⟩ := N
  obtain ⟨vs', B', hvs', BB'⟩ := N'
  simp only [go_sem, reduceIte, Nat.reduceEqDiff, B.isCell, B'.isCell, T.isCell, T'.isCell]
  have K1 : HK no h (newS 2 [[n, t]] h) := newS_keep ..
  have C1 : Cel (newS 2 [[n, t]] h) h.n [n, t] := Cel.newS h [n, t]
  generalize hh1 : newS 2 [[n, t]] h = h1 at *
  have hn1 : h1.n = h.n + 1 := by rw [← hh1]; rfl
  have K2 : HK no h1 (newS 2 [[n', t']] h1) := newS_keep ..
  have C2 : Cel (newS 2 [[n', t']] h1) h1.n [n', t'] := Cel.newS h1 [n', t']
  rw [hn1] at C2
  have D1 := C1.keep0 K2
  generalize newS 2 [[n', t']] h1 = h2 at *
  have K : HK no h h2 := K1.trans K2
  have B := B.keep0 K
  have B' := B'.keep0 K
  have T := T.keep0 K
  have T' := T'.keep0 K
  have L0 := D1.ld1 (off := 0 + 0) rfl
  have L1 := D1.ld1 (off := 0 + 1) rfl
  have M0 := C2.ld1 (off := 0 + 0) rfl
  have M1 := C2.ld1 (off := 0 + 1) rfl
  have ed : (decide (¬ ((vs.length : Int) = (vs'.length : Int)))) = false := by simp; omega
  simp only [go_sem, reduceIte, Nat.reduceEqDiff, L0, L1, M0, M1, B.len, B'.len, T.len, T'.len, ne_eq, ed, not_true_eq_false, decide_false]
  refine X_cutB (fun F hh => hh = h2 ∧ F 2 = .ptr h.n 0 0 0 ∧ F 3 = .ptr (h.n + 1) 0 0 0) ?_ ?_
  · refine X_loop (fun m F hh => hh = h2 ∧ F 2 = .ptr h.n 0 0 0 ∧ F 3 = .ptr (h.n + 1) 0 0 0 ∧ ∃ k : Nat, m = tags.length - k ∧ k ≤ tags.length ∧ F 5 = .int .i64 (k : Nat)) tags.length ⟨rfl, ?_, ?_, 0, rfl, by omega, ?_⟩ ?_
    any_goals (simp only [go_sem, reduceIte, Nat.reduceEqDiff]; done)
    · simp only [go_sem, reduceIte, Nat.reduceEqDiff]; rfl
    rintro m F hh ⟨rfl, f2, f3, k, rfl, hk, f5⟩
    simp only [go_sem, f2, f3, f5, reduceIte, Nat.reduceEqDiff, L1, T.len]
    by_cases hlt : k < tags.length
    · have e : decide ((k : Int) < (tags.length : Int)) = true := by simp; omega
      simp only [go_sem, f2, f3, f5, reduceIte, Nat.reduceEqDiff, e]
      refine X_draw (ps [0,1,2,3,4,5,6,7,8,9,10] .nil) (by kernel_rfl) ?_
      simp only [go_sem, f2, f3, f5, reduceIte, Nat.reduceEqDiff, L1, M1, T.ixn _ hlt, T.ld hlt, T'.ixn _ hlt, T'.ld hlt, ne_eq, not_true_eq_false, decide_false]
      exact ⟨_, (by omega : tags.length - (k + 1) < _), trivial, trivial, trivial, k + 1, rfl, by omega, by rw [w64 (by omega) (by omega)]; rfl⟩
    · have e : decide ((k : Int) < (tags.length : Int)) = false := by simp; omega
      simp only [go_sem, f2, f3, f5, reduceIte, Nat.reduceEqDiff, e]
      exact ⟨trivial, trivial, trivial⟩
  rintro F hh ⟨rfl, f2, f3⟩
  simp only [go_sem, f2, f3, reduceIte, Nat.reduceEqDiff]
  refine X_loop (fun m F h' => h' = hh ∧ F 2 = .ptr h.n 0 0 0 ∧ F 3 = .ptr (h.n + 1) 0 0 0 ∧ ∃ k : Nat, m = next.length - k ∧ k ≤ next.length ∧ F 6 = .int .i64 (k : Nat)) next.length ⟨rfl, ?_, ?_, 0, rfl, by omega, ?_⟩ ?_
  any_goals (simp only [go_sem, f2, f3, reduceIte, Nat.reduceEqDiff]; done)
  · simp only [go_sem, reduceIte, Nat.reduceEqDiff]; rfl
  rintro m F h' ⟨rfl, f2, f3, k, rfl, hk, f6⟩
  simp only [go_sem, f2, f3, f6, reduceIte, Nat.reduceEqDiff, L0, B.len]
  by_cases hlt : k < next.length
  rotate_left
  · have e : decide ((k : Int) < (vs.length : Int)) = false := by simp; omega
    simp only [go_sem, f2, f3, f6, reduceIte, Nat.reduceEqDiff, Nat.reduceAdd, e, Tryd.f19]
    exact ⟨K, by trivial⟩
  have e : decide ((k : Int) < (vs.length : Int)) = true := by simp; omega
  have hkv : k < vs.length := by omega
  have hkv' : k < vs'.length := by omega
  have R := (BB k hkv hlt).keep0 K
  have R' := (BB' k hkv' hlt).keep0 K
  have hrl := hr _ (List.getElem_mem hlt)
  simp only [go_sem, f2, f3, f6, reduceIte, Nat.reduceEqDiff, e]
  refine X_draw (ps [0,1,2,3,4,5,6,7,8,9,10,11,12] .nil) (by kernel_rfl) ?_
  simp only [go_sem, f2, f3, f6, reduceIte, Nat.reduceEqDiff, L0, M0, B.ixn _ hkv, B.ld hkv, B'.ixn _ hkv', B'.ld hkv', id_eq, R.len, R'.len, ne_eq, not_true_eq_false, decide_false]
  refine X_loop (fun m F h'' => h'' = h' ∧ F 2 = .ptr h.n 0 0 0 ∧ F 3 = .ptr (h.n + 1) 0 0 0 ∧ F 6 = .int .i64 (k : Nat) ∧ ∃ j : Nat, m = next[k].length - j ∧ j ≤ next[k].length ∧ F 7 = .int .i64 (j : Nat)) next[k].length ⟨rfl, ?_, ?_, ?_, 0, rfl, by omega, ?_⟩ ?_
  any_goals (simp only [go_sem, f2, f3, f6, reduceIte, Nat.reduceEqDiff]; done)
  · simp only [go_sem, reduceIte, Nat.reduceEqDiff]; rfl
  rintro m F h'' ⟨rfl, f2, f3, f6, j, rfl, hj, f7⟩
  simp only [go_sem, f2, f3, f6, f7, reduceIte, Nat.reduceEqDiff, L0, B.ixn _ hkv, B.ld hkv, id_eq, R.len]
  by_cases hlj : j < next[k].length
  · have e : decide ((j : Int) < (next[k].length : Int)) = true := by simp; omega
    simp only [go_sem, f2, f3, f6, f7, reduceIte, Nat.reduceEqDiff, e]
    refine X_draw (ps [0,1,2,3,4,5,6,7,8,9,10,11,12,13,14,15,16] .nil) (by kernel_rfl) ?_
    simp only [go_sem, f2, f3, f6, f7, reduceIte, Nat.reduceEqDiff, L0, M0, B.ixn _ hkv, B.ld hkv, B'.ixn _ hkv', B'.ld hkv', id_eq, R.ixn _ hlj, R.ld hlj, R'.ixn _ hlj, R'.ld hlj, ne_eq, not_true_eq_false, decide_false]
    exact ⟨_, (by omega : next[k].length - (j + 1) < _), trivial, trivial, trivial, trivial, j + 1, rfl, by omega, by rw [w64 (by omega) (by omega)]; rfl⟩
  · have e : decide ((j : Int) < (next[k].length : Int)) = false := by simp; omega
    simp only [go_sem, f2, f3, f6, f7, reduceIte, Nat.reduceEqDiff, e]
    exact ⟨_, (by omega : next.length - (k + 1) < _), trivial, trivial, trivial, k + 1, rfl, by omega, by rw [w64 (by omega) (by omega)]; rfl⟩
theorem same14_spec {h : AHeap} {c n t c' n' t' : AV} {T : Tb} (V : TabV h c n t T) (V' : TabV h c' n' t' T) :
    SC P 6 [.agg [c, n, t], .agg [c', n', t']] h (fun x h' => HK no h h' ∧ x = .bool true) := by
  refine SC_X hm Tryd.func6 rfl (by kernel_rfl) ?_
  have cn : n.isCell = true := by obtain ⟨vs, B, _⟩ := V.n; exact B.isCell
  have cn' : n'.isCell = true := by obtain ⟨vs, B, _⟩ := V'.n; exact B.isCell
  simp only [go_sem, reduceIte, Nat.reduceEqDiff, V.c.isCell, V'.c.isCell, V.t.isCell, V'.t.isCell, cn, cn']
  have K1 : HK no h (newS 3 [[c, n, t]] h) := newS_keep ..
  have C1 : Cel (newS 3 [[c, n, t]] h) h.n [c, n, t] := Cel.newS h [c, n, t]
  generalize hh1 : newS 3 [[c, n, t]] h = h1 at *
  have hn1 : h1.n = h.n + 1 := by rw [← hh1]; rfl
  have K2 : HK no h1 (newS 3 [[c', n', t']] h1) := newS_keep ..
  have C2 : Cel (newS 3 [[c', n', t']] h1) h1.n [c', n', t'] := Cel.newS h1 [c', n', t']
  rw [hn1] at C2
  have D1 := C1.keep0 K2
  generalize newS 3 [[c', n', t']] h1 = h2 at *
  have K : HK no h h2 := K1.trans K2
  have W := V.keep0 K
  have W' := V'.keep0 K
  have eb : (T.cls == T.cls) = true := by simp
  simp only [go_sem, reduceIte, Nat.reduceEqDiff, hn1, D1.ld1 (off := 0 + 0) rfl, D1.ld1 (off := 0 + 1) rfl, D1.ld1 (off := 0 + 2) rfl, C2.ld1 (off := 0 + 0) rfl, C2.ld1 (off := 0 + 1) rfl, C2.ld1 (off := 0 + 2) rfl, byts_str W.c W.cr, byts_str W'.c W'.cr, eb, V.t.isCell, V'.t.isCell, cn, cn']
  refine SC_mono (same13_spec W.n W'.n W.t W'.t W.nl W.tl W.rl) ?_
  rintro x h' ⟨K', rfl⟩
  simp only [go_sem, reduceIte, Nat.reduceEqDiff, Tryd.f6]
  exact ⟨K.trans K', by trivial⟩
end Go.Proofs.YtlobjaanabepgaaDoor
