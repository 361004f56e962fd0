/- Bytes that are laid: what the small functions of pack do. -/
import Derived.Test.YtlobjaanabepgaaDoorKinds
namespace Go.Proofs.YtlobjaanabepgaaDoor
open Go Go.AM
set_option maxRecDepth 100000
set_option linter.unusedVariables false
set_option linter.unusedSimpArgs false

def fnvStep (n c : Int) : Int := IntKind.u32.wrap (aBits .xor .u32 n (IntKind.u32.wrap c) * 16777619)
def fnv (l : List Int) : Int := l.foldl fnvStep 2166136261
theorem fnv_snoc (l : List Int) (c : Int) : fnv (l ++ [c]) = fnvStep (fnv l) c := by simp [fnv]
theorem fnv_range (l : List Int) : 0 ≤ fnv l ∧ fnv l ≤ 4294967295 := by
  rcases List.eq_nil_or_concat l with rfl | ⟨l', c, rfl⟩
  · simp [fnv]
  · rw [List.concat_eq_append, fnv_snoc]
    unfold fnvStep
    rw [wu32m]
    omega
theorem sum_spec {h : AHeap} {v : AV} {l : List Int} (B : Byt h v l) (hl : l.length < 4611686018427387904) : SC P 9 [v] h (fun r h' => h' = h ∧ r = .int .u32 (fnv l)) := by
  refine SC_X hm Tryd.func9 rfl (by kernel_rfl) ?_
  simp only [go_sem, reduceIte, Nat.reduceEqDiff, B.len]
  refine X_loop (fun n F h' => h' = h ∧ ∃ k, k ≤ l.length ∧ n = l.length - k ∧ F 3 = .int .u32 (fnv (l.take k)) ∧ F 6 = v ∧ F 7 = .int .i64 l.length ∧ F 8 = .int .i64 (k : Nat)) l.length ⟨rfl, 0, by omega, by omega, ?_⟩ ?_
  · simp only [go_sem, reduceIte, Nat.reduceEqDiff]
    simp [fnv]
  · rintro n F h' ⟨rfl, k, hk, rfl, f3, f6, f7, f8⟩
    simp only [go_sem, f6, f7, f8, reduceIte, Nat.reduceEqDiff]
    by_cases hlt : k < l.length
    · have e : decide ((k : Int) < (l.length : Int)) = true := by simp; omega
      simp only [go_sem, e, f6, f7, f8, reduceIte, Nat.reduceEqDiff, B.ixn _ hlt, B.ld hlt, f3]
      exact ⟨_, (by omega : l.length - (k + 1) < _), trivial, k + 1, by omega, rfl, by rw [take_snoc' l k hlt, fnv_snoc]; rfl, trivial, trivial, by rw [w64 (by omega) (by omega)]; rfl⟩
    · have e : decide ((k : Int) < (l.length : Int)) = false := by simp; omega
      simp only [go_sem, e, f6, f7, f8, reduceIte, Nat.reduceEqDiff, Nat.reduceAdd, f3, Tryd.f9]
      rw [List.take_of_length_le (by omega)]
      exact ⟨by trivial, by trivial⟩
abbrev OwnB := Own1 (AV.int .u8)
theorem magic_spec {h : AHeap} : SC P 11 [] h (fun r h' => OwnB h.n h' r [71, 67, 1] ∧ HK no h h') := by
  refine SC_X hm Tryd.func11 rfl (by kernel_rfl) ?_
  simp only [go_sem, reduceIte, Nat.reduceEqDiff, Tryd.f11]
  exact ⟨newS_own (AV.int .u8) h.n h [71, 67, 1] (Nat.le_refl _), newS_keep ..⟩
theorem two_spec {m : Nat} {h : AHeap} {v : AV} {l : List Int} (O : OwnB m h v l) (hm' : m ≤ h.n) (hl : l.length < 1099511627776) (n : Int) :
    SC P 22 [v, .int .i64 n] h (fun r h' => OwnB m h' r (l ++ [n / 256 % 256, n % 256]) ∧ HK (inV v) h h' ∧ ∀ b, inV r b → inV v b ∨ h.n ≤ b) := by
  refine SC_X hm Tryd.func22 rfl (by kernel_rfl) ?_
  simp only [go_sem, reduceIte, Nat.reduceEqDiff, Tryd.f22, shr8_64, wu8m]
  have K := newS_keep 1 [[AV.int .u8 (n / 256 % 256)], [AV.int .u8 (n % 256)]] h
  obtain ⟨v', h', e, O', K', hv⟩ := (O.keep0 K).app (l' := [n / 256 % 256, n % 256]) (lim := 140737488355328 / (0 + 1)) (Nat.le_trans hm' K.n) (newS_elems 1 _ h 2 rfl) (by simp; omega)
  simp only [go_sem, reduceIte, Nat.reduceEqDiff, e]
  exact ⟨O', K.thn K', fun b hb => (hv b hb).imp id (fun e => by rw [e]; exact K.n)⟩
end Go.Proofs.YtlobjaanabepgaaDoor
/- Rows that are laid by what is alike. -/
namespace Go.Proofs.YtlobjaanabepgaaDoor
open Go Go.AM
set_option maxRecDepth 100000
set_option linter.unusedVariables false
set_option linter.unusedSimpArgs false
section
variable {α : Type} [DecidableEq α]
def pre (a : α) : List α → Nat
  | [] => 0
  | b :: r => if b = a then pre a r + 1 else 0
def runN (a : α) (r : List α) : Nat := min 254 (pre a r) + 1
def runsF (lay : α → List Int) : Nat → List α → List Int
  | 0, _ => []
  | _ + 1, [] => []
  | k + 1, a :: r => (runN a r : Int) :: (lay a ++ runsF lay k ((a :: r).drop (runN a r)))
def runsL (lay : α → List Int) (l : List α) : List Int := runsF lay l.length l
theorem pre_le (a : α) : ∀ r : List α, pre a r ≤ r.length
  | [] => Nat.le_refl _
  | b :: r => by have := pre_le a r; simp only [pre, List.length_cons]; split <;> omega
theorem runN_le (a : α) (r : List α) : runN a r ≤ (a :: r).length ∧ 1 ≤ runN a r ∧ runN a r ≤ 255 := by have := pre_le a r; simp only [runN, List.length_cons]; omega
theorem pre_ge (a : α) : ∀ (r : List α) (n : Nat), n ≤ r.length → (∀ i (h : i < r.length), i < n → r[i] = a) → n ≤ pre a r
  | [], n, h, _ => by simpa [pre] using h
  | b :: r, 0, _, _ => Nat.zero_le _
  | b :: r, n + 1, h, H => by
    have h0 := H 0 (by simp) (by omega)
    simp only [List.getElem_cons_zero] at h0
    simp only [pre, h0, if_true]
    have := pre_ge a r n (by simpa using h) (fun i hi hn => by have := H (i + 1) (by simpa using hi) (by omega); simpa using this)
    omega
theorem pre_lt (a : α) : ∀ (r : List α) (n : Nat) (h : n < r.length), r[n] ≠ a → pre a r ≤ n
  | b :: r, 0, h, H => by simp only [List.getElem_cons_zero] at H; simp [pre, H]
  | b :: r, n + 1, h, H => by
    have := pre_lt a r n (by simpa using h) (by simpa using H)
    simp only [pre]; split <;> omega
theorem runN_of (a : α) (r : List α) (n : Nat) (h1 : 1 ≤ n) (h2 : n ≤ 255) (h3 : n ≤ r.length + 1) (H : ∀ i (h : i < (a :: r).length), i < n → (a :: r)[i] = a) (he : n = 255 ∨ n = r.length + 1 ∨ ∃ h : n < (a :: r).length, (a :: r)[n] ≠ a) : runN a r = n := by
  have g := pre_ge a r (n - 1) (by omega) (fun i hi hn => by have := H (i + 1) (by simpa using hi) (by omega); simpa using this)
  have l := pre_le a r
  unfold runN
  rcases he with he | he | ⟨hn, he⟩
  · omega
  · omega
  · have := pre_lt a r (n - 1) (by simp at hn; omega) (by
      have e : n = n - 1 + 1 := by omega
      have h5 : (a :: r)[n]'hn = r[n - 1]'(by simp at hn; omega) := by
        rw [List.getElem_cons]; split
        · omega
        · rfl
      rw [← h5]; exact he)
    omega
theorem runsF_succ (lay : α → List Int) : ∀ (k : Nat) (l : List α), l.length ≤ k → runsF lay (k + 1) l = runsF lay k l := by
  intro k
  induction k with
  | zero => intro l h; have : l = [] := List.eq_nil_of_length_eq_zero (by omega); subst this; rfl
  | succ k ih =>
    intro l h
    cases l with
    | nil => rfl
    | cons a r =>
      have hr := runN_le a r
      rw [runsF, runsF, ih _ (by simp only [List.length_drop, List.length_cons] at h hr ⊢; omega)]
theorem runsF_more (lay : α → List Int) (k : Nat) (l : List α) (h : l.length ≤ k) : runsF lay k l = runsL lay l := by
  have : ∀ d, runsF lay (l.length + d) l = runsL lay l := by
    intro d
    induction d with
    | zero => rfl
    | succ d ih => rw [← ih]; exact runsF_succ lay _ _ (Nat.le_add_right _ _)
  rw [← this (k - l.length)]
  congr 1
  omega
theorem runsL_cons (lay : α → List Int) (a : α) (r : List α) : runsL lay (a :: r) = (runN a r : Int) :: (lay a ++ runsL lay ((a :: r).drop (runN a r))) := by
  have hr := runN_le a r
  rw [runsL, List.length_cons, runsF, runsF_more lay _ _ (by simp only [List.length_drop, List.length_cons] at hr ⊢; omega)]
end
def layu8 (n : Int) : List Int := [n]
def layi64 (n : Int) : List Int := [(n + 1) / 256 % 256, (n + 1) % 256]
theorem layu8_len (n : Int) : (layu8 n).length = 1 := rfl
theorem layi64_len (n : Int) : (layi64 n).length = 2 := rfl
theorem lay_u8 {m : Nat} {h : AHeap} {v : AV} {l : List Int} (O : OwnB m h v l) (hm' : m ≤ h.n) (hl : l.length < 1099511627776) (n : Int) :
    SC P 24 [v, .int .u8 n] h (fun r h' => OwnB m h' r (l ++ layu8 n) ∧ HK (m ≤ ·) h h') := by
  refine SC_X hm Tryd.func24 rfl (by kernel_rfl) ?_
  have K1 := newS_keep 1 [[AV.int .u8 n]] h
  obtain ⟨v2, h2, e2, O2, K2, hv2⟩ := (O.keep0 K1).app (l' := [n]) (lim := 140737488355328 / (0 + 1)) (Nat.le_trans hm' K1.n) (newS_elems 1 _ h 1 rfl) (by simp; omega)
  simp only [go_sem, reduceIte, Nat.reduceEqDiff, Tryd.f24, e2]
  exact ⟨O2, K1.thn (K2.mono fun b _ h => O.ge h)⟩
theorem runs_u8 {m : Nat} {h : AHeap} {v w : AV} {l : List Int} {r : List Int} (O : OwnB m h v l) (B : Sl1 (AV.int .u8) h w r) (hw : ∀ b, inV w b → b < m) (hm' : m ≤ h.n) (hl : l.length + 4 * r.length < 1099511627776) :
    SC P 23 [v, w, .fn 24 []] h (fun x h' => OwnB m h' x (l ++ runsL layu8 r) ∧ HK (m ≤ ·) h h') := by
  refine SC_X hm Tryd.func23 rfl (by kernel_rfl) ?_
  simp only [go_sem, reduceIte, Nat.reduceEqDiff]
  refine X_loop (fun n F h' => HK (m ≤ ·) h h' ∧ ∃ v' l' w' r', n = r'.length ∧ F 0 = v' ∧ F 1 = w' ∧ F 2 = .fn 24 [] ∧ OwnB m h' v' l' ∧ Sl1 (AV.int .u8) h' w' r' ∧ (∀ b, inV w' b → b < m) ∧ l'.length + 4 * r'.length ≤ l.length + 4 * r.length ∧ l' ++ runsL layu8 r' = l ++ runsL layu8 r) r.length ⟨.refl .., v, l, w, r, rfl, ?_, ?_, ?_, O, B, hw, by omega, rfl⟩ ?_
  any_goals (simp only [go_sem, reduceIte, Nat.reduceEqDiff]; done)
  rintro n F h' ⟨K, v', l', w', r', rfl, f0, f1, f2, O, B, hw, hle, heq⟩
  simp only [go_sem, f0, f1, f2, reduceIte, Nat.reduceEqDiff, B.len]
  cases r' with
  | nil =>
    simp only [go_sem, f0, f1, f2, reduceIte, Nat.reduceEqDiff, Nat.reduceAdd, List.length_nil, Int.natCast_zero, Int.lt_irrefl, decide_false, Tryd.f23]
    rw [← heq]
    exact ⟨by simpa [runsL, runsF] using O, K⟩
  | cons a r' =>
    have e : decide ((0 : Int) < ((a :: r').length : Int)) = true := by simp
    simp only [go_sem, f0, f1, f2, reduceIte, Nat.reduceEqDiff, e]
    -- the inner loop
    refine X_cutB (fun F h'' => h'' = h' ∧ F 0 = v' ∧ F 1 = w' ∧ F 2 = .fn 24 [] ∧ F 7 = .int .i64 (runN a r' : Nat)) ?_ ?_
    · refine X_loop (fun n F h'' => h'' = h' ∧ F 0 = v' ∧ F 1 = w' ∧ F 2 = .fn 24 [] ∧ ∃ k : Nat, n = 256 - k ∧ 1 ≤ k ∧ k ≤ 255 ∧ k ≤ r'.length + 1 ∧ F 7 = .int .i64 k ∧ ∀ i (h : i < (a :: r').length), i < k → (a :: r')[i] = a) 255 ⟨rfl, ?_, ?_, ?_, 1, rfl, by omega, by omega, by omega, ?_, ?_⟩ ?_
      any_goals (simp only [go_sem, reduceIte, Nat.reduceEqDiff, f0, f1, f2]; done)
      · simp only [go_sem, reduceIte, Nat.reduceEqDiff]; rfl
      · intro i h1 h2
        have : i = 0 := by omega
        subst this; rfl
      · rintro n F h'' ⟨rfl, f0, f1, f2, k, rfl, h1, h2, h3, f7, hall⟩
        simp only [go_sem]
        refine X_draw (ps [0,1,2,3,4,5,6,7,8,9,10,11,12,13,14] .nil) (by kernel_rfl) ?_
        have e1 : (if (255 : Int) < ((a :: r').length : Int) then (255 : Int) else ((a :: r').length : Int)) = ((min 255 (r'.length + 1) : Nat) : Int) := by
          simp only [List.length_cons]; split <;> omega
        simp only [go_sem, f0, f1, f2, f7, reduceIte, Nat.reduceEqDiff, B.len, e1]
        by_cases hk : k < min 255 (r'.length + 1)
        · have e2 : decide ((k : Int) < ((min 255 (r'.length + 1) : Nat) : Int)) = true := by simp; omega
          have hkl : k < (a :: r').length := by simp; omega
          simp only [go_sem, f0, f1, f2, f7, reduceIte, Nat.reduceEqDiff, e2, B.ixn _ hkl, B.ld hkl, B.ix0 _ (by simp : 0 < (a :: r').length), B.ld (by simp : 0 < (a :: r').length), List.getElem_cons_zero]
          by_cases hx : (a :: r')[k] = a
          · simp only [go_sem, f0, f1, f2, f7, reduceIte, Nat.reduceEqDiff, hx, decide_true]
            refine ⟨_, (by omega : 256 - (k + 1) < _), trivial, trivial, trivial, trivial, k + 1, rfl, by omega, by omega, by omega, ?_, ?_⟩
            · rw [w64 (by omega) (by omega)]; rfl
            · intro i h4 h5
              by_cases e : i = k
              · subst e; exact hx
              · exact hall i h4 (by omega)
          · simp only [go_sem, f0, f1, f2, f7, reduceIte, Nat.reduceEqDiff, hx, decide_false]
            refine ⟨trivial, trivial, trivial, trivial, ?_⟩
            rw [runN_of a r' k h1 h2 h3 hall (.inr (.inr ⟨hkl, hx⟩))]
        · have e2 : decide ((k : Int) < ((min 255 (r'.length + 1) : Nat) : Int)) = false := by simp; omega
          simp only [go_sem, f0, f1, f2, f7, reduceIte, Nat.reduceEqDiff, e2]
          refine ⟨trivial, trivial, trivial, trivial, ?_⟩
          rw [runN_of a r' k h1 h2 h3 hall (by omega)]
    · rintro F h'' ⟨rfl, f0, f1, f2, f7⟩
      have hr := runN_le a r'
      simp only [go_sem]
      refine X_draw (ps [0,1,2,3,6] (.q 7 (.q 8 (.c 4 [7,8] (.c 5 [7,8] (ps [9,10] .nil)))))) (by kernel_rfl) ?_
      have K1 := newS_keep 1 [[AV.int .u8 ((runN a r' : Nat) : Int)]] h''
      have B1 := B.keep0 K1
      have hl0 : 0 < (a :: r').length := by simp
      have ew : IntKind.u8.wrap ((runN a r' : Nat) : Int) = ((runN a r' : Nat) : Int) := wu8 (by omega) (by omega)
      simp only [go_sem, f0, f1, f2, f7, reduceIte, Nat.reduceEqDiff, B.ix0 _ hl0, B.ld hl0, B1.ix0 _ hl0, B1.ld hl0, ew, List.contains_cons, Nat.reduceBEq, Bool.or_true, Bool.true_or, List.getElem_cons_zero]
      obtain ⟨v2, h2, e2, O2, K2, hv2⟩ := (O.keep0 K1).app (l' := [((runN a r' : Nat) : Int)]) (lim := 140737488355328 / (0 + 1)) (Nat.le_trans (Nat.le_trans hm' K.n) K1.n) (newS_elems 1 _ h'' 1 rfl) (by simp at hle ⊢; omega)
      have hd : ∀ b, inV w' b → ¬ inV v' b := fun b h1 h2 => by have := hw b h1; have := O.ge h2; omega
      have B2 := B1.keep K2 (fun b _ h => hd b h)
      have K2' : HK (m ≤ ·) h h2 := (K.no_trans K1).trans (K2.mono (fun b _ h => O.ge h))
      simp only [go_sem, f0, f1, f2, f7, reduceIte, Nat.reduceEqDiff, e2, B2.ix0 _ hl0, B2.ld hl0, List.contains_cons, Nat.reduceBEq, Bool.or_true, Bool.true_or, List.getElem_cons_zero, and_self, true_and, ifB_true]
      refine SC_mono (lay_u8 O2 (Nat.le_trans hm' K2'.n) (by simp at hle ⊢; omega) a) ?_
      rintro v3 h3 ⟨O3, K3⟩
      have B3 := B2.keep K3 (fun b _ h => by have := hw b h; omega)
      simp only [go_sem, f0, f1, f2, f7, reduceIte, Nat.reduceEqDiff, B3.slice_lo hr.1]
      refine ⟨_, ?_, K2'.trans K3, _, _, _, (a :: r').drop (runN a r'), rfl, rfl, rfl, by trivial, O3, ?_, fun b hb => hw b (inV_subv hb), ?_, ?_⟩
      · simp; omega
      · simpa using B3.sub hr.1 (Nat.le_refl _)
      · simp at hle ⊢; have := layu8_len a; omega
      · rw [← heq, runsL_cons]; simp
theorem lay_i64 {m : Nat} {h : AHeap} {v : AV} {l : List Int} (O : OwnB m h v l) (hm' : m ≤ h.n) (hl : l.length < 1099511627776) (n : Int) (hn : -9223372036854775808 ≤ n ∧ n ≤ 9223372036854775806) :
    SC P 26 [v, .int .i64 n] h (fun r h' => OwnB m h' r (l ++ layi64 n) ∧ HK (m ≤ ·) h h') := by
  refine SC_X hm Tryd.func26 rfl (by kernel_rfl) ?_
  simp only [go_sem, reduceIte, Nat.reduceEqDiff, w64 (show -9223372036854775808 ≤ n + 1 by omega) (by omega)]
  refine SC_mono (two_spec O hm' hl (n + 1)) ?_
  rintro r h' ⟨O', K, _⟩
  simp only [go_sem, reduceIte, Nat.reduceEqDiff, Tryd.f26]
  exact ⟨O', K.mono fun b _ h => O.ge h⟩
theorem runs_i64 {m : Nat} {h : AHeap} {v w : AV} {l : List Int} {r : List Int} (O : OwnB m h v l) (B : Sl1 (AV.int .i64) h w r) (hw : ∀ b, inV w b → b < m) (hm' : m ≤ h.n) (hl : l.length + 4 * r.length < 1099511627776) (hr : ∀ a ∈ r, -9223372036854775808 ≤ a ∧ a ≤ 9223372036854775806) :
    SC P 25 [v, w, .fn 26 []] h (fun x h' => OwnB m h' x (l ++ runsL layi64 r) ∧ HK (m ≤ ·) h h') := by
  refine SC_X hm Tryd.func25 rfl (by kernel_rfl) ?_
  simp only [go_sem, reduceIte, Nat.reduceEqDiff]
  refine X_loop (fun n F h' => HK (m ≤ ·) h h' ∧ ∃ v' l' w' r', n = r'.length ∧ F 0 = v' ∧ F 1 = w' ∧ F 2 = .fn 26 [] ∧ OwnB m h' v' l' ∧ Sl1 (AV.int .i64) h' w' r' ∧ (∀ b, inV w' b → b < m) ∧ l'.length + 4 * r'.length ≤ l.length + 4 * r.length ∧ l' ++ runsL layi64 r' = l ++ runsL layi64 r ∧ (∀ a ∈ r', -9223372036854775808 ≤ a ∧ a ≤ 9223372036854775806)) r.length ⟨.refl .., v, l, w, r, rfl, ?_, ?_, ?_, O, B, hw, by omega, rfl, hr⟩ ?_
  any_goals (simp only [go_sem, reduceIte, Nat.reduceEqDiff]; done)
  rintro n F h' ⟨K, v', l', w', r', rfl, f0, f1, f2, O, B, hw, hle, heq, hr0⟩
  simp only [go_sem, f0, f1, f2, reduceIte, Nat.reduceEqDiff, B.len]
  cases r' with
  | nil =>
    simp only [go_sem, f0, f1, f2, reduceIte, Nat.reduceEqDiff, Nat.reduceAdd, List.length_nil, Int.natCast_zero, Int.lt_irrefl, decide_false, Tryd.f25]
    rw [← heq]
    exact ⟨by simpa [runsL, runsF] using O, K⟩
  | cons a r' =>
    have e : decide ((0 : Int) < ((a :: r').length : Int)) = true := by simp
    simp only [go_sem, f0, f1, f2, reduceIte, Nat.reduceEqDiff, e]
    -- the inner loop
    refine X_cutB (fun F h'' => h'' = h' ∧ F 0 = v' ∧ F 1 = w' ∧ F 2 = .fn 26 [] ∧ F 7 = .int .i64 (runN a r' : Nat)) ?_ ?_
    · refine X_loop (fun n F h'' => h'' = h' ∧ F 0 = v' ∧ F 1 = w' ∧ F 2 = .fn 26 [] ∧ ∃ k : Nat, n = 256 - k ∧ 1 ≤ k ∧ k ≤ 255 ∧ k ≤ r'.length + 1 ∧ F 7 = .int .i64 k ∧ ∀ i (h : i < (a :: r').length), i < k → (a :: r')[i] = a) 255 ⟨rfl, ?_, ?_, ?_, 1, rfl, by omega, by omega, by omega, ?_, ?_⟩ ?_
      any_goals (simp only [go_sem, reduceIte, Nat.reduceEqDiff, f0, f1, f2]; done)
      · simp only [go_sem, reduceIte, Nat.reduceEqDiff]; rfl
      · intro i h1 h2
        have : i = 0 := by omega
        subst this; rfl
      · rintro n F h'' ⟨rfl, f0, f1, f2, k, rfl, h1, h2, h3, f7, hall⟩
        simp only [go_sem]
        refine X_draw (ps [0,1,2,3,4,5,6,7,8,9,10,11,12,13,14] .nil) (by kernel_rfl) ?_
        have e1 : (if (255 : Int) < ((a :: r').length : Int) then (255 : Int) else ((a :: r').length : Int)) = ((min 255 (r'.length + 1) : Nat) : Int) := by
          simp only [List.length_cons]; split <;> omega
        simp only [go_sem, f0, f1, f2, f7, reduceIte, Nat.reduceEqDiff, B.len, e1]
        by_cases hk : k < min 255 (r'.length + 1)
        · have e2 : decide ((k : Int) < ((min 255 (r'.length + 1) : Nat) : Int)) = true := by simp; omega
          have hkl : k < (a :: r').length := by simp; omega
          simp only [go_sem, f0, f1, f2, f7, reduceIte, Nat.reduceEqDiff, e2, B.ixn _ hkl, B.ld hkl, B.ix0 _ (by simp : 0 < (a :: r').length), B.ld (by simp : 0 < (a :: r').length), List.getElem_cons_zero]
          by_cases hx : (a :: r')[k] = a
          · simp only [go_sem, f0, f1, f2, f7, reduceIte, Nat.reduceEqDiff, hx, decide_true]
            refine ⟨_, (by omega : 256 - (k + 1) < _), trivial, trivial, trivial, trivial, k + 1, rfl, by omega, by omega, by omega, ?_, ?_⟩
            · rw [w64 (by omega) (by omega)]; rfl
            · intro i h4 h5
              by_cases e : i = k
              · subst e; exact hx
              · exact hall i h4 (by omega)
          · simp only [go_sem, f0, f1, f2, f7, reduceIte, Nat.reduceEqDiff, hx, decide_false]
            refine ⟨trivial, trivial, trivial, trivial, ?_⟩
            rw [runN_of a r' k h1 h2 h3 hall (.inr (.inr ⟨hkl, hx⟩))]
        · have e2 : decide ((k : Int) < ((min 255 (r'.length + 1) : Nat) : Int)) = false := by simp; omega
          simp only [go_sem, f0, f1, f2, f7, reduceIte, Nat.reduceEqDiff, e2]
          refine ⟨trivial, trivial, trivial, trivial, ?_⟩
          rw [runN_of a r' k h1 h2 h3 hall (by omega)]
    · rintro F h'' ⟨rfl, f0, f1, f2, f7⟩
      have hr := runN_le a r'
      simp only [go_sem]
      refine X_draw (ps [0,1,2,3,6] (.q 7 (.q 8 (.c 4 [7,8] (.c 5 [7,8] (ps [9,10] .nil)))))) (by kernel_rfl) ?_
      have K1 := newS_keep 1 [[AV.int .u8 ((runN a r' : Nat) : Int)]] h''
      have B1 := B.keep0 K1
      have hl0 : 0 < (a :: r').length := by simp
      have ew : IntKind.u8.wrap ((runN a r' : Nat) : Int) = ((runN a r' : Nat) : Int) := wu8 (by omega) (by omega)
      simp only [go_sem, f0, f1, f2, f7, reduceIte, Nat.reduceEqDiff, B.ix0 _ hl0, B.ld hl0, B1.ix0 _ hl0, B1.ld hl0, ew, List.contains_cons, Nat.reduceBEq, Bool.or_true, Bool.true_or, List.getElem_cons_zero]
      obtain ⟨v2, h2, e2, O2, K2, hv2⟩ := (O.keep0 K1).app (l' := [((runN a r' : Nat) : Int)]) (lim := 140737488355328 / (0 + 1)) (Nat.le_trans (Nat.le_trans hm' K.n) K1.n) (newS_elems 1 _ h'' 1 rfl) (by simp at hle ⊢; omega)
      have hd : ∀ b, inV w' b → ¬ inV v' b := fun b h1 h2 => by have := hw b h1; have := O.ge h2; omega
      have B2 := B1.keep K2 (fun b _ h => hd b h)
      have K2' : HK (m ≤ ·) h h2 := (K.no_trans K1).trans (K2.mono (fun b _ h => O.ge h))
      simp only [go_sem, f0, f1, f2, f7, reduceIte, Nat.reduceEqDiff, e2, B2.ix0 _ hl0, B2.ld hl0, List.contains_cons, Nat.reduceBEq, Bool.or_true, Bool.true_or, List.getElem_cons_zero, and_self, true_and, ifB_true]
      refine SC_mono (lay_i64 O2 (Nat.le_trans hm' K2'.n) (by simp at hle ⊢; omega) a (hr0 a (by simp))) ?_
      rintro v3 h3 ⟨O3, K3⟩
      have B3 := B2.keep K3 (fun b _ h => by have := hw b h; omega)
      simp only [go_sem, f0, f1, f2, f7, reduceIte, Nat.reduceEqDiff, B3.slice_lo hr.1]
      refine ⟨_, ?_, K2'.trans K3, _, _, _, (a :: r').drop (runN a r'), rfl, rfl, rfl, by trivial, O3, ?_, fun b hb => hw b (inV_subv hb), ?_, ?_, fun x hx => hr0 x (List.mem_of_mem_drop hx)⟩
      · simp; omega
      · simpa using B3.sub hr.1 (Nat.le_refl _)
      · simp at hle ⊢; have := layi64_len a; omega
      · rw [← heq, runsL_cons]; simp
end Go.Proofs.YtlobjaanabepgaaDoor
/- The greatest of a row; bytes that are alike. -/
namespace Go.Proofs.YtlobjaanabepgaaDoor
open Go Go.AM
set_option maxRecDepth 100000
set_option linter.unusedVariables false
set_option linter.unusedSimpArgs false
def mxF (a : Int) (l : List Int) : Int := l.foldl (fun a b => if a < b then b else a) a
theorem max_u8 {h : AHeap} {w : AV} {a : Int} {r : List Int} (B : Sl1 (AV.int .u8) h w (a :: r)) (hl : r.length < 1099511627776) :
    SC P 16 [w] h (fun x h' => h' = h ∧ x = .int .u8 (mxF a r)) := by
  refine SC_X hm Tryd.func16 rfl (by kernel_rfl) ?_
  have e0 : decide (((a :: r).length : Int) < 1) = false := by simp; omega
  simp only [go_sem, reduceIte, Nat.reduceEqDiff, B.len, e0, B.ix0 _ (by simp : 0 < (a :: r).length), B.ld (by simp : 0 < (a :: r).length), List.getElem_cons_zero]
  refine X_loop (fun n F h' => h' = h ∧ F 0 = w ∧ ∃ k : Nat, n = r.length - k ∧ k ≤ r.length ∧ F 4 = .int .i64 ((k + 1 : Nat) : Int) ∧ F 3 = .int .u8 (mxF a (r.take k))) r.length ⟨rfl, ?_, 0, rfl, by omega, ?_, ?_⟩ ?_
  any_goals (simp only [go_sem, reduceIte, Nat.reduceEqDiff]; done)
  any_goals (simp only [go_sem, reduceIte, Nat.reduceEqDiff]; rfl)
  rintro n F h' ⟨rfl, f0, k, rfl, hk, f4, f3⟩
  simp only [go_sem, f0, f3, f4, reduceIte, Nat.reduceEqDiff, B.len]
  by_cases hlt : k < r.length
  · have e : decide (((k + 1 : Nat) : Int) < ((a :: r).length : Int)) = true := by simp; omega
    have hj : k + 1 < (a :: r).length := by simp; omega
    have e2 : (if mxF a (r.take k) < r[k] then r[k] else mxF a (r.take k)) = mxF a (r.take (k + 1)) := by
      simp only [mxF]; rw [take_snoc' r k hlt, List.foldl_append]; rfl
    simp only [go_sem, f0, f3, f4, reduceIte, Nat.reduceEqDiff, e, B.ixn _ hj, B.ld hj, List.getElem_cons_succ, gt_iff_lt, e2]
    exact ⟨_, (by omega : r.length - (k + 1) < _), trivial, trivial, k + 1, rfl, by omega, by rw [w64 (by omega) (by omega)]; rfl, by trivial⟩
  · have e : decide (((k + 1 : Nat) : Int) < ((a :: r).length : Int)) = false := by simp; omega
    simp only [go_sem, f0, f3, f4, reduceIte, Nat.reduceEqDiff, Nat.reduceAdd, e, Tryd.f16]
    rw [List.take_of_length_le (by omega)]
    exact ⟨by trivial, by trivial⟩
theorem max_i64 {h : AHeap} {w : AV} {a : Int} {r : List Int} (B : Sl1 (AV.int .i64) h w (a :: r)) (hl : r.length < 1099511627776) :
    SC P 21 [w] h (fun x h' => h' = h ∧ x = .int .i64 (mxF a r)) := by
  refine SC_X hm Tryd.func21 rfl (by kernel_rfl) ?_
  have e0 : decide (((a :: r).length : Int) < 1) = false := by simp; omega
  simp only [go_sem, reduceIte, Nat.reduceEqDiff, B.len, e0, B.ix0 _ (by simp : 0 < (a :: r).length), B.ld (by simp : 0 < (a :: r).length), List.getElem_cons_zero]
  refine X_loop (fun n F h' => h' = h ∧ F 0 = w ∧ ∃ k : Nat, n = r.length - k ∧ k ≤ r.length ∧ F 4 = .int .i64 ((k + 1 : Nat) : Int) ∧ F 3 = .int .i64 (mxF a (r.take k))) r.length ⟨rfl, ?_, 0, rfl, by omega, ?_, ?_⟩ ?_
  any_goals (simp only [go_sem, reduceIte, Nat.reduceEqDiff]; done)
  any_goals (simp only [go_sem, reduceIte, Nat.reduceEqDiff]; rfl)
  rintro n F h' ⟨rfl, f0, k, rfl, hk, f4, f3⟩
  simp only [go_sem, f0, f3, f4, reduceIte, Nat.reduceEqDiff, B.len]
  by_cases hlt : k < r.length
  · have e : decide (((k + 1 : Nat) : Int) < ((a :: r).length : Int)) = true := by simp; omega
    have hj : k + 1 < (a :: r).length := by simp; omega
    have e2 : (if mxF a (r.take k) < r[k] then r[k] else mxF a (r.take k)) = mxF a (r.take (k + 1)) := by
      simp only [mxF]; rw [take_snoc' r k hlt, List.foldl_append]; rfl
    simp only [go_sem, f0, f3, f4, reduceIte, Nat.reduceEqDiff, e, B.ixn _ hj, B.ld hj, List.getElem_cons_succ, gt_iff_lt, e2]
    exact ⟨_, (by omega : r.length - (k + 1) < _), trivial, trivial, k + 1, rfl, by omega, by rw [w64 (by omega) (by omega)]; rfl, by trivial⟩
  · have e : decide (((k + 1 : Nat) : Int) < ((a :: r).length : Int)) = false := by simp; omega
    simp only [go_sem, f0, f3, f4, reduceIte, Nat.reduceEqDiff, Nat.reduceAdd, e, Tryd.f21]
    rw [List.take_of_length_le (by omega)]
    exact ⟨by trivial, by trivial⟩

theorem beq_spec {h : AHeap} {v w : AV} {l q : List Int} (A : Byt h v l) (B : Byt h w q) (hl : ∀ c ∈ l, 0 ≤ c ∧ c < 256) (hq : ∀ c ∈ q, 0 ≤ c ∧ c < 256) :
    SC P 18 [v, w] h (fun x h' => h' = h ∧ x = .bool (l == q)) := by
  refine SC_X hm Tryd.func18 rfl (by kernel_rfl) ?_
  simp only [go_sem, reduceIte, Nat.reduceEqDiff, byts_str A hl, byts_str B hq, Tryd.f18]
  exact ⟨by trivial, by trivial⟩
theorem hasPrefix_spec {h : AHeap} {v w : AV} {l q : List Int} (A : Byt h v l) (B : Byt h w q) (hl : ∀ c ∈ l, 0 ≤ c ∧ c < 256) (hq : ∀ c ∈ q, 0 ≤ c ∧ c < 256) :
    SC P 10 [v, w] h (fun x h' => h' = h ∧ x = .bool (decide (q.length ≤ l.length) && (l.take q.length == q))) := by
  refine SC_X hm Tryd.func10 rfl (by kernel_rfl) ?_
  simp only [go_sem, reduceIte, Nat.reduceEqDiff, A.len, B.len]
  by_cases e : q.length ≤ l.length
  · have e1 : decide ((q.length : Int) ≤ (l.length : Int)) = true := by simp; omega
    simp only [go_sem, reduceIte, Nat.reduceEqDiff, e1, B.len, A.slice_hi e]
    refine SC_mono (beq_spec (A.sub (Nat.zero_le _) e) B (fun c hc => hl c (List.mem_of_mem_take (List.mem_of_mem_drop hc))) hq) ?_
    rintro x h' ⟨rfl, rfl⟩
    simp only [go_sem, reduceIte, Nat.reduceEqDiff, e1, Tryd.f10]
    exact ⟨by trivial, by simp [e]⟩
  · have e1 : decide ((q.length : Int) ≤ (l.length : Int)) = false := by simp; omega
    simp only [go_sem, reduceIte, Nat.reduceEqDiff, e1, Tryd.f10]
    exact ⟨by trivial, by simp [e]⟩
end Go.Proofs.YtlobjaanabepgaaDoor
/- Numbers as text, with 36 digits. -/
namespace Go.Proofs.YtlobjaanabepgaaDoor
open Go Go.AM
set_option maxRecDepth 100000
set_option linter.unusedVariables false
set_option linter.unusedSimpArgs false
def dig (j : Nat) : Int := if j < 10 then 48 + j else 87 + j
def dg36 : Nat → Nat → List Int
  | 0, _ => []
  | f + 1, u => if u < 36 then [dig u] else dg36 f (u / 36) ++ [dig (u % 36)]
def fmt36 (n : Int) : List Int := if n < 0 then 45 :: dg36 16 n.natAbs else dg36 16 n.toNat
theorem dg36_more : ∀ (f u : Nat), u < 36 ^ f → 1 ≤ f → dg36 (f + 1) u = dg36 f u
  | f + 1, u, h, _ => by
    show (if u < 36 then [dig u] else dg36 (f + 1) (u / 36) ++ [dig (u % 36)]) = (if u < 36 then [dig u] else dg36 f (u / 36) ++ [dig (u % 36)])
    split
    · rfl
    · rename_i hu
      cases f with
      | zero => simp at h; omega
      | succ f => rw [dg36_more (f + 1) (u / 36) (Nat.div_lt_of_lt_mul (by rw [Nat.pow_succ] at h; omega)) (by omega)]
theorem dg36_step (u : Nat) (hu : u < 18446744073709551616) (h : ¬ u < 36) : dg36 16 u = dg36 16 (u / 36) ++ [dig (u % 36)] := by
  rw [← dg36_more 16 u (Nat.lt_of_lt_of_le hu (by decide)) (by omega)]
  show (if u < 36 then [dig u] else dg36 16 (u / 36) ++ [dig (u % 36)]) = _
  rw [if_neg h]
theorem dg36_len : ∀ (f u : Nat), (dg36 f u).length ≤ f
  | 0, _ => Nat.le_refl _
  | f + 1, u => by
    have := dg36_len f (u / 36)
    rw [dg36]; split
    · simp
    · simp; exact this
theorem fmt36_len (n : Int) : (fmt36 n).length ≤ 17 := by
  unfold fmt36
  split
  · have := dg36_len 16 n.natAbs; simp; omega
  · have := dg36_len 16 n.toNat; omega
theorem dig_all {s : List Int} (hs : s = [48, 49, 50, 51, 52, 53, 54, 55, 56, 57, 97, 98, 99, 100, 101, 102, 103, 104, 105, 106, 107, 108, 109, 110, 111, 112, 113, 114, 115, 116, 117, 118, 119, 120, 121, 122]) (kd : IntKind) {j : Nat} (h : j < 36) :
    fIndexStr (.str s) (.int kd (j : Int)) = some (.int .u8 (dig j)) := by
  subst hs
  simp only [fIndexStr]
  rw [if_pos (by omega)]
  have : ∀ j : Fin 36, ([48, 49, 50, 51, 52, 53, 54, 55, 56, 57, 97, 98, 99, 100, 101, 102, 103, 104, 105, 106, 107, 108, 109, 110, 111, 112, 113, 114, 115, 116, 117, 118, 119, 120, 121, 122] : List Int)[j.val]? = some (dig j) := by decide
  have h2 := this ⟨j, h⟩
  simp only [Int.toNat_natCast]
  simp only at h2
  rw [h2]; rfl
theorem pow2_36 {h : AHeap} : SC P 92 [.int .i64 36] h (fun x h' => h' = h ∧ x = .bool false) := by
  refine SC_X hm Tryd.func92 rfl (by kernel_rfl) ?_
  simp only [go_sem, reduceIte, Nat.reduceEqDiff, w64 (show (-9223372036854775808 : Int) ≤ 36 - 1 by omega) (by omega), show aBits .and .i64 36 (36 - 1) = 32 by decide, Tryd.f92]
  exact ⟨by trivial, by trivial⟩
theorem bits_spec {m : Nat} {h : AHeap} {v : AV} {l : List Int} (O : OwnB m h v l) (hm' : m ≤ h.n) (hl : l.length < 1099511627776) (u : Nat) (hu : u < 18446744073709551616) :
    SC P 80 [v, .int .u64 u, .int .i64 36, .bool false, .bool true] h (fun x h' => ∃ v', x = .tup [v', .str []] ∧ OwnB m h' v' (l ++ dg36 16 u) ∧ HK (m ≤ ·) h h') := by
  refine SC_X hm Tryd.func80 rfl (by kernel_rfl) ?_
  simp only [go_sem, reduceIte, Nat.reduceEqDiff, show decide ((36 : Int) < 2) = false by decide, show decide ((36 : Int) = 10) = false by decide, show decide ((36 : Int) < 36) = false by decide]
  have hvb : ∀ b, inV v b → b < h.n := fun b hb => O.sl.lt hb
  refine SC_mono pow2_36 ?_
  rintro x h1 ⟨rfl, rfl⟩
  have K0 := newS_keep 1 ((List.replicate 65 (0 : Int)).map fun a => [AV.int .u8 a]) h
  have A0 := Arr.new (AV.int .u8) h (List.replicate 65 (0 : Int))
  have O0 := O.keep0 K0
  generalize newS 1 ((List.replicate 65 (0 : Int)).map fun a => [AV.int .u8 a]) h = h1 at *
  have e36 : IntKind.u64.wrap 36 = 36 := by decide
  simp only [go_sem, reduceIte, Nat.reduceEqDiff, e36]
  refine X_cutB (fun F h' => HK no h h' ∧ F 0 = v ∧ F 3 = .bool false ∧ F 4 = .bool true ∧ F 11 = .str [] ∧ F 12 = .ptr h.n 0 0 0 ∧ ∃ (i w : Nat) (c : List Int), F 13 = .int .i64 i ∧ F 1 = .int .u64 w ∧ w < 36 ∧ 1 ≤ i ∧ i ≤ 65 ∧ c.length = 65 ∧ Arr (AV.int .u8) h' h.n c ∧ OwnB m h' v l ∧ dg36 16 u = dig w :: c.drop i) ?_ ?_
  · refine X_loop (fun n F h' => HK no h h' ∧ F 0 = v ∧ F 3 = .bool false ∧ F 4 = .bool true ∧ F 11 = .str [] ∧ F 12 = .ptr h.n 0 0 0 ∧ F 17 = .int .u64 36 ∧ ∃ (i w : Nat) (c : List Int), i = n ∧ F 13 = .int .i64 i ∧ F 1 = .int .u64 w ∧ w < 18446744073709551616 ∧ w < 2 ^ (i - 1) ∧ 1 ≤ i ∧ i ≤ 65 ∧ c.length = 65 ∧ Arr (AV.int .u8) h' h.n c ∧ OwnB m h' v l ∧ dg36 16 u = dg36 16 w ++ c.drop i) 65 ⟨K0, ?_, ?_, ?_, ?_, ?_, ?_, 65, u, _, rfl, ?_, ?_, hu, by simpa using hu, by omega, by omega, by simp, A0, O0, ?_⟩ ?_
    any_goals (simp only [go_sem, reduceIte, Nat.reduceEqDiff]; done)
    · simp only [go_sem, reduceIte, Nat.reduceEqDiff]; rfl
    · simp
    · rintro n F h' ⟨K, f0, f3, f4, f11, f12, f17, i, w, c, rfl, f13, f1, hw, hwp, hi, hi2, hc, A, O, heq⟩
      simp only [go_sem, f0, f3, f4, f11, f12, f17, f13, f1, reduceIte, Nat.reduceEqDiff]
      by_cases hlt : w < 36
      · have e : decide ((36 : Int) ≤ (w : Int)) = false := by simp; omega
        simp only [go_sem, f0, f3, f4, f11, f12, f17, f13, f1, reduceIte, Nat.reduceEqDiff, e]
        refine ⟨K, trivial, trivial, trivial, trivial, trivial, i, w, c, rfl, rfl, hlt, hi, hi2, hc, A, O, ?_⟩
        rw [heq]; simp [dg36, hlt]
      · have e : decide ((36 : Int) ≤ (w : Int)) = true := by simp; omega
        have hi3 : 6 ≤ i := by
          rcases Nat.lt_or_ge i 6 with h | h
          · have : 2 ^ (i - 1) ≤ 2 ^ 4 := Nat.pow_le_pow_right (by omega) (by omega)
            omega
          · exact h
        have e1 : IntKind.i64.wrap ((i : Int) - 1) = ((i - 1 : Nat) : Int) := by rw [w64 (by omega) (by omega)]; omega
        have e2 : IntKind.u64.wrap ((w : Int).tdiv 36) = ((w / 36 : Nat) : Int) := by rw [IntWalk.u64_quo _ _ ⟨by omega, by omega, by omega⟩]; omega
        have e3 : IntKind.u64.wrap (((w / 36 : Nat) : Int) * 36) = ((w / 36 * 36 : Nat) : Int) := by rw [wu64 (by omega) (by omega)]; omega
        have e4 : IntKind.u64.wrap ((w : Int) - ((w / 36 * 36 : Nat) : Int)) = ((w % 36 : Nat) : Int) := by rw [wu64 (by omega) (by omega)]; omega
        have hj : i - 1 < c.length := by omega
        obtain ⟨h2, es, A2, K2, hn2⟩ := A.st hj (x := .int .u8 (dig (w % 36))) _ rfl rfl
        simp only [go_sem, f0, f3, f4, f11, f12, f17, f13, f1, reduceIte, Nat.reduceEqDiff, e, e1, e2, e3, e4, dig_all rfl _ (Nat.mod_lt w (by omega : 36 > 0)), A.ixn hc.symm _ hj, es, show ¬ ((36 : Int) = 0) by omega, UInt8.reduceToNat, natlit]
        have hb : ∀ b, inV v b → ¬ b = h.n := fun b hb e => by have := hvb b hb; omega
        refine ⟨i - 1, by omega, K.trans' K2 (fun j hj e => by omega), trivial, trivial, trivial, trivial, trivial, trivial, i - 1, w / 36, c.set (i - 1) (dig (w % 36)), rfl, rfl, rfl, by omega, ?_, by omega, by omega, by simpa using hc, A2, O.keep K2 (fun b _ h => hb b h), ?_⟩
        · have : 2 ^ (i - 1) = 2 * 2 ^ (i - 1 - 1) := by rw [← Nat.pow_succ']; congr 1; omega
          omega
        · rw [heq, dg36_step w hw hlt, List.append_assoc]
          congr 1
          rw [drop_set_self _ _ _ hj, show i - 1 + 1 = i by omega]
          rfl
  · rintro F h' ⟨K, f0, f3, f4, f11, f12, i, w, c, f13, f1, hw, hi, hi2, hc, A, O, heq⟩
    have e1 : IntKind.i64.wrap ((i : Int) - 1) = ((i - 1 : Nat) : Int) := by rw [w64 (by omega) (by omega)]; omega
    have hj : i - 1 < c.length := by omega
    obtain ⟨h2, es, A2, K2, hn2⟩ := A.st hj (x := .int .u8 (dig w)) _ rfl rfl
    have hb : ∀ b, inV v b → ¬ b = h.n := fun b hb e => by have := hvb b hb; omega
    have O2 := O.keep K2 (fun b _ h => hb b h)
    have e5 := A2.slice_lo (n := 65) (by simp [hc]) (lo := i - 1) (by simp; omega) .i64
    obtain ⟨v3, h3, e6, O3, K3, _⟩ := O2.app (l' := (c.set (i - 1) (dig w)).drop (i - 1)) (lim := 140737488355328 / (0 + 1)) (Nat.le_trans hm' (K.trans' K2 (fun j hj e => by omega) : HK no h h2).n) (A2.sl (i - 1)).elems (by simp; omega)
    simp only [go_sem, f0, f3, f4, f11, f12, f13, f1, reduceIte, Nat.reduceEqDiff, e1, dig_all rfl _ hw, A.ixn hc.symm _ hj, es, e5, e6, UInt8.reduceToNat, natlit, Tryd.f80]
    refine ⟨v3, rfl, ?_, ((K.trans' K2 (fun j hj e => by omega) : HK no h h2).thn (K3.mono fun b _ h => O2.ge h))⟩
    rw [heq, ← show i - 1 + 1 = i by omega, ← drop_set_self _ _ _ hj]
    simpa using O3
theorem appendUint_spec {m : Nat} {h : AHeap} {v : AV} {l : List Int} (O : OwnB m h v l) (hm' : m ≤ h.n) (hl : l.length < 1099511627776) (u : Nat) (hu : u < 18446744073709551616) :
    SC P 66 [v, .int .u64 u, .int .i64 36] h (fun x h' => OwnB m h' x (l ++ dg36 16 u) ∧ HK (m ≤ ·) h h') := by
  refine SC_X hm Tryd.func66 rfl (by kernel_rfl) ?_
  simp only [go_sem, reduceIte, Nat.reduceEqDiff, show decide ((36 : Int) = 10) = false by decide]
  refine SC_mono (bits_spec O hm' hl u hu) ?_
  rintro x h' ⟨v', rfl, O', K⟩
  simp only [go_sem, reduceIte, Nat.reduceEqDiff, Tryd.f66]
  exact ⟨O', K⟩
theorem appendInt_in {m : Nat} {h : AHeap} {v : AV} {l : List Int} (O : OwnB m h v l) (hm' : m ≤ h.n) (hl : l.length < 1099511627775) (n : Int) (hn : -9223372036854775808 ≤ n ∧ n ≤ 9223372036854775807) :
    SC P 49 [v, .int .i64 n, .int .i64 36] h (fun x h' => OwnB m h' x (l ++ fmt36 n) ∧ HK (m ≤ ·) h h') := by
  refine SC_X hm Tryd.func49 rfl (by kernel_rfl) ?_
  by_cases hneg : n < 0
  · have e : decide (n < 0) = true := by simpa using hneg
    have e1 : IntKind.u64.wrap (0 - IntKind.u64.wrap n) = (n.natAbs : Int) := by rw [IntKind.wrap_u64, IntKind.wrap_u64]; omega
    have K1 := newS_keep 1 [[AV.int .u8 45]] h
    obtain ⟨v2, h2, e2, O2, K2, _⟩ := (O.keep0 K1).app (l' := [45]) (lim := 140737488355328 / (0 + 1)) (Nat.le_trans hm' K1.n) (newS_elems 1 _ h 1 rfl) (by simp; omega)
    simp only [go_sem, reduceIte, Nat.reduceEqDiff, e, e1, e2]
    have K3 : HK (m ≤ ·) h h2 := K1.thn (K2.mono fun b _ h => O.ge h)
    refine SC_mono (appendUint_spec O2 (Nat.le_trans hm' K3.n) (by simp; omega) n.natAbs (by omega)) ?_
    rintro x h' ⟨O', K⟩
    simp only [go_sem, reduceIte, Nat.reduceEqDiff, Tryd.f49]
    refine ⟨?_, K3.trans K⟩
    simpa [fmt36, hneg] using O'
  · have e : decide (n < 0) = false := by simpa using hneg
    have e1 : IntKind.u64.wrap n = (n.toNat : Int) := by rw [IntKind.wrap_u64]; omega
    simp only [go_sem, reduceIte, Nat.reduceEqDiff, e, e1]
    refine SC_mono (appendUint_spec O hm' (by omega) n.toNat (by omega)) ?_
    rintro x h' ⟨O', K⟩
    simp only [go_sem, reduceIte, Nat.reduceEqDiff, Tryd.f49]
    exact ⟨by simpa [fmt36, hneg] using O', K⟩
theorem appendInt_spec {m : Nat} {h : AHeap} {v : AV} {l : List Int} (O : OwnB m h v l) (hm' : m ≤ h.n) (hl : l.length < 1099511627775) (n : Int) (hn : -9223372036854775808 ≤ n ∧ n ≤ 9223372036854775807) :
    SC P 40 [v, .int .i64 n, .int .i64 36] h (fun x h' => OwnB m h' x (l ++ fmt36 n) ∧ HK (m ≤ ·) h h') := by
  refine SC_X hm Tryd.func40 rfl (by kernel_rfl) ?_
  simp only [go_sem, reduceIte, Nat.reduceEqDiff]
  refine SC_mono (appendInt_in O hm' hl n hn) ?_
  rintro x h' ⟨O', K⟩
  simp only [go_sem, reduceIte, Nat.reduceEqDiff, Tryd.f40]
  exact ⟨O', K⟩
end Go.Proofs.YtlobjaanabepgaaDoor
/- May a table be? -/
namespace Go.Proofs.YtlobjaanabepgaaDoor
open Go Go.AM
set_option maxRecDepth 100000
set_option linter.unusedVariables false
set_option linter.unusedSimpArgs false
def I64 (x : Int) : Prop := -9223372036854775808 ≤ x ∧ x ≤ 9223372036854775807
def U8 (x : Int) : Prop := 0 ≤ x ∧ x < 256
def IntsS (h : AHeap) (v : AV) (ll : List (List Int)) : Prop := ∃ vs : List AV, Sl1 id h v vs ∧ vs.length = ll.length ∧ ∀ j (h1 : j < vs.length) (h2 : j < ll.length), Ints h vs[j] ll[j]
theorem IntsS.keep0 {h h' : AHeap} {v : AV} {ll : List (List Int)} (H : IntsS h v ll) (K : HK no h h') : IntsS h' v ll := by
  obtain ⟨vs, h1, h2, h3⟩ := H
  exact ⟨vs, h1.keep0 K, h2, fun j a b => (h3 j a b).keep0 K⟩
structure Tb where
  cls : List Int
  next : List (List Int)
  tags : List Int
structure TabV (h : AHeap) (c n t : AV) (T : Tb) : Prop where
  c : Byt h c T.cls
  n : IntsS h n T.next
  t : Ints h t T.tags
  cr : ∀ x ∈ T.cls, U8 x
  nr : ∀ r ∈ T.next, ∀ x ∈ r, I64 x
  tr : ∀ x ∈ T.tags, I64 x
  cl : T.cls.length < 1099511627776
  nl : T.next.length < 1099511627776
  tl : T.tags.length < 1099511627776
  rl : ∀ r ∈ T.next, r.length < 1099511627776
theorem TabV.keep0 {h h' : AHeap} {c n t : AV} {T : Tb} (H : TabV h c n t T) (K : HK no h h') : TabV h' c n t T :=
  ⟨H.c.keep0 K, H.n.keep0 K, H.t.keep0 K, H.cr, H.nr, H.tr, H.cl, H.nl, H.tl, H.rl⟩
/-! ### A column, as text -/
def colB (next : List (List Int)) (c : Nat) : List Int := next.flatMap fun row => fmt36 (row.getD c 0) ++ [32]
theorem colB_len (next : List (List Int)) (c : Nat) : (colB next c).length ≤ 18 * next.length := by
  induction next with
  | nil => simp [colB]
  | cons r l ih => have := fmt36_len (r.getD c 0); simp only [colB, List.flatMap_cons, List.length_append, List.length_cons, List.length_nil] at *; omega
theorem dg36_u8 : ∀ (f u : Nat), ∀ c ∈ dg36 f u, U8 c
  | 0, _ => by simp [dg36]
  | f + 1, u => by
    rw [dg36]
    split
    · intro c hc
      simp only [List.mem_singleton] at hc
      subst hc
      unfold dig U8; split <;> omega
    · intro c hc
      rcases List.mem_append.1 hc with hc | hc
      · exact dg36_u8 f _ c hc
      · simp only [List.mem_singleton] at hc
        subst hc
        have := Nat.mod_lt u (by omega : 36 > 0)
        unfold dig U8; split <;> omega
theorem fmt36_u8 (n : Int) : ∀ c ∈ fmt36 n, U8 c := by
  unfold fmt36
  split
  · intro c hc
    rcases List.mem_cons.1 hc with rfl | hc
    · unfold U8; omega
    · exact dg36_u8 _ _ c hc
  · exact dg36_u8 _ _
theorem colB_u8 (next : List (List Int)) (k : Nat) : ∀ c ∈ colB next k, U8 c := by
  intro c hc
  obtain ⟨r, _, hc⟩ := List.mem_flatMap.1 hc
  rcases List.mem_append.1 hc with hc | hc
  · exact fmt36_u8 _ c hc
  · simp only [List.mem_singleton] at hc; subst hc; unfold U8; omega
theorem column_spec {h : AHeap} {v : AV} {ll : List (List Int)} (B : IntsS h v ll) (hl : ll.length < 4294967296) (hr : ∀ r ∈ ll, ∀ x ∈ r, I64 x) (c : Nat) (hc : ∀ r ∈ ll, c < r.length) :
    SC P 33 [v, .int .i64 c] h (fun x h' => HK no h h' ∧ x = .str (colB ll c)) := by
  obtain ⟨vs, B, hvs, BB⟩ := B
  refine SC_X hm Tryd.func33 rfl (by kernel_rfl) ?_
  simp only [go_sem, reduceIte, Nat.reduceEqDiff, B.len]
  refine X_loop (fun n F h' => HK no h h' ∧ F 1 = .int .i64 c ∧ F 8 = v ∧ F 9 = .int .i64 vs.length ∧ ∃ k b, k ≤ vs.length ∧ n = vs.length - k ∧ F 10 = .int .i64 (k : Nat) ∧ F 5 = b ∧ OwnB h.n h' b (colB (ll.take k) c)) vs.length ⟨.refl .., ?_, ?_, ?_, 0, .nils, by omega, rfl, ?_, ?_, ?_⟩ ?_
  any_goals (simp only [go_sem, reduceIte, Nat.reduceEqDiff]; done)
  · simp only [go_sem, reduceIte, Nat.reduceEqDiff]; rfl
  · exact Own1.nil ..
  rintro n F h' ⟨K, f1, f8, f9, k, b, hk, rfl, f10, f5, O⟩
  have B' := B.keep0 K
  simp only [go_sem, f1, f8, f9, f10, f5, reduceIte, Nat.reduceEqDiff]
  by_cases hlt : k < vs.length
  · have e : decide ((k : Int) < (vs.length : Int)) = true := by simp; omega
    have hk2 : k < ll.length := by omega
    have R := (BB k hlt hk2).keep0 K
    have hck := hc _ (List.getElem_mem hk2)
    have hcl := colB_len (ll.take k) c
    have hxr := hr _ (List.getElem_mem hk2) _ (List.getElem_mem hck)
    simp only [go_sem, f1, f8, f9, f10, f5, reduceIte, Nat.reduceEqDiff, e, B'.ixn _ hlt, B'.ld hlt, id_eq, R.ixn _ hck, R.ld hck]
    refine SC_mono (appendInt_spec O K.n (by simp at hcl ⊢; omega) _ hxr) ?_
    rintro b1 h1 ⟨O1, K1⟩
    have K1' : HK no h h1 := K.trn K1
    have K2 := newS_keep 1 [[AV.int .u8 32]] h1
    obtain ⟨b2, h2, e2, O2, K3, _⟩ := (O1.keep0 K2).app (l' := [32]) (lim := 140737488355328 / (0 + 1)) (Nat.le_trans K1'.n K2.n) (newS_elems 1 _ h1 1 rfl) (by have := fmt36_len (ll[k][c]); simp at hcl ⊢; omega)
    simp only [go_sem, f1, f8, f9, f10, f5, reduceIte, Nat.reduceEqDiff, e2]
    refine ⟨vs.length - (k + 1), by omega, ?_, trivial, trivial, trivial, k + 1, b2, by omega, rfl, ?_, rfl, ?_⟩
    · exact (K1'.trans K2).trv K3 (fun i h => O1.ge h)
    · rw [w64 (by omega) (by omega)]; rfl
    · have e3 : colB (ll.take (k + 1)) c = colB (ll.take k) c ++ fmt36 ll[k][c] ++ [32] := by
        rw [take_snoc' ll k hk2, colB, List.flatMap_append]
        simp [colB, hck]
      rw [e3]
      exact O2
  · have e : decide ((k : Int) < (vs.length : Int)) = false := by simp; omega
    simp only [go_sem, f1, f8, f9, f10, f5, reduceIte, Nat.reduceEqDiff, Nat.reduceAdd, e, byts_str O.sl (colB_u8 _ _), Tryd.f33]
    rw [List.take_of_length_le (by omega)]
    exact ⟨K, by trivial⟩
/-! ### Classes -/
def clsGo (n : Int) : List Int → Int
  | [] => n
  | k :: r => if n < k then 0 else clsGo (if k = n then n + 1 else n) r
def clsB (l : List Int) : Int := if l.length ≠ 256 then 0 else clsGo 0 l
theorem clsGo_le : ∀ (l : List Int) (n : Int), 0 ≤ n → 0 ≤ clsGo n l ∧ clsGo n l ≤ n + l.length
  | [], n, h => by simp [clsGo, h]
  | k :: r, n, h => by
    simp only [clsGo, List.length_cons]
    split
    · omega
    · split
      · have := clsGo_le r (n + 1) (by omega); omega
      · have := clsGo_le r n h; omega
theorem clsB_le (l : List Int) : 0 ≤ clsB l ∧ clsB l ≤ 256 := by
  unfold clsB
  split
  · omega
  · rename_i h
    have := clsGo_le l 0 (by omega)
    have h2 : l.length = 256 := by omega
    rw [h2] at this
    omega
theorem classes_spec {h : AHeap} {v : AV} {l : List Int} (B : Byt h v l) (hr : ∀ x ∈ l, U8 x) : SC P 30 [v] h (fun x h' => h' = h ∧ x = .int .i64 (clsB l)) := by
  refine SC_X hm Tryd.func30 rfl (by kernel_rfl) ?_
  simp only [go_sem, reduceIte, Nat.reduceEqDiff, B.len]
  by_cases h256 : l.length = 256
  · have e : decide (¬ (l.length : Int) = 256) = false := by simp; omega
    simp only [go_sem, reduceIte, Nat.reduceEqDiff, e, B.len, ne_eq]
    refine X_loop (fun n F h' => h' = h ∧ F 9 = v ∧ F 10 = .int .i64 l.length ∧ ∃ (k : Nat) (c : Int), k ≤ l.length ∧ n = l.length - k ∧ F 11 = .int .i64 (k : Nat) ∧ F 3 = .int .i64 c ∧ 0 ≤ c ∧ c ≤ k ∧ clsGo c (l.drop k) = clsB l) l.length ⟨rfl, ?_, ?_, 0, 0, by omega, rfl, ?_, ?_, by omega, by omega, ?_⟩ ?_
    any_goals (simp only [go_sem, reduceIte, Nat.reduceEqDiff]; done)
    · simp only [go_sem, reduceIte, Nat.reduceEqDiff]; rfl
    · simp [clsB, h256]
    rintro n F h' ⟨rfl, f9, f10, k, c, hk, rfl, f11, f3, hc0, hck, heq⟩
    simp only [go_sem, f9, f10, f11, f3, reduceIte, Nat.reduceEqDiff]
    by_cases hlt : k < l.length
    · have e : decide ((k : Int) < (l.length : Int)) = true := by simp; omega
      have hx := hr _ (List.getElem_mem hlt)
      have e2 : IntKind.i64.wrap l[k] = l[k] := w64 (by unfold U8 at hx; omega) (by unfold U8 at hx; omega)
      rw [List.drop_eq_getElem_cons hlt, clsGo] at heq
      simp only [go_sem, f9, f10, f11, f3, reduceIte, Nat.reduceEqDiff, e, B.ixn _ hlt, B.ld hlt, e2]
      by_cases hgt : c < l[k]
      · simp only [go_sem, f9, f10, f11, f3, reduceIte, Nat.reduceEqDiff, hgt, decide_true, Tryd.f30]
        rw [if_pos hgt] at heq
        rw [← heq]
        exact ⟨by trivial, by trivial⟩
      · rw [if_neg hgt] at heq
        by_cases he : l[k] = c
        · rw [if_pos he] at heq
          simp only [go_sem, f9, f10, f11, f3, reduceIte, Nat.reduceEqDiff, hgt, decide_false, he, decide_true, Int.lt_irrefl]
          exact ⟨_, (by omega : l.length - (k + 1) < _), trivial, trivial, trivial, k + 1, c + 1, by omega, rfl, by rw [w64 (by omega) (by omega)]; rfl, by rw [w64 (by omega) (by omega)], by omega, by omega, heq⟩
        · rw [if_neg he] at heq
          simp only [go_sem, f9, f10, f11, f3, reduceIte, Nat.reduceEqDiff, hgt, decide_false, he]
          exact ⟨_, (by omega : l.length - (k + 1) < _), trivial, trivial, trivial, k + 1, c, by omega, rfl, by rw [w64 (by omega) (by omega)]; rfl, by trivial, by omega, by omega, heq⟩
    · have e : decide ((k : Int) < (l.length : Int)) = false := by simp; omega
      simp only [go_sem, f9, f10, f11, f3, reduceIte, Nat.reduceEqDiff, Nat.reduceAdd, e, Tryd.f30]
      rw [List.drop_eq_nil_of_le (by omega), clsGo] at heq
      rw [← heq]
      exact ⟨by trivial, by trivial⟩
  · have e : decide (¬ (l.length : Int) = 256) = true := by simp; omega
    simp only [go_sem, reduceIte, Nat.reduceEqDiff, e, ne_eq, Tryd.f30]
    exact ⟨by trivial, by simp [clsB, h256]⟩
/-! ### What is odd -/
def oddB (k to : Int) : Bool := decide (to < -1) || decide (k ≤ to)
theorem odd_spec {h : AHeap} {b : Nat} {k : Int} (C : Cel h b [.int .i64 k]) (to : Int) : SC P 31 [.int .i64 to, .ptr b 0 0 0] h (fun x h' => h' = h ∧ x = .bool (oddB k to)) := by
  refine SC_X hm Tryd.func31 rfl (by kernel_rfl) ?_
  simp only [go_sem, reduceIte, Nat.reduceEqDiff]
  have e := C.ld1 (off := 0) rfl
  by_cases h1 : to < -1
  · simp only [go_sem, reduceIte, Nat.reduceEqDiff, h1, decide_true, Tryd.f31]
    exact ⟨by trivial, by simp [oddB, h1]⟩
  · simp only [go_sem, reduceIte, Nat.reduceEqDiff, Nat.reduceAdd, h1, decide_false, e, Tryd.f31]
    exact ⟨by trivial, by simp [oddB, h1]⟩
theorem indexFunc_spec {h : AHeap} {v : AV} {l : List Int} (B : Ints h v l) (hl : l.length < 1099511627776) {b : Nat} {k : Int} (C : Cel h b [.int .i64 k]) :
    SC P 39 [v, .fn 31 [.ptr b 0 0 0]] h (fun x h' => h' = h ∧ ∃ n, x = .int .i64 n ∧ decide (0 ≤ n) = l.any (oddB k)) := by
  refine SC_X hm Tryd.func39 rfl (by kernel_rfl) ?_
  simp only [go_sem, reduceIte, Nat.reduceEqDiff, B.len]
  refine X_loop (fun n F h' => h' = h ∧ F 0 = v ∧ F 1 = .fn 31 [.ptr b 0 0 0] ∧ F 7 = .int .i64 l.length ∧ ∃ (j : Nat), j ≤ l.length ∧ n = l.length - j ∧ F 8 = .int .i64 (j : Nat) ∧ (l.drop j).any (oddB k) = l.any (oddB k)) l.length ⟨rfl, ?_, ?_, ?_, 0, by omega, rfl, ?_, rfl⟩ ?_
  any_goals (simp only [go_sem, reduceIte, Nat.reduceEqDiff]; done)
  · simp only [go_sem, reduceIte, Nat.reduceEqDiff]; rfl
  rintro n F h' ⟨rfl, f0, f1, f7, j, hj, rfl, f8, heq⟩
  simp only [go_sem, f0, f1, f7, f8, reduceIte, Nat.reduceEqDiff]
  by_cases hlt : j < l.length
  · have e : decide ((j : Int) < (l.length : Int)) = true := by simp; omega
    simp only [go_sem, f0, f1, f7, f8, reduceIte, Nat.reduceEqDiff, e, B.ixn _ hlt, B.ld hlt]
    refine SC_mono (odd_spec C _) ?_
    rintro x h' ⟨rfl, rfl⟩
    rw [List.drop_eq_getElem_cons hlt, List.any_cons] at heq
    cases ho : oddB k l[j] with
    | true =>
      simp only [go_sem, f0, f1, f7, f8, reduceIte, Nat.reduceEqDiff, ho, Tryd.f39]
      exact ⟨by trivial, j, by trivial, by rw [← heq, ho]; simp⟩
    | false =>
      simp only [go_sem, f0, f1, f7, f8, reduceIte, Nat.reduceEqDiff, ho]
      rw [ho, Bool.false_or] at heq
      exact ⟨_, (by omega : l.length - (j + 1) < _), trivial, trivial, trivial, trivial, j + 1, by omega, rfl, by rw [w64 (by omega) (by omega)]; rfl, heq⟩
  · have e : decide ((j : Int) < (l.length : Int)) = false := by simp; omega
    simp only [go_sem, f0, f1, f7, f8, reduceIte, Nat.reduceEqDiff, Nat.reduceAdd, e, Tryd.f39]
    rw [List.drop_eq_nil_of_le (by omega)] at heq
    exact ⟨by trivial, -1, by trivial, by rw [← heq]; rfl⟩
theorem containsFunc_spec {h : AHeap} {v : AV} {l : List Int} (B : Ints h v l) (hl : l.length < 1099511627776) {b : Nat} {k : Int} (C : Cel h b [.int .i64 k]) :
    SC P 32 [v, .fn 31 [.ptr b 0 0 0]] h (fun x h' => h' = h ∧ x = .bool (l.any (oddB k))) := by
  refine SC_X hm Tryd.func32 rfl (by kernel_rfl) ?_
  simp only [go_sem, reduceIte, Nat.reduceEqDiff]
  refine SC_mono (indexFunc_spec B hl C) ?_
  rintro x h' ⟨rfl, n, rfl, e⟩
  simp only [go_sem, reduceIte, Nat.reduceEqDiff, e, Tryd.f32]
  exact ⟨by trivial, by trivial⟩
end Go.Proofs.YtlobjaanabepgaaDoor
/- May a table be: class.Sound. -/
namespace Go.Proofs.YtlobjaanabepgaaDoor
open Go Go.AM
set_option maxRecDepth 100000
set_option linter.unusedVariables false
set_option linter.unusedSimpArgs false
def rowBad (n k : Int) (row : List Int) (tag : Int) : Bool := decide (¬ (row.length : Int) = n) || (decide (tag < -1) || row.any (oddB k))
def rowsBad (n k : Int) (next : List (List Int)) (tags : List Int) : Bool := (next.zip tags).any fun p => rowBad n k p.1 p.2
def keysB (next : List (List Int)) (n : Nat) : List (List Int) := (List.range n).foldl (fun ks c => insK (colB next c) ks) []
theorem keysB_succ (next : List (List Int)) (n : Nat) : keysB next (n + 1) = insK (colB next n) (keysB next n) := by simp [keysB, List.range_succ]
theorem keysB_len (next : List (List Int)) (n : Nat) : (keysB next n).length ≤ n := by
  induction n with
  | zero => exact Nat.le_refl _
  | succ n ih => rw [keysB_succ]; unfold insK; split <;> (try simp) <;> omega
def headBad (T : Tb) : Bool := decide (clsB T.cls = 0) || decide ((T.tags.length : Int) = 0) || decide ((40000 : Int) < T.tags.length) || decide (¬ (T.next.length : Int) = T.tags.length)
def soundB (T : Tb) : Bool := !(headBad T) && !(rowsBad (clsB T.cls) T.tags.length T.next T.tags) && decide (((keysB T.next (clsB T.cls).toNat).length : Int) = clsB T.cls)
set_option maxHeartbeats 1000000 in
theorem sound_spec {h : AHeap} {c n t : AV} {T : Tb} (H : TabV h c n t T) : SC P 20 [.agg [c, n, t]] h (fun x h' => HK no h h' ∧ x = .bool (soundB T)) := by
  refine SC_X hm Tryd.func20 rfl (by kernel_rfl) ?_
  obtain ⟨vs, hN, hvs, hNN⟩ := H.n
  have cc := H.c.isCell
  have cn := hN.isCell
  have ct := H.t.isCell
  simp only [go_sem, reduceIte, Nat.reduceEqDiff, cc, cn, ct]
  have K1 : HK no h (newS 3 [[c, n, t]] h) := newS_keep ..
  have C1 : Cel (newS 3 [[c, n, t]] h) h.n [c, n, t] := Cel.newS h [c, n, t]
  generalize newS 3 [[c, n, t]] h = h1 at *
  have b1lt := C1.2
  refine X_cutS (fun F h' => HK no h h' ∧ F 1 = .ptr h.n 0 0 0 ∧ F 3 = .int .i64 (clsB T.cls) ∧ F 4 = .ptr h1.n 0 0 0 ∧ Cel h' h.n [c, n, t] ∧ Cel h' h1.n [.int .i64 T.tags.length]) ?_ ?_
  · refine X_draw (ps [0] (.q 1 (ps [3] (.q 4 (.q 5 (.fork (.c 2 [4,5] (.c 6 [1,4,5] (.c 7 [4,5] (ps [8] .nil)))) (.c 6 [1,4,5] (.c 2 [4,5] (.c 7 [4,5] (ps [8] .nil)))))))))) (by kernel_rfl) ?_
    have L0 := C1.ld1 (off := 0) rfl
    have L2 := C1.ld1 (off := 2) rfl
    have K2 : HK no h1 (newS 1 [[.int .i64 0]] h1) := newS_keep ..
    have C2 := C1.keep0 K2
    have D2 : Cel (newS 1 [[.int .i64 0]] h1) h1.n [.int .i64 0] := Cel.newS h1 [.int .i64 0]
    have M0 := C2.ld1 (off := 0) rfl
    have M2 := C2.ld1 (off := 2) rfl
    have T1 := H.t.keep0 K1
    have T2 := T1.keep0 K2
    have N2 := H.c.keep0 K1
    obtain ⟨h3, es, D3, K3, _⟩ := D2.st (off := 0) (n := 1) (x := .int .i64 T.tags.length) rfl rfl (by simp)
    have C3 := C2.keep K3 (fun e => by omega)
    have O0 := C3.ld1 (off := 0) rfl
    have O2 := C3.ld1 (off := 2) rfl
    have T3 := T2.keep K3 (fun b hb hv e => by have := T1.lt hv; omega)
    have KK : HK no h h3 := (K1.trans K2).trans' K3 (fun i hi e => by have := K1.n; omega)
    simp only [go_sem, reduceIte, Nat.reduceEqDiff, Nat.reduceAdd, L0, L2, T1.len]
    constructor
    · refine SC_mono (classes_spec N2 H.cr) ?_
      rintro x h' ⟨rfl, rfl⟩
      simp only [go_sem, reduceIte, Nat.reduceEqDiff, Nat.reduceAdd, L0, L2, T1.len, M0, M2, T2.len, es, List.contains_cons, List.contains_nil, Nat.reduceBEq, Bool.or_true, Bool.true_or, Bool.or_false, and_self, true_and, Bool.false_eq_true]
      exact ⟨KK, C3, D3⟩
    · refine ⟨?_, ?_⟩
      · simp only [go_sem, reduceIte, Nat.reduceEqDiff, Nat.reduceAdd, L0, L2, T1.len, M0, M2, T2.len, es, List.contains_cons, List.contains_nil, Nat.reduceBEq, Bool.or_true, Bool.true_or, Bool.or_false, and_self, true_and, Bool.false_eq_true]
      · refine SC_mono (classes_spec (N2.keep0 K2) H.cr) ?_
        rintro x h' ⟨rfl, rfl⟩
        simp only [go_sem, reduceIte, Nat.reduceEqDiff, Nat.reduceAdd, L0, L2, T1.len, M0, M2, T2.len, es, List.contains_cons, List.contains_nil, Nat.reduceBEq, Bool.or_true, Bool.true_or, Bool.or_false, and_self, true_and, Bool.false_eq_true]
        exact ⟨KK, C3, D3⟩
  · rintro F h' ⟨K, f1, f3, f4, C, D⟩
    have hb14 : h.n ≠ h1.n := by omega
    have L1 := C.ld1 (off := 1) rfl
    have L2 := C.ld1 (off := 2) rfl
    have M0 := D.ld1 (off := 0) rfl
    have B := hN.keep0 K
    have TT := H.t.keep0 K
    have hle := clsB_le T.cls
    by_cases t1 : clsB T.cls = 0
    · simp only [go_sem, f1, f3, f4, reduceIte, Nat.reduceEqDiff, Nat.reduceAdd, t1, decide_true, Tryd.f20]
      exact ⟨K, by simp [soundB, headBad, t1]⟩
    by_cases t2 : (T.tags.length : Int) = 0
    · simp only [go_sem, f1, f3, f4, reduceIte, Nat.reduceEqDiff, Nat.reduceAdd, t1, t2, M0, decide_true, decide_false, Tryd.f20]
      exact ⟨K, by simp [soundB, headBad, t2]⟩
    by_cases t3 : (40000 : Int) < T.tags.length
    · simp only [go_sem, f1, f3, f4, reduceIte, Nat.reduceEqDiff, Nat.reduceAdd, t1, t2, t3, M0, decide_true, decide_false, Tryd.f20]
      exact ⟨K, by simp [soundB, headBad, t3]⟩
    by_cases t4 : (vs.length : Int) = T.tags.length
    rotate_left
    · have t4' : ¬ (T.next.length : Int) = T.tags.length := by omega
      simp only [go_sem, f1, f3, f4, reduceIte, Nat.reduceEqDiff, Nat.reduceAdd, t1, t2, t3, t4, M0, L1, B.len, ne_eq, not_true_eq_false, not_false_eq_true, decide_true, decide_false, Tryd.f20]
      exact ⟨K, by simp [soundB, headBad, t4']⟩
    have hhead : headBad T = false := by
      have : (T.next.length : Int) = T.tags.length := by omega
      simp only [headBad, t1, t2, t3, this, not_true_eq_false, decide_false, Bool.or_false]
    simp only [go_sem, f1, f3, f4, reduceIte, Nat.reduceEqDiff, Nat.reduceAdd, t1, t2, t3, t4, M0, L1, B.len, ne_eq, not_true_eq_false, not_false_eq_true, decide_true, decide_false]
    refine X_cutB (fun F h'' => h'' = h' ∧ F 1 = .ptr h.n 0 0 0 ∧ F 3 = .int .i64 (clsB T.cls) ∧ rowsBad (clsB T.cls) T.tags.length T.next T.tags = false) ?_ ?_
    · refine X_loop (fun m F h'' => h'' = h' ∧ F 1 = .ptr h.n 0 0 0 ∧ F 3 = .int .i64 (clsB T.cls) ∧ F 5 = .fn 31 [.ptr h1.n 0 0 0] ∧ F 35 = n ∧ F 36 = .int .i64 T.tags.length ∧ ∃ k : Nat, k ≤ T.tags.length ∧ m = T.tags.length - k ∧ F 37 = .int .i64 (k : Nat) ∧ rowsBad (clsB T.cls) T.tags.length (T.next.drop k) (T.tags.drop k) = rowsBad (clsB T.cls) T.tags.length T.next T.tags) T.tags.length ⟨rfl, ?_, ?_, ?_, ?_, ?_, 0, by omega, rfl, ?_, rfl⟩ ?_
      any_goals (simp only [go_sem, f1, f3, f4, t4, reduceIte, Nat.reduceEqDiff]; done)
      · simp only [go_sem, reduceIte, Nat.reduceEqDiff]; rfl
      rintro m F h'' ⟨rfl, f1, f3, f5, f35, f36, k, hk, rfl, f37, heq⟩
      simp only [go_sem, f1, f3, f5, f35, f36, f37, reduceIte, Nat.reduceEqDiff]
      by_cases hlt : k < T.tags.length
      · have e : decide ((k : Int) < (T.tags.length : Int)) = true := by simp; omega
        have hkv : k < vs.length := by omega
        have hkn : k < T.next.length := by omega
        have R := (hNN k hkv hkn).keep0 K
        have hrl := H.rl _ (List.getElem_mem hkn)
        have hbad : rowsBad (clsB T.cls) T.tags.length (T.next.drop k) (T.tags.drop k) = (rowBad (clsB T.cls) T.tags.length T.next[k] T.tags[k] || rowsBad (clsB T.cls) T.tags.length (T.next.drop (k + 1)) (T.tags.drop (k + 1))) := by
          unfold rowsBad
          rw [List.drop_eq_getElem_cons hkn, List.drop_eq_getElem_cons hlt, List.zip_cons_cons, List.any_cons]
        simp only [go_sem, f1, f3, f5, f35, f36, f37, reduceIte, Nat.reduceEqDiff, Nat.reduceAdd, e, B.ixn _ hkv, B.ld hkv, id_eq, R.len]
        by_cases u1 : (T.next[k].length : Int) = clsB T.cls
        rotate_left
        · simp only [go_sem, f1, f3, f5, f35, f36, f37, reduceIte, Nat.reduceEqDiff, Nat.reduceAdd, u1, ne_eq, not_true_eq_false, not_false_eq_true, decide_true, decide_false, Tryd.f20]
          refine ⟨K, ?_⟩
          have : rowsBad (clsB T.cls) T.tags.length T.next T.tags = true := by rw [← heq, hbad]; simp [rowBad, u1]
          simp [soundB, this]
        by_cases u2 : T.tags[k] < -1
        · simp only [go_sem, f1, f3, f5, f35, f36, f37, reduceIte, Nat.reduceEqDiff, Nat.reduceAdd, u1, u2, L2, TT.ixn _ hlt, TT.ld hlt, ne_eq, not_true_eq_false, not_false_eq_true, decide_true, decide_false, Tryd.f20]
          refine ⟨K, ?_⟩
          have : rowsBad (clsB T.cls) T.tags.length T.next T.tags = true := by rw [← heq, hbad]; simp [rowBad, u2]
          simp [soundB, this]
        simp only [go_sem, f1, f3, f5, f35, f36, f37, reduceIte, Nat.reduceEqDiff, Nat.reduceAdd, u1, u2, L2, TT.ixn _ hlt, TT.ld hlt, ne_eq, not_true_eq_false, not_false_eq_true, decide_true, decide_false]
        refine SC_mono (containsFunc_spec R hrl D) ?_
        rintro x h2 ⟨rfl, rfl⟩
        cases u3 : T.next[k].any (oddB (T.tags.length : Int)) with
        | true =>
          simp only [go_sem, f1, f3, f5, f35, f36, f37, reduceIte, Nat.reduceEqDiff, Nat.reduceAdd, u3, Tryd.f20]
          refine ⟨K, ?_⟩
          have : rowsBad (clsB T.cls) T.tags.length T.next T.tags = true := by rw [← heq, hbad]; simp only [rowBad, u3, Bool.or_true, Bool.true_or]
          simp [soundB, this]
        | false =>
          simp only [go_sem, f1, f3, f5, f35, f36, f37, reduceIte, Nat.reduceEqDiff, Nat.reduceAdd, u3]
          refine ⟨_, (by omega : T.tags.length - (k + 1) < _), trivial, trivial, trivial, trivial, trivial, trivial, k + 1, by omega, rfl, by rw [w64 (by omega) (by omega)]; rfl, ?_⟩
          rw [← heq, hbad]
          have : rowBad (clsB T.cls) T.tags.length T.next[k] T.tags[k] = false := by
            unfold rowBad
            rw [u3]
            simp only [u1, u2]
            rfl
          rw [this, Bool.false_or]
      · have e : decide ((k : Int) < (T.tags.length : Int)) = false := by simp; omega
        simp only [go_sem, f1, f3, f5, f35, f36, f37, reduceIte, Nat.reduceEqDiff, Nat.reduceAdd, e]
        rw [List.drop_eq_nil_of_le (by omega : T.next.length ≤ k)] at heq
        exact ⟨trivial, trivial, trivial, by rw [← heq]; rfl⟩
    · rintro F h'' ⟨rfl, f1, f3, hrows⟩
      simp only [go_sem, f1, f3, reduceIte, Nat.reduceEqDiff]
      have K2 : HK no h'' (h''.push (.mp [])) := (HK.refl _ h'').push _
      have hwid : ∀ r ∈ T.next, (r.length : Int) = clsB T.cls := by
        intro r hr
        obtain ⟨j, hj, rfl⟩ := List.getElem_of_mem hr
        have hj2 : j < T.tags.length := by omega
        rcases Decidable.em ((T.next[j].length : Int) = clsB T.cls) with h | h
        · exact h
        · have : rowsBad (clsB T.cls) T.tags.length T.next T.tags = true := by
            unfold rowsBad
            rw [List.any_eq_true]
            refine ⟨(T.next[j], T.tags[j]), ?_, by simp [rowBad, h]⟩
            rw [List.mem_iff_getElem]
            exact ⟨j, by simp; omega, by simp⟩
          rw [hrows] at this; cases this
      refine X_loop (fun m F hh => HK no h hh ∧ F 1 = .ptr h.n 0 0 0 ∧ F 3 = .int .i64 (clsB T.cls) ∧ F 8 = .map h''.n ∧ F 61 = .int .i64 (clsB T.cls) ∧ Cel hh h.n [c, n, t] ∧ ∃ k : Nat, (k : Int) ≤ clsB T.cls ∧ m = (clsB T.cls).toNat - k ∧ F 62 = .int .i64 (k : Nat) ∧ MapK hh h''.n (keysB T.next k)) (clsB T.cls).toNat ⟨K.trans K2, ?_, ?_, ?_, ?_, C.keep0 K2, 0, by omega, by omega, ?_, MapK.new h''⟩ ?_
      any_goals (simp only [go_sem, f1, f3, reduceIte, Nat.reduceEqDiff]; done)
      · simp only [go_sem, reduceIte, Nat.reduceEqDiff]; rfl
      rintro m F hh ⟨K, f1, f3, f8, f61, C, k, hk, rfl, f62, M⟩
      simp only [go_sem, f1, f3, f8, f61, f62, reduceIte, Nat.reduceEqDiff]
      have L1 := C.ld1 (off := 1) rfl
      by_cases hlt : (k : Int) < clsB T.cls
      · simp only [go_sem, f1, f3, f8, f61, f62, reduceIte, Nat.reduceEqDiff, Nat.reduceAdd, hlt, decide_true, L1]
        refine SC_mono (column_spec (H.n.keep0 K) (by omega) H.nr k (fun r hr => by have := hwid r hr; omega)) ?_
        rintro x h3 ⟨K3, rfl⟩
        obtain ⟨h4, e4, M4, K4, _⟩ := (M.keep0 K3).upd (colB T.next k) (.int .i64 (k : Nat)) rfl
        have hmn : h.n < h''.n := C.2 |> fun _ => by have := D.2; omega
        simp only [go_sem, f1, f3, f8, f61, f62, reduceIte, Nat.reduceEqDiff, Nat.reduceAdd, e4]
        refine ⟨(clsB T.cls).toNat - (k + 1), by omega, (K.trans K3).trans' K4 (fun i hi e => by omega), trivial, trivial, trivial, trivial, (C.keep0 K3).keep K4 (fun e => by omega), k + 1, by omega, rfl, by rw [w64 (by omega) (by omega)]; rfl, ?_⟩
        rw [keysB_succ]
        exact M4
      · simp only [go_sem, f1, f3, f8, f61, f62, reduceIte, Nat.reduceEqDiff, Nat.reduceAdd, hlt, decide_false, M.len, Tryd.f20]
        refine ⟨K, ?_⟩
        have : k = (clsB T.cls).toNat := by omega
        subst this
        rw [soundB, hhead, hrows]
        simp
end Go.Proofs.YtlobjaanabepgaaDoor
/- A table as bytes: pack.Encode. -/
namespace Go.Proofs.YtlobjaanabepgaaDoor
open Go Go.AM
set_option maxRecDepth 100000
set_option linter.unusedVariables false
set_option linter.unusedSimpArgs false
theorem zip_take {α β : Type} : ∀ (n : Nat) (l : List α) (l' : List β), (l.zip l').take n = (l.take n).zip (l'.take n)
  | 0, _, _ => by simp
  | n + 1, [], _ => by simp
  | n + 1, a :: l, [] => by simp
  | n + 1, a :: l, b :: l' => by simp [zip_take n l l']
structure SoundF (T : Tb) : Prop where
  n0 : clsB T.cls ≠ 0
  k0 : T.tags.length ≠ 0
  k4 : T.tags.length ≤ 40000
  nk : T.next.length = T.tags.length
  row : ∀ i (h1 : i < T.next.length) (h2 : i < T.tags.length), (T.next[i].length : Int) = clsB T.cls ∧ -1 ≤ T.tags[i] ∧ ∀ x ∈ T.next[i], -1 ≤ x ∧ x < T.tags.length
  keys : ((keysB T.next (clsB T.cls).toNat).length : Int) = clsB T.cls
theorem sound_facts {T : Tb} (h : soundB T = true) : SoundF T := by
  unfold soundB at h
  simp only [Bool.and_eq_true, Bool.not_eq_true', decide_eq_true_eq] at h
  obtain ⟨⟨h1, h2⟩, h3⟩ := h
  unfold headBad at h1
  simp only [Bool.or_eq_false_iff, decide_eq_false_iff_not, Decidable.not_not] at h1
  obtain ⟨⟨⟨a, b⟩, c⟩, d⟩ := h1
  refine ⟨a, by omega, by omega, by omega, fun i g1 g2 => ?_, h3⟩
  unfold rowsBad at h2
  rw [List.any_eq_false] at h2
  have := h2 (T.next[i], T.tags[i]) (by rw [List.mem_iff_getElem]; exact ⟨i, by simp; omega, by simp⟩)
  simp only [rowBad, Bool.not_eq_true, Bool.or_eq_false_iff, decide_eq_false_iff_not, Decidable.not_not, List.any_eq_false, oddB] at this
  obtain ⟨h5, h6, h7⟩ := this
  refine ⟨h5, by omega, fun x hx => ?_⟩
  have := h7 x hx
  omega
theorem mxF_le : ∀ (l : List Int) (a : Int), a ≤ mxF a l ∧ ∀ x ∈ l, x ≤ mxF a l
  | [], a => ⟨Int.le_refl _, fun _ h => by cases h⟩
  | b :: l, a => by
    have h := mxF_le l (if a < b then b else a)
    have e : mxF a (b :: l) = mxF (if a < b then b else a) l := rfl
    rw [e]
    refine ⟨by have := h.1; split at this <;> (try split) <;> omega, fun x hx => ?_⟩
    rcases List.mem_cons.1 hx with rfl | hx
    · have := h.1; split at this <;> (try split) <;> omega
    · exact h.2 x hx
def mxT (T : Tb) : Int := match T.tags with
  | [] => 0
  | a :: r => mxF a r
def two (n : Int) : List Int := [n / 256 % 256, n % 256]
def rowsE (next : List (List Int)) (tags : List Int) : List Int := (next.zip tags).flatMap fun p => two (p.2 + 1) ++ runsL layi64 p.1
def bodyE (T : Tb) : List Int := [71, 67, 1] ++ two T.tags.length ++ runsL layu8 T.cls ++ rowsE T.next T.tags
def encB (T : Tb) : List Int := bodyE T ++ two (fnv (bodyE T) / 65536) ++ two (fnv (bodyE T) % 65536)
def encOk (T : Tb) : Bool := soundB T && !decide (65534 < mxT T)
theorem runsL_len (lay : Int → List Int) (m : Nat) (hm : ∀ x, (lay x).length = m) : ∀ (n : Nat) (l : List Int), l.length ≤ n → (runsL lay l).length ≤ (m + 1) * l.length
  | 0, l, h => by have : l = [] := List.eq_nil_of_length_eq_zero (by omega); subst this; exact Nat.zero_le _
  | n + 1, [], h => Nat.zero_le _
  | n + 1, a :: r, h => by
    have hr := runN_le a r
    rw [runsL_cons]
    have ih := runsL_len lay m hm n ((a :: r).drop (runN a r)) (by simp only [List.length_drop, List.length_cons] at h hr ⊢; omega)
    simp only [List.length_cons, List.length_append, hm, List.length_drop] at *
    have : (m + 1) * (r.length + 1 - runN a r) ≤ (m + 1) * r.length := Nat.mul_le_mul_left _ (by omega)
    have e : (m + 1) * (r.length + 1) = (m + 1) * r.length + (m + 1) := Nat.mul_succ ..
    omega
theorem rowsE_len {next : List (List Int)} {tags : List Int} (h : ∀ r ∈ next, r.length ≤ 256) : (rowsE next tags).length ≤ 770 * next.length := by
  induction next generalizing tags with
  | nil => simp [rowsE]
  | cons r l ih =>
    cases tags with
    | nil => simp [rowsE]
    | cons t ts =>
      have h1 := ih (tags := ts) (fun r hr => h r (by simp [hr]))
      have h2 := runsL_len layi64 2 layi64_len r.length r (Nat.le_refl _)
      have h3 := h r (by simp)
      simp only [rowsE, List.zip_cons_cons, List.flatMap_cons, List.length_append, List.length_cons, two, List.length_nil] at *
      omega
set_option maxHeartbeats 1000000 in
theorem encode_spec {h : AHeap} {c n t : AV} {T : Tb} (H : TabV h c n t T) :
    SC P 7 [.agg [c, n, t]] h (fun x h' => HK no h h' ∧ ∃ v, (encOk T = true ∧ x = .tup [v, .int .u16 0] ∧ OwnB h.n h' v (encB T)) ∨ (encOk T = false ∧ x = .tup [.nils, .int .u16 1])) := by
  refine SC_X hm Tryd.func7 rfl (by kernel_rfl) ?_
  obtain ⟨vs, hN, hvs, hNN⟩ := H.n
  have cc := H.c.isCell
  have cn := hN.isCell
  have ct := H.t.isCell
  simp only [go_sem, reduceIte, Nat.reduceEqDiff, cc, cn, ct]
  have K1 : HK no h (newS 3 [[c, n, t]] h) := newS_keep ..
  have C1 : Cel (newS 3 [[c, n, t]] h) h.n [c, n, t] := Cel.newS h [c, n, t]
  generalize newS 3 [[c, n, t]] h = h1 at *
  have LA := C1.ldA (off := 0) (n := 3) (by simp)
  have L2 := C1.ld1 (off := 2) rfl
  have H1 := H.keep0 K1
  simp only [go_sem, reduceIte, Nat.reduceEqDiff, LA, List.drop_zero, List.take_succ_cons, List.take_zero]
  refine SC_mono (sound_spec H1) ?_
  rintro x h2 ⟨K2, rfl⟩
  have C2 := C1.keep0 K2
  have H2 := H1.keep0 K2
  have L2 := C2.ld1 (off := 2) rfl
  cases hs : soundB T with
  | false =>
    simp only [go_sem, reduceIte, Nat.reduceEqDiff, hs, Bool.not_false, Tryd.f7]
    exact ⟨K1.trans K2, .nils, .inr ⟨by simp [encOk, hs], by trivial⟩⟩
  | true =>
    have Fs := sound_facts hs
    simp only [go_sem, reduceIte, Nat.reduceEqDiff, hs, Bool.not_true, L2]
    cases ht : T.tags with
    | nil => exact absurd (by rw [ht]; rfl) Fs.k0
    | cons a r =>
    have TT := H2.t
    rw [ht] at TT
    have k4 := Fs.k4
    refine SC_mono (max_i64 TT (by rw [ht] at k4; simp at k4; omega)) ?_
    rintro x h3 ⟨rfl, rfl⟩
    have hmx : mxT T = mxF a r := by simp [mxT, ht]
    by_cases hgt : 65534 < mxF a r
    · simp only [go_sem, reduceIte, Nat.reduceEqDiff, hgt, decide_true, Tryd.f7]
      exact ⟨K1.trans K2, .nils, .inr ⟨by simp [encOk, hs, hmx, hgt], by trivial⟩⟩
    have hok : encOk T = true := by simp only [encOk, hs, hmx, hgt, decide_false, Bool.not_false, Bool.and_self]
    rw [← ht] at TT
    have htag : ∀ x ∈ T.tags, -9223372036854775808 ≤ x ∧ x ≤ 65534 := by
      intro x hx
      have h1 := H.tr x hx
      have h2 := mxF_le r a
      rw [ht] at hx
      rcases List.mem_cons.1 hx with rfl | hx
      · exact ⟨h1.1, by have := h2.1; omega⟩
      · exact ⟨h1.1, by have := h2.2 x hx; omega⟩
    simp only [go_sem, reduceIte, Nat.reduceEqDiff, hgt, decide_false]
    clear hmx hgt
    refine X_draw (ps [1] (.q 2 (.q 3 (.c 0 [2,3] (ps [4,5] .nil))))) (by kernel_rfl) ?_
    simp only [go_sem, reduceIte, Nat.reduceEqDiff, L2, TT.len]
    refine SC_mono magic_spec ?_
    rintro x h4 ⟨O4, K4⟩
    have M2 := (C2.keep0 K4).ld1 (off := 2) rfl
    simp only [go_sem, reduceIte, Nat.reduceEqDiff, M2, TT.len, (TT.keep0 K4).len, List.contains_cons, List.contains_nil, Nat.reduceBEq, Bool.or_true, Bool.true_or, Bool.or_false, and_self, true_and, Bool.false_eq_true]
    refine SC_mono (two_spec O4 K4.n (by simp) _) ?_
    rintro v5 h5 ⟨O5, K5, _⟩
    have K5' : HK no h h5 := ((K1.trans K2).trans K4).trv K5 (fun i hi => by have := O4.ge hi; have := (K1.trans K2).n; omega)
    have hn3 := C2.2
    have hk3 := (K1.trans K2).n
    have nk := Fs.nk
    have C5 : Cel h5 h.n [c, n, t] := (C2.keep0 K4).keep K5 (fun hi => by have := O4.ge hi; have := C2.2; omega)
    have L0 := C5.ld1 (off := 0) rfl
    simp only [go_sem, reduceIte, Nat.reduceEqDiff, L0]
    have hc256 : T.cls.length = 256 := by
      have := Fs.n0
      unfold clsB at this
      split at this
      · exact absurd rfl this
      · omega
    have hrow : ∀ r ∈ T.next, r.length ≤ 256 := by
      intro r hr
      obtain ⟨i, hi, rfl⟩ := List.getElem_of_mem hr
      have := (Fs.row i hi (by have := Fs.nk; omega)).1
      have := clsB_le T.cls
      omega
    refine SC_mono (runs_u8 O5 (H.c.keep0 K5') (fun b hb => by have := H.c.lt hb; omega) (Nat.le_trans K4.n K5.n) (by simp [hc256])) ?_
    rintro v6 h6 ⟨O6, K6⟩
    have K6' : HK no h h6 := K5'.trans' K6 (fun i hi e => by omega)
    have C6 : Cel h6 h.n [c, n, t] := C5.keep K6 (fun e => by omega)
    have hn6 : h3.n ≤ h6.n := Nat.le_trans (Nat.le_trans K4.n K5.n) K6.n
    have L1 := C6.ld1 (off := 1) rfl
    have B6 := hN.keep0 K6'
    simp only [go_sem, reduceIte, Nat.reduceEqDiff, Nat.reduceAdd, L1, B6.len]
    generalize hpre : [71, 67, 1] ++ [(T.tags.length : Int) / 256 % 256, (T.tags.length : Int) % 256] ++ runsL layu8 T.cls = pre at *
    have hprel : pre.length ≤ 517 := by
      rw [← hpre]
      have := runsL_len layu8 1 layu8_len _ T.cls (Nat.le_refl _)
      simp at this ⊢
      omega
    let g : List Int × Int → List Int := fun p => two (p.2 + 1) ++ runsL layi64 p.1
    have hzl : (T.next.zip T.tags).length = T.tags.length := by simp; have := Fs.nk; omega
    refine X_cutB (fun F hh => HK no h hh ∧ ∃ v, F 4 = v ∧ OwnB h3.n hh v (bodyE T) ∧ h3.n ≤ hh.n) ?_ ?_
    · refine X_loop (fun m F hh => HK no h hh ∧ F 1 = .ptr h.n 0 0 0 ∧ F 27 = n ∧ F 28 = .int .i64 vs.length ∧ Cel hh h.n [c, n, t] ∧ ∃ (k : Nat) (v : AV), k ≤ vs.length ∧ m = vs.length - k ∧ F 29 = .int .i64 (k : Nat) ∧ F 4 = v ∧ OwnB h3.n hh v (pre ++ ((T.next.zip T.tags).take k).flatMap g) ∧ h3.n ≤ hh.n) vs.length ⟨K6', ?_, ?_, ?_, C6, 0, v6, by omega, rfl, ?_, ?_, by simpa using O6, hn6⟩ ?_
      any_goals (simp only [go_sem, reduceIte, Nat.reduceEqDiff]; done)
      · simp only [go_sem, reduceIte, Nat.reduceEqDiff]; rfl
      rintro m F hh ⟨K, f1, f27, f28, C, k, v, hk, rfl, f29, f4, O, hn⟩
      have B := hN.keep0 K
      have TT := H.t.keep0 K
      have L2 := C.ld1 (off := 2) rfl
      simp only [go_sem, f1, f27, f28, f29, f4, reduceIte, Nat.reduceEqDiff, Nat.reduceAdd]
      by_cases hlt : k < vs.length
      · have e : decide ((k : Int) < (vs.length : Int)) = true := by simp; omega
        have hkn : k < T.next.length := by omega
        have hkt : k < T.tags.length := by have := Fs.nk; omega
        have hz : k < (T.next.zip T.tags).length := by omega
        have htk := htag _ (List.getElem_mem hkt)
        have hrk := Fs.row k hkn hkt
        have hlen : (((T.next.zip T.tags).take k).flatMap g).length ≤ 770 * k := by
          have h1 := rowsE_len (next := T.next.take k) (tags := T.tags.take k) (fun r hr => hrow r (List.mem_of_mem_take hr))
          unfold rowsE at h1
          rw [← zip_take] at h1
          simp only [List.length_take] at h1
          have : min k T.next.length = k := by omega
          rw [this] at h1
          exact h1
        simp only [go_sem, f1, f27, f28, f29, f4, reduceIte, Nat.reduceEqDiff, Nat.reduceAdd, e, B.ixn _ hlt, B.ld hlt, id_eq, L2, TT.ixn _ hkt, TT.ld hkt, w64 (show -9223372036854775808 ≤ T.tags[k] + 1 by omega) (by omega)]
        refine SC_mono (two_spec O hn (by rw [List.length_append]; omega) _) ?_
        rintro v1 h1 ⟨O1, K1, _⟩
        have K1' : HK no h h1 := K.trv K1 (fun i hi => by have := O.ge hi; omega)
        have R := (hNN k hlt hkn).keep0 K1'
        simp only [go_sem, f1, f27, f28, f29, f4, reduceIte, Nat.reduceEqDiff, Nat.reduceAdd]
        refine SC_mono (runs_i64 O1 R (fun b hb => by have := (hNN k hlt hkn).lt hb; omega) (Nat.le_trans hn K1.n) (by have := hrow _ (List.getElem_mem hkn); simp only [List.length_append, List.length_cons, List.length_nil]; omega) (fun a ha => by have := hrk.2.2 a ha; omega)) ?_
        rintro v2 h2 ⟨O2, K2⟩
        simp only [go_sem, f1, f27, f28, f29, f4, reduceIte, Nat.reduceEqDiff, Nat.reduceAdd]
        refine ⟨vs.length - (k + 1), by omega, K1'.trans' K2 (fun i hi e => by omega), trivial, trivial, trivial, (C.keep K1 (fun hi => by have := O.ge hi; omega)).keep K2 (fun e => by omega), k + 1, v2, by omega, rfl, by rw [w64 (by omega) (by omega)]; rfl, rfl, ?_, Nat.le_trans (Nat.le_trans hn K1.n) K2.n⟩
        · rw [take_snoc' _ k hz, List.flatMap_append]
          have : (T.next.zip T.tags)[k] = (T.next[k], T.tags[k]) := by simp
          rw [this]
          simpa [g, two] using O2
      · have e : decide ((k : Int) < (vs.length : Int)) = false := by simp; omega
        simp only [go_sem, f1, f27, f28, f29, f4, reduceIte, Nat.reduceEqDiff, Nat.reduceAdd, e]
        refine ⟨K, v, rfl, ?_, hn⟩
        rw [List.take_of_length_le (by omega), ← hpre] at O
        exact O
    · rintro F hh ⟨K, v, f4, O, hn⟩
      have hbl : (bodyE T).length < 1099511627000 := by
        have h1 := rowsE_len (next := T.next) (tags := T.tags) hrow
        have h2 := runsL_len layu8 1 layu8_len _ T.cls (Nat.le_refl _)
        have := Fs.nk
        simp only [bodyE, two, List.length_append, List.length_cons, List.length_nil]
        omega
      simp only [go_sem, f4, reduceIte, Nat.reduceEqDiff, Nat.reduceAdd]
      refine SC_mono (sum_spec O.sl (by omega)) ?_
      rintro x h1 ⟨rfl, rfl⟩
      have hf := fnv_range (bodyE T)
      simp only [go_sem, f4, reduceIte, Nat.reduceEqDiff, Nat.reduceAdd, shr16_32, and_ffff_u32 _ hf.1 hf.2, w64 (show -9223372036854775808 ≤ fnv (bodyE T) / 65536 by omega) (by omega), w64 (show -9223372036854775808 ≤ fnv (bodyE T) % 65536 by omega) (by omega)]
      refine SC_mono (two_spec O hn (by omega) _) ?_
      rintro v2 h2 ⟨O2, K2, _⟩
      have K2' : HK no h h2 := K.trv K2 (fun i hi => by have := O.ge hi; omega)
      simp only [go_sem, f4, reduceIte, Nat.reduceEqDiff, Nat.reduceAdd, shr16_32, and_ffff_u32 _ hf.1 hf.2, w64 (show -9223372036854775808 ≤ fnv (bodyE T) / 65536 by omega) (by omega), w64 (show -9223372036854775808 ≤ fnv (bodyE T) % 65536 by omega) (by omega)]
      refine SC_mono (two_spec O2 (Nat.le_trans hn K2.n) (by simp; omega) _) ?_
      rintro v3 h3 ⟨O3, K3, _⟩
      simp only [go_sem, f4, reduceIte, Nat.reduceEqDiff, Nat.reduceAdd, Tryd.f7]
      exact ⟨K2'.trv K3 (fun i hi => by have := O2.ge hi; omega), v3, .inl ⟨hok, by trivial, Own1.weak O3 hk3⟩⟩
end Go.Proofs.YtlobjaanabepgaaDoor
