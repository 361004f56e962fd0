/- The abstract machine over frames that are functions: what a proof steps through. -/
import Derived.Test.YtlobjaanabepgaaDoorMachC
import Derived.IntWalk
import Derived.Laws.BitsAllLaws
namespace Go.AM
open Go Go.RowKit
set_option linter.unusedVariables false
set_option linter.unusedSimpArgs false

abbrev FF := Nat → AV
def upd (F : FF) (d : Nat) (v : AV) : FF := fun t => if t = d then v else F t
def updO (F : FF) : Option Tmp → AV → FF
  | some d, v => upd F d v
  | none, _ => F
def evG (F : FF) : Operand → AV
  | .tmp t => F t
  | .const v => ofValue v
  | .global _ => .unk
  | .func g => .fn g []
def calleeG (F : FF) : Op → Option (FuncId × List AV)
  | .call c => match c.callee with
    | .value x => match evG F x with
      | .fn g caps => some (g, c.args.toList.map (evG F) ++ caps)
      | _ => none
    | _ => none
  | _ => none
/-- One operation. -/
def S (P : Program) (op : Op) (F : FF) (h : AHeap) (k : AV → AHeap → Prop) : Prop :=
  match isCallV op with
  | true => match calleeG F op with
    | some p => SC P p.1 p.2 h k
    | none => False
  | false => bind2 (aopE P (evG F) h op) k
def gsel (v : AV) (want : Bool) (yes no : Prop) : Prop :=
  match v with
  | .bool b => ifB b (if want = true then yes else no) (if want = true then no else yes)
  | .tup [] => no
  | _ => False
def wantG (ops : Array Oper) (F : FF) (o : Oper) (yes no : Prop) : Prop :=
  match o.guard with
  | none => yes
  | some (j, want) => match (ops[j]?).bind (·.dst) with
    | some d => gsel (F d) want yes no
    | none => no
abbrev KF := FF → AHeap → Prop
abbrev KX := Ex → FF → AHeap → Prop
def RG (P : Program) (ops : Array Oper) : List Oper → FF → AHeap → KF → Prop
  | [], F, h, k => k F h
  | o :: rest, F, h, k => wantG ops F o (S P o.op F h fun v h' => RG P ops rest (updO F o.dst v) h' k) (RG P ops rest (updO F o.dst (.tup [])) h k)
/-- The order that a region runs in. p: an operation; q: one whose value is looked at again; c: one behind which values are looked at again. -/
inductive Sch where
  | nil
  | p (i : Nat) (r : Sch)
  | q (i : Nat) (r : Sch)
  | c (i : Nat) (chk : List Nat) (r : Sch)
  | fork (a b : Sch)
def lagsS (P : Program) (chk : List Nat) (F : FF) (h : AHeap) : Pend → Prop
  | [] => True
  | (j, op, v) :: r => (if chk.contains j = true then aopE P (evG F) h op = some (v, h) else True) ∧ lagsS P chk F h r
def XS (P : Program) (ops : Array Oper) : Sch → Pend → FF → AHeap → KF → Prop
  | .nil, _, F, h, k => k F h
  | .p i r, pend, F, h, k => match ops[i]? with
    | some o => wantG ops F o (S P o.op F h fun v h' => XS P ops r pend (updO F o.dst v) h' k) (XS P ops r pend (updO F o.dst (.tup [])) h k)
    | none => False
  | .q i r, pend, F, h, k => match ops[i]? with
    | some o => wantG ops F o (S P o.op F h fun v h' => XS P ops r ((i, o.op, v) :: pend) (updO F o.dst v) h' k) (XS P ops r pend (updO F o.dst (.tup [])) h k)
    | none => False
  | .c i chk r, pend, F, h, k => match ops[i]? with
    | some o => wantG ops F o (S P o.op F h fun v h' => lagsS P chk F h' pend ∧ XS P ops r pend (updO F o.dst v) h' k) (XS P ops r pend (updO F o.dst (.tup [])) h k)
    | none => False
  | .fork a b, pend, F, h, k => XS P ops a pend F h k ∧ XS P ops b pend F h k
/-- Is it such an order? ex: what was looked at so far, and is it kept. -/
def forks (i : Nat) (r : Sch) (ok : Sch → Bool) : List Nat → Sch → Bool
  | [], _ => false
  | [_], s => ok s
  | _, _ => false
def chkOk (b : Array Nat) (i : Nat) (chk : List Nat) (ex : List (Nat × Bool)) : Bool := ex.all fun e => ordB b e.1 i || (e.2 && chk.contains e.1)
mutual
def okS (P : Program) (ops : Array Oper) (b : Array Nat) : Nat → Nat → Nat → List (Nat × Bool) → Sch → Bool
  | 0, _, _, _, _ => false
  | _ + 1, 0, _, _, _ => false
  | n + 1, d + 1, C, ex, s => match soft P ops C with
    | some i => (match ops[i]? with
      | some o => (match s with
        | .p j r => i == j && !(solidOp P o.op) && !(isCallV o.op) && okS P ops b n d (C ||| 2 ^ i) (match steadyOp o.op with | true => ex | false => (i, false) :: ex) r
        | .q j r => i == j && !(solidOp P o.op) && !(isCallV o.op) && okS P ops b n d (C ||| 2 ^ i) (match steadyOp o.op with | true => ex | false => (i, true) :: ex) r
        | _ => false)
      | none => false)
    | none => (match hards ops C, s with
      | [], .nil => true
      | [], _ => false
      | l, s => okF P ops b n d C ex l s)
def okF (P : Program) (ops : Array Oper) (b : Array Nat) : Nat → Nat → Nat → List (Nat × Bool) → List Nat → Sch → Bool
  | 0, _, _, _, _, _ => false
  | n + 1, d, C, ex, l, s => match l with
    | [] => false
    | [i] => (match s with
      | .p j r => i == j && chkOk b i [] ex && okS P ops b n d (C ||| 2 ^ i) ex r
      | .c j chk r => i == j && chkOk b i chk ex && okS P ops b n d (C ||| 2 ^ i) ex r
      | _ => false)
    | i :: l => (match s with
      | .fork x y => okF P ops b n d C ex [i] x && okF P ops b n d C ex l y
      | _ => false)
end
/-- Code. -/
def LW (step : FF → AHeap → KX → Prop) (F : FF) (h : AHeap) (k : KX) : Prop :=
  ∀ I : FF → AHeap → Prop, (∀ F h, step F h (fun e F' h' => match e with
    | .normal => I F' h'
    | e => k e F' h') → I F h) → I F h
def cndX (v : AV) (A B : Prop) : Prop := match v with
  | .bool t => ifB t A B
  | _ => False
def X (P : Program) : Code → FF → AHeap → KX → Prop
  | .skip, F, h, k | .label _, F, h, k => k .normal F h
  | .region _ ops draw, F, h, k => match draw with
    | false => RG P ops ops.toList F h (k .normal)
    | true => ∃ s, (drawOk P ops (Region.before ops) && okS P ops (Region.before ops) (4 * ops.size + 8) (ops.size + 1) 0 [] s) = true ∧ XS P ops s [] F h (k .normal)
  | .seq a b, F, h, k => X P a F h fun e F h => match e with
    | .normal => X P b F h k
    | e => k e F h
  | .cond c a b, F, h, k => cndX (evG F c) (X P a F h k) (X P b F h k)
  | .block id a, F, h, k => X P a F h fun e F h => match e with
    | .exit id' => if id' = id then k .normal F h else k (.exit id') F h
    | e => k e F h
  | .loop a, F, h, k => LW (fun F h k => X P a F h k) F h k
  | .scope a, F, h, k => X P a F h k
  | .exit id, F, h, k => k (.exit id) F h
  | .ret, F, h, k => k .ret F h
  | _, _, _, _ => False
/-- Are all places that are written within the frame? -/
def dstOk (n : Nat) (ops : Array Oper) : Bool := ops.toList.all fun o => match o.dst with
  | some d => decide (d < n)
  | none => true
def okC (n : Nat) : Code → Bool
  | .skip | .label _ | .exit _ | .ret => true
  | .region _ ops _ => dstOk n ops
  | .seq a b | .cond _ a b => okC n a && okC n b
  | .block _ a | .loop a | .scope a => okC n a
  | _ => false

/-! ### Soundness -/
structure Ag (n : Nat) (f : Fr) (F : FF) : Prop where
  len : f.length = n
  at_ : ∀ t, f.getD t (.tup []) = F t
theorem Ag.eval {n : Nat} {f : Fr} {F : FF} (A : Ag n f F) : evalO f = evG F := by
  funext x
  cases x <;> simp only [evalO, evG, A.at_]
theorem Ag.put {n : Nat} {f : Fr} {F : FF} (A : Ag n f F) {d : Option Tmp} (hd : ∀ t, d = some t → t < n) (v : AV) : Ag n (putO f d v) (updO F d v) := by
  cases d with
  | none => exact A
  | some d =>
    have hd := hd d rfl
    refine ⟨by simp [putO, A.len], fun t => ?_⟩
    have := A.at_ t
    simp only [putO, updO, upd]
    by_cases e : t = d
    · subst e
      simp [List.getD_eq_getElem?_getD, List.getElem?_set, A.len, hd]
    · rw [if_neg e, ← this]
      simp only [List.getD_eq_getElem?_getD, List.getElem?_set]
      rw [if_neg (fun h => e h.symm)]
theorem Ag.set {n : Nat} {f : Fr} {F : FF} (A : Ag n f F) {d : Nat} {v : AV} (h : F d = v) (hv : v ≠ .tup []) : Ag n (f.set d v) F := by
  have hd : d < n := by
    have h1 := A.at_ d
    rw [h] at h1
    rw [← A.len]
    refine Nat.lt_of_not_le fun hc => hv ?_
    rw [← h1, List.getD_eq_getElem?_getD, List.getElem?_eq_none hc]
    rfl
  have A2 := A.put (d := some d) (fun t e => by cases e; exact hd) v
  refine ⟨A2.len, fun t => ?_⟩
  rw [show f.set d v = putO f (some d) v from rfl, A2.at_]
  simp only [updO, upd]
  split
  · rename_i e; rw [e, h]
  · rfl
section
variable {P : Program} {n : Nat}
theorem S_sound {op : Op} {F : FF} {h : AHeap} {k : AV → AHeap → Prop} (H : S P op F h k) {f : Fr} (A : Ag n f F) : aop P (SC P) f h op k := by
  unfold S at H
  unfold aop
  have e1 : calleeF f op = calleeG F op := by
    cases op <;> try rfl
    simp only [calleeF, calleeG, A.eval]
    rfl
  rw [e1, show aopF P f h op = aopE P (evG F) h op by unfold aopF; rw [A.eval]]
  exact H
theorem S_soft {op : Op} {F : FF} {h : AHeap} {k : AV → AHeap → Prop} (H : S P op F h k) (hs : isCallV op = false) {f : Fr} (A : Ag n f F) : bind2 (aopF P f h op) k := by
  unfold S at H
  rw [hs] at H
  rw [show aopF P f h op = aopE P (evG F) h op by unfold aopF; rw [A.eval]]
  exact H
theorem bind2_mono' {o : Option (AV × AHeap)} {k k' : AV → AHeap → Prop} (H : bind2 o k) (hk : ∀ v h, o = some (v, h) → k v h → k' v h) : bind2 o k' := by
  cases o with
  | none => exact H
  | some p => exact hk _ _ rfl H
theorem wantG_sound {ops : Array Oper} {F : FF} {o : Oper} {yes no : Prop} (H : wantG ops F o yes no) {f : Fr} (A : Ag n f F) {Y N : Fr → Prop} (hy : ∀ f, Ag n f F → yes → Y f) (hn : ∀ f, Ag n f F → no → N f) : wantedA ops f o Y N := by
  unfold wantG at H
  unfold wantedA
  split
  · rename_i e; rw [e] at H; exact hy f A H
  · rename_i j want e
    rw [e] at H
    simp only at H
    split
    · rename_i d hd
      rw [hd] at H
      simp only at H
      rw [A.at_]
      unfold gsel at H
      split
      · rename_i b hb
        rw [hb] at H
        simp only at H
        cases b <;> cases want <;> simp only [ifB] at H ⊢ <;> simp at H ⊢ <;> first | exact hy _ (A.set hb (by intro h; cases h)) H | exact hn _ (A.set hb (by intro h; cases h)) H
      · rename_i hb; rw [hb] at H; exact hn f A H
      · rename_i h1 h2
        split at H
        · rename_i b hb; exact (h1 b hb).elim
        · rename_i hb; exact (h2 hb).elim
        · exact H
    · rename_i hd; rw [hd] at H; exact hn f A H
theorem RG_sound {ops : Array Oper} {k : KF} : ∀ (l : List Oper) (hl : ∀ o ∈ l, ∀ t, o.dst = some t → t < n) (F : FF) (h : AHeap), RG P ops l F h k → ∀ f, Ag n f F → execOps P (SC P) ops l f h fun f h => ∃ F, Ag n f F ∧ k F h
  | [], hl, F, h, H, f, A => ⟨F, A, H⟩
  | o :: r, hl, F, h, H, f, A => by
    unfold RG at H
    unfold execOps
    have hr := fun o ho => hl o (List.mem_cons_of_mem _ ho)
    have hd := hl o (List.mem_cons_self ..)
    refine wantG_sound H A (fun f A H => ?_) (fun f A H => RG_sound r hr _ _ H _ (A.put hd _))
    exact aop_mono (SC_callMono P) (fun v h' H => RG_sound r hr _ _ H _ (A.put hd _)) (S_sound H A)
/-- What is known of the values that were looked at. -/
structure PI (P : Program) (b : Array Nat) (full : Pend) (ex : List (Nat × Bool)) (red : Pend) : Prop where
  all : ∀ e ∈ full, ∃ fl, (e.1, fl) ∈ ex ∧ (fl = true → e ∈ red)
theorem lags_ok {b : Array Nat} {ex : List (Nat × Bool)} {red : Pend} {i : Nat} {chk : List Nat} (hc : chkOk b i chk ex = true) {F : FF} {h : AHeap} (H : lagsS P chk F h red) {f : Fr} (A : Ag n f F) : ∀ (full : Pend), PI P b full ex red → lagsOk P b i f h full
  | [], _ => trivial
  | (j, op, v) :: r, I => by
    have ih := lags_ok hc H A r ⟨fun e he => I.all e (List.mem_cons_of_mem _ he)⟩
    unfold lagsOk
    split
    · exact ih
    · rename_i ho
      refine ⟨?_, ih⟩
      obtain ⟨fl, h1, h2⟩ := I.all (j, op, v) (List.mem_cons_self ..)
      have h3 := List.all_eq_true.1 hc _ h1
      simp only [Bool.or_eq_true, Bool.and_eq_true] at h3
      rcases h3 with h3 | ⟨h3, h4⟩
      · exact (ho h3).elim
      · have h5 := h2 h3
        have : ∀ (red : Pend), lagsS P chk F h red → (j, op, v) ∈ red → aopE P (evG F) h op = some (v, h) := by
          intro red
          induction red with
          | nil => intro _ hm; cases hm
          | cons e r ih =>
            intro H hm
            obtain ⟨j', op', v'⟩ := e
            unfold lagsS at H
            rcases List.mem_cons.1 hm with hm | hm
            · cases hm
              rw [if_pos h4] at H
              exact H.1
            · exact ih H.2 hm
        rw [show aopF P f h op = aopE P (evG F) h op by unfold aopF; rw [A.eval]]
        exact this red H h5
theorem lags_nil {F : FF} {h : AHeap} : ∀ (red : Pend), lagsS P [] F h red
  | [] => trivial
  | (j, op, v) :: r => by
    unfold lagsS
    exact ⟨by simp, lags_nil r⟩
theorem allP_of {p : Nat → Prop} : ∀ {l : List Nat}, (∀ i ∈ l, p i) → allP l p
  | [], _ => trivial
  | [x], H => H x (by simp)
  | x :: y :: r, H => ⟨H x (by simp), allP_of fun i hi => H i (List.mem_cons_of_mem _ hi)⟩
theorem opsAt {ops : Array Oper} (hl : dstOk n ops = true) {i : Nat} {o : Oper} (ho : ops[i]? = some o) : ∀ t, o.dst = some t → t < n := by
  intro t ht
  have h1 : o ∈ ops.toList := by
    rw [Array.mem_toList_iff]
    exact Array.mem_of_getElem? ho
  have h2 := List.all_eq_true.1 hl o h1
  rw [ht] at h2
  simpa using h2
def hardP (P : Program) (ops : Array Oper) (b : Array Nat) (m C : Nat) (full : Pend) (f : Fr) (h : AHeap) (k : Fr → AHeap → Prop) (i : Nat) : Prop := match ops[i]? with
  | some o => wantedA ops f o
      (fun f => aop P (SC P) f h o.op fun v h' => lagsOk P b i f h' full ∧ execD P (SC P) ops b m (C ||| 2 ^ i) full (putO f o.dst v) h' k)
      (fun f => execD P (SC P) ops b m (C ||| 2 ^ i) full (putO f o.dst (.tup [])) h k)
  | none => False
theorem PI.nil {b : Array Nat} {ex : List (Nat × Bool)} {red : Pend} : PI P b [] ex red := ⟨fun e h => by cases h⟩
theorem PI.more {b : Array Nat} {full : Pend} {ex : List (Nat × Bool)} {red : Pend} (I : PI P b full ex red) (e : Nat × Bool) : PI P b full (e :: ex) red :=
  ⟨fun x hx => by obtain ⟨fl, h1, h2⟩ := I.all x hx; exact ⟨fl, List.mem_cons_of_mem _ h1, h2⟩⟩
theorem PI.keep {b : Array Nat} {full : Pend} {ex : List (Nat × Bool)} {red : Pend} (I : PI P b full ex red) (e : Nat × Op × AV) : PI P b full ex (e :: red) :=
  ⟨fun x hx => by obtain ⟨fl, h1, h2⟩ := I.all x hx; exact ⟨fl, h1, fun h => List.mem_cons_of_mem _ (h2 h)⟩⟩
mutual
theorem okS_sound {ops : Array Oper} (hl : dstOk n ops = true) {b : Array Nat} {k : KF} : ∀ (m d C : Nat) (ex : List (Nat × Bool)) (s : Sch) (full red : Pend) (F : FF) (h : AHeap), okS P ops b m d C ex s = true → XS P ops s red F h k → PI P b full ex red → ∀ f, Ag n f F →
    execD P (SC P) ops b d C full f h fun f h => ∃ F, Ag n f F ∧ k F h
  | 0, d, C, ex, s, full, red, F, h, hs, H, I, f, A => by unfold okS at hs; cases hs
  | m + 1, 0, C, ex, s, full, red, F, h, hs, H, I, f, A => by unfold okS at hs; cases hs
  | m + 1, d + 1, C, ex, s, full, red, F, h, hs, H, I, f, A => by
    unfold okS at hs
    unfold execD
    split
    · rename_i i hi
      rw [hi] at hs
      simp only at hs
      split
      · rename_i o ho
        rw [ho] at hs
        simp only at hs
        have hd := opsAt hl ho
        cases s with
        | p j r =>
          simp only [Bool.and_eq_true, beq_iff_eq, Bool.not_eq_true'] at hs
          obtain ⟨⟨⟨e, h1⟩, h2⟩, h3⟩ := hs
          subst e
          unfold XS at H
          rw [ho] at H
          simp only at H
          refine wantG_sound H A (fun f A H => ?_) (fun f A H => ?_)
          · refine bind2_mono' (S_soft H h2 A) (fun v h' e H2 => ?_)
            have eh := soft_heap h1 e
            subst eh
            refine okS_sound hl m d _ _ r _ red _ _ h3 H2 ?_ _ (A.put hd _)
            cases hst : steadyOp o.op <;> simp only
            rotate_left
            · exact I
            · refine ⟨fun x hx => ?_⟩
              rcases List.mem_cons.1 hx with rfl | hx
              · exact ⟨false, List.mem_cons_self .., fun h => by cases h⟩
              · exact (I.more _).all x hx
          · refine okS_sound hl m d _ _ r _ red _ _ h3 H ?_ _ (A.put hd _)
            split
            · exact I
            · exact I.more _
        | q j r =>
          simp only [Bool.and_eq_true, beq_iff_eq, Bool.not_eq_true'] at hs
          obtain ⟨⟨⟨e, h1⟩, h2⟩, h3⟩ := hs
          subst e
          unfold XS at H
          rw [ho] at H
          simp only at H
          refine wantG_sound H A (fun f A H => ?_) (fun f A H => ?_)
          · refine bind2_mono' (S_soft H h2 A) (fun v h' e H2 => ?_)
            have eh := soft_heap h1 e
            subst eh
            refine okS_sound hl m d _ _ r _ _ _ _ h3 H2 ?_ _ (A.put hd _)
            cases hst : steadyOp o.op <;> simp only
            rotate_left
            · exact I.keep _
            · refine ⟨fun x hx => ?_⟩
              rcases List.mem_cons.1 hx with rfl | hx
              · exact ⟨true, List.mem_cons_self .., fun _ => List.mem_cons_self ..⟩
              · exact ((I.more _).keep _).all x hx
          · refine okS_sound hl m d _ _ r _ red _ _ h3 H ?_ _ (A.put hd _)
            split
            · exact I
            · exact I.more _
        | _ => cases hs
      · rename_i ho; rw [ho] at hs; cases hs
    · rename_i hi
      rw [hi] at hs
      simp only at hs
      split
      · rename_i he
        rw [he] at hs
        cases s with
        | nil => unfold XS at H; exact ⟨F, A, H⟩
        | _ => cases hs
      · rename_i l he hne
        have hs2 : okF P ops b m d C ex (hards ops C) s = true := by
          split at hs
          · rename_i e; exact (hne e).elim
          · cases hs
          · exact hs
        exact allP_of (okF_sound hl m d C ex _ s full red F h hs2 H I f A)
theorem okF_sound {ops : Array Oper} (hl : dstOk n ops = true) {b : Array Nat} {k : KF} : ∀ (m d C : Nat) (ex : List (Nat × Bool)) (l : List Nat) (s : Sch) (full red : Pend) (F : FF) (h : AHeap), okF P ops b m d C ex l s = true → XS P ops s red F h k → PI P b full ex red → ∀ f, Ag n f F →
    ∀ i ∈ l, hardP P ops b d C full f h (fun f h => ∃ F, Ag n f F ∧ k F h) i
  | 0, d, C, ex, l, s, full, red, F, h, hs, H, I, f, A => by unfold okF at hs; cases hs
  | m + 1, d, C, ex, [], s, full, red, F, h, hs, H, I, f, A => by intro i hi; cases hi
  | m + 1, d, C, ex, [i0], s, full, red, F, h, hs, H, I, f, A => by
    intro i hi
    simp only [List.mem_singleton] at hi
    subst hi
    unfold okF at hs
    simp only at hs
    cases s with
    | p j r =>
      simp only [Bool.and_eq_true, beq_iff_eq] at hs
      obtain ⟨⟨e, h1⟩, h2⟩ := hs
      subst e
      unfold XS at H
      unfold hardP
      split
      · rename_i o ho
        rw [ho] at H
        simp only at H
        have hd := opsAt hl ho
        refine wantG_sound H A (fun f A H => ?_) (fun f A H => okS_sound hl m d _ _ r _ red _ _ h2 H I _ (A.put hd _))
        exact aop_mono (SC_callMono P) (fun v h' H => ⟨lags_ok h1 (lags_nil red) A _ I, okS_sound hl m d _ _ r _ red _ _ h2 H I _ (A.put hd _)⟩) (S_sound H A)
      · rename_i ho; rw [ho] at H; exact H
    | c j chk r =>
      simp only [Bool.and_eq_true, beq_iff_eq] at hs
      obtain ⟨⟨e, h1⟩, h2⟩ := hs
      subst e
      unfold XS at H
      unfold hardP
      split
      · rename_i o ho
        rw [ho] at H
        simp only at H
        have hd := opsAt hl ho
        refine wantG_sound H A (fun f A H => ?_) (fun f A H => okS_sound hl m d _ _ r _ red _ _ h2 H I _ (A.put hd _))
        exact aop_mono (SC_callMono P) (fun v h' H => ⟨lags_ok h1 H.1 A _ I, okS_sound hl m d _ _ r _ red _ _ h2 H.2 I _ (A.put hd _)⟩) (S_sound H A)
      · rename_i ho; rw [ho] at H; exact H
    | _ => cases hs
  | m + 1, d, C, ex, i0 :: i1 :: l, s, full, red, F, h, hs, H, I, f, A => by
    intro i hi
    unfold okF at hs
    simp only at hs
    cases s with
    | fork x y =>
      simp only [Bool.and_eq_true] at hs
      unfold XS at H
      rcases List.mem_cons.1 hi with e | e
      · exact okF_sound hl m d C ex [i0] x full red F h hs.1 H.1 I f A i (by simp [e])
      · exact okF_sound hl m d C ex (i1 :: l) y full red F h hs.2 H.2 I f A i e
    | _ => cases hs
end
end
end Go.AM
/- Code and calls over frames that are functions; the equations that a proof steps by. -/
namespace Go.AM
open Go Go.RowKit
set_option linter.unusedVariables false
set_option linter.unusedSimpArgs false

def kx (n : Nat) (K : KX) : AK := fun e f h => ∃ F, Ag n f F ∧ K e F h
theorem X_sound {P : Program} {n : Nat} : ∀ (c : Code) (hc : okC n c = true) (F : FF) (h : AHeap) (K : KX), X P c F h K → ∀ f, Ag n f F → exec P (SC P) noHints c f h (kx n K)
  | .skip, hc, F, h, K, H, f, A => ⟨F, A, H⟩
  | .label _, hc, F, h, K, H, f, A => ⟨F, A, H⟩
  | .exit _, hc, F, h, K, H, f, A => ⟨F, A, H⟩
  | .ret, hc, F, h, K, H, f, A => ⟨F, A, H⟩
  | .region _ ops false, hc, F, h, K, H, f, A => by
    unfold X at H
    unfold exec
    exact RG_sound ops.toList (fun o ho t ht => by
      have h2 := List.all_eq_true.1 hc o ho
      rw [ht] at h2
      simpa using h2) F h H f A
  | .region _ ops true, hc, F, h, K, H, f, A => by
    unfold X at H
    unfold exec
    obtain ⟨s, hs, H⟩ := H
    rw [Bool.and_eq_true] at hs
    exact ⟨hs.1, okS_sound hc _ _ _ _ _ _ _ _ _ hs.2 H PI.nil f A⟩
  | .seq a b, hc, F, h, K, H, f, A => by
    unfold X at H
    unfold exec
    unfold okC at hc
    rw [Bool.and_eq_true] at hc
    refine exec_mono (SC_callMono P) a f h _ _ (fun e f h H => ?_) (X_sound a hc.1 F h _ H f A)
    obtain ⟨F, A, H⟩ := H
    cases e with
    | normal =>
      simp only [clr_none]
      exact X_sound b hc.2 F h K H f A
    | exit id => exact ⟨F, A, H⟩
    | ret => exact ⟨F, A, H⟩
  | .cond c a b, hc, F, h, K, H, f, A => by
    unfold X at H
    unfold exec
    unfold okC at hc
    rw [Bool.and_eq_true] at hc
    rw [A.eval]
    unfold cndX at H
    split at H
    · rename_i t ht
      rw [ht]
      simp only
      cases c with
      | tmp d =>
        simp only
        cases t with
        | true => exact X_sound a hc.1 F h K H _ (A.set ht (by intro h; cases h))
        | false => exact X_sound b hc.2 F h K H _ (A.set ht (by intro h; cases h))
      | _ =>
        simp only
        cases t with
        | true => exact X_sound a hc.1 F h K H _ A
        | false => exact X_sound b hc.2 F h K H _ A
    · exact H.elim
  | .block id a, hc, F, h, K, H, f, A => by
    unfold X at H
    unfold exec
    unfold okC at hc
    refine exec_mono (SC_callMono P) a f h _ _ (fun e f h H => ?_) (X_sound a hc F h _ H f A)
    obtain ⟨F, A, H⟩ := H
    cases e with
    | normal => exact ⟨F, A, H⟩
    | ret => exact ⟨F, A, H⟩
    | exit id' =>
      simp only at H ⊢
      split
      · rename_i e; rw [if_pos e] at H; exact ⟨F, A, H⟩
      · rename_i e; rw [if_neg e] at H; exact ⟨F, A, H⟩
  | .loop a, hc, F, h, K, H, f, A => by
    unfold X at H
    unfold exec
    unfold okC at hc
    intro J hJ
    refine H (fun F h => ∀ f, Ag n f F → J f h) (fun F h H f A => hJ f h ?_) f A
    rw [clr_none]
    refine exec_mono (SC_callMono P) a f h _ _ (fun e f h H => ?_) (X_sound a hc F h _ H f A)
    obtain ⟨F, A, H⟩ := H
    cases e with
    | normal => exact H f A
    | exit id => exact ⟨F, A, H⟩
    | ret => exact ⟨F, A, H⟩
  | .goto _, hc, F, h, K, H, f, A => by unfold X at H; exact H.elim
  | .rangeFunc .., hc, F, h, K, H, f, A => by unfold X at H; exact H.elim
  | .scope a, hc, F, h, K, H, f, A => by
    unfold X at H
    unfold exec
    unfold okC at hc
    exact X_sound a hc F h K H f A
  | .refuse .., hc, F, h, K, H, f, A => by unfold X at H; exact H.elim

/-! ### Monotony -/
section
variable {P : Program}
theorem S_mono {op : Op} {F : FF} {h : AHeap} {k k' : AV → AHeap → Prop} (hk : ∀ v h, k v h → k' v h) (H : S P op F h k) : S P op F h k' := by
  unfold S at *
  split
  · rename_i e
    rw [e] at H
    simp only at H
    split
    · rename_i p hp; rw [hp] at H; exact SC_mono H hk
    · rename_i hp; rw [hp] at H; exact H
  · rename_i e
    rw [e] at H
    exact bind2_mono' H fun v h _ => hk v h
theorem wantG_mono {ops : Array Oper} {F : FF} {o : Oper} {Y N Y' N' : Prop} (hy : Y → Y') (hn : N → N') (H : wantG ops F o Y N) : wantG ops F o Y' N' := by
  unfold wantG at *
  split
  · rename_i e; rw [e] at H; exact hy H
  · rename_i j want e
    rw [e] at H
    simp only at H
    split
    · rename_i d hd
      rw [hd] at H
      simp only at H
      unfold gsel at *
      split
      · rename_i b hb
        rw [hb] at H
        cases b <;> cases want <;> simp only [ifB] at H ⊢ <;> simp at H ⊢ <;> first | exact hy H | exact hn H
      · rename_i hb; rw [hb] at H; exact hn H
      · rename_i h1 h2
        split at H
        · rename_i b hb; exact (h1 b hb).elim
        · rename_i hb; exact (h2 hb).elim
        · exact H
    · rename_i hd; rw [hd] at H; exact hn H
theorem RG_mono {ops : Array Oper} {k k' : KF} (hk : ∀ F h, k F h → k' F h) : ∀ (l : List Oper) (F : FF) (h : AHeap), RG P ops l F h k → RG P ops l F h k'
  | [], F, h, H => hk F h H
  | o :: r, F, h, H => by
    unfold RG at *
    exact wantG_mono (fun H => S_mono (fun v h H => RG_mono hk r _ h H) H) (fun H => RG_mono hk r _ h H) H
theorem XS_mono {ops : Array Oper} {k k' : KF} (hk : ∀ F h, k F h → k' F h) : ∀ (s : Sch) (pend : Pend) (F : FF) (h : AHeap), XS P ops s pend F h k → XS P ops s pend F h k'
  | .nil, pend, F, h, H => hk F h H
  | .p i r, pend, F, h, H => by
    unfold XS at *
    split
    · rename_i o ho; rw [ho] at H; exact wantG_mono (fun H => S_mono (fun v h H => XS_mono hk r _ _ h H) H) (fun H => XS_mono hk r _ _ h H) H
    · rename_i ho; rw [ho] at H; exact H
  | .q i r, pend, F, h, H => by
    unfold XS at *
    split
    · rename_i o ho; rw [ho] at H; exact wantG_mono (fun H => S_mono (fun v h H => XS_mono hk r _ _ h H) H) (fun H => XS_mono hk r _ _ h H) H
    · rename_i ho; rw [ho] at H; exact H
  | .c i chk r, pend, F, h, H => by
    unfold XS at *
    split
    · rename_i o ho; rw [ho] at H; exact wantG_mono (fun H => S_mono (fun v h H => ⟨H.1, XS_mono hk r _ _ h H.2⟩) H) (fun H => XS_mono hk r _ _ h H) H
    · rename_i ho; rw [ho] at H; exact H
  | .fork a b, pend, F, h, H => by
    unfold XS at *
    exact ⟨XS_mono hk a _ _ h H.1, XS_mono hk b _ _ h H.2⟩
theorem X_mono : ∀ (c : Code) (F : FF) (h : AHeap) (k k' : KX), (∀ e F h, k e F h → k' e F h) → X P c F h k → X P c F h k'
  | .skip, F, h, k, k', hk, H => hk _ _ _ H
  | .label _, F, h, k, k', hk, H => hk _ _ _ H
  | .region _ ops false, F, h, k, k', hk, H => by
    unfold X at *
    exact RG_mono (hk _) _ _ _ H
  | .region _ ops true, F, h, k, k', hk, H => by
    unfold X at *
    obtain ⟨s, hs, H⟩ := H
    exact ⟨s, hs, XS_mono (hk _) _ _ _ _ H⟩
  | .seq a b, F, h, k, k', hk, H => by
    unfold X at *
    refine X_mono a F h _ _ (fun e F h H => ?_) H
    cases e with
    | normal => exact X_mono b _ h k k' hk H
    | exit id => exact hk _ _ _ H
    | ret => exact hk _ _ _ H
  | .cond c a b, F, h, k, k', hk, H => by
    unfold X cndX at *
    split
    · rename_i t ht
      rw [ht] at H
      cases t
      · exact X_mono b F h k k' hk H
      · exact X_mono a F h k k' hk H
    · rename_i h1
      split at H
      · rename_i t ht; exact (h1 t ht).elim
      · exact H
  | .block id a, F, h, k, k', hk, H => by
    unfold X at *
    refine X_mono a F h _ _ (fun e F h H => ?_) H
    cases e with
    | normal => exact hk _ _ _ H
    | ret => exact hk _ _ _ H
    | exit id' =>
      simp only at H ⊢
      split
      · rename_i q; rw [if_pos q] at H; exact hk _ _ _ H
      · rename_i q; rw [if_neg q] at H; exact hk _ _ _ H
  | .loop a, F, h, k, k', hk, H => by
    unfold X at *
    intro I hI
    refine H I (fun F h H => hI F h (X_mono a _ h _ _ (fun e F h H => ?_) H))
    cases e with
    | normal => exact H
    | exit id => exact hk _ _ _ H
    | ret => exact hk _ _ _ H
  | .exit id, F, h, k, k', hk, H => hk _ _ _ H
  | .ret, F, h, k, k', hk, H => hk _ _ _ H
  | .goto _, F, h, k, k', hk, H => by unfold X at H; exact H.elim
  | .rangeFunc .., F, h, k, k', hk, H => by unfold X at H; exact H.elim
  | .scope a, F, h, k, k', hk, H => by
    unfold X at *
    exact X_mono a F h k k' hk H
  | .refuse .., F, h, k, k', hk, H => by unfold X at H; exact H.elim
end

/-! ### A function's call -/
def argF (l : List AV) : FF := fun t => l.getD t (.tup [])
def resG (P : Program) (F : FF) (h : AHeap) : ResultVar → Option AV
  | .tmp t => some (F t)
  | .cell a t => match tinfo P t with
    | some i => fLoad i.ag i.sz h (F a)
    | none => none
/-- Results, as a call's value. -/
def retV : List AV → AV
  | [v] => v
  | vs => .tup vs
def resultsG (P : Program) (F : FF) (h : AHeap) : List ResultVar → (List AV → Prop) → Prop
  | [], k => k []
  | r :: rs, k => bindP (resG P F h r) fun v => resultsG P F h rs fun vs => k (v :: vs)
def bodyX (P : Program) (rs : Array ResultVar) (Q : AV → AHeap → Prop) : KX := fun e F h => match e with
  | .exit _ => False
  | _ => resultsG P F h rs.toList fun vs => Q (retV vs) h
theorem resG_eq {P : Program} {n : Nat} {f : Fr} {F : FF} (A : Ag n f F) (h : AHeap) (r : ResultVar) {v : AV} (H : resG P F h r = some v) : resOf P f h r = some v := by
  cases r with
  | tmp t => simp only [resG] at H; simp only [resOf, A.at_, H]
  | cell a t =>
    simp only [resG] at H
    simp only [resOf, A.at_]
    split at H
    · rename_i i hi
      rw [hi]
      simp only
      unfold fLoad at H
      split at H
      · rename_i cs hcs
        cases hag : i.ag with
        | true => rw [hag] at H; simpa using H
        | false =>
          rw [hag] at H
          simp only at H
          unfold one? at H
          split at H
          · cases H; rfl
          · cases H
      · cases H
    · cases H
theorem resultsG_sound {P : Program} {n : Nat} {f : Fr} {F : FF} (A : Ag n f F) (h : AHeap) : ∀ (rs : List ResultVar) (k : List AV → Prop), resultsG P F h rs k → ∃ vs, rs.mapM (resOf P f h) = some vs ∧ k vs
  | [], k, H => ⟨[], rfl, H⟩
  | r :: rs, k, H => by
    unfold resultsG bindP at H
    split at H
    · rename_i v hv
      obtain ⟨vs, h1, h2⟩ := resultsG_sound A h rs _ H
      refine ⟨v :: vs, ?_, h2⟩
      rw [List.mapM_cons, resG_eq A h r hv, h1]
      rfl
    · exact H.elim
theorem body_sound {P : Program} {n : Nat} {fn : Func} {Q : AV → AHeap → Prop} {e : Ex} {f : Fr} {h : AHeap} (H : kx n (bodyX P fn.results Q) e f h) : bodyK P fn Q e f h := by
  obtain ⟨F, A, H⟩ := H
  unfold bodyK bodyX at *
  have key : (resultsG P F h fn.results.toList fun vs => Q (retV vs) h) → resultsA P fn f h Q := fun H => by
    obtain ⟨vs, h1, h2⟩ := resultsG_sound A h _ _ H
    unfold resultsA
    rw [h1]
    split
    · rename_i v e; cases e; exact h2
    · rename_i vs' hne e
      cases e
      unfold retV at h2
      split at h2
      · rename_i v; exact (hne v rfl).elim
      · exact h2
    · rename_i e; cases e
  cases e with
  | exit id => exact H
  | normal => exact key H
  | ret => exact key H
theorem Ag.init (l : List AV) (n : Nat) (h : l.length ≤ n) : Ag n (l ++ List.replicate (n - l.length) (.tup [])) (argF l) where
  len := by simp; omega
  at_ := fun t => by
    simp only [argF, List.getD_eq_getElem?_getD, List.getElem?_append]
    split
    · rfl
    · rename_i h1
      rw [List.getElem?_eq_none (by omega : l.length ≤ t)]
      simp only [List.getElem?_replicate]
      split <;> rfl
/-- What the kernel is to see of a function. -/
def fnOk (P : Program) (g n : Nat) (c : Code) (rs : Array ResultVar) (fn : Func) : Bool := okC fn.ntmps c && !(fn.name == "runtime.NumGoroutine") && decide (n ≤ fn.ntmps)
theorem SC_X {P : Program} (hm : P.follows .mixedOrders = true) {g : FuncId} {fn : Func} (hf : P.funcs[g]? = some fn) {c : Code} (hb : fn.body = some c) {args : List AV} (hok : fnOk P g args.length c fn.results fn = true) {h : AHeap} {Q : AV → AHeap → Prop}
    (H : X P c (argF args) h (bodyX P fn.results Q)) : SC P g args h Q := by
  unfold fnOk at hok
  simp only [Bool.and_eq_true, Bool.not_eq_true', decide_eq_true_eq] at hok
  refine SC_of hm hf hok.1.2 hb (hints := noHints) ?_
  refine exec_mono (SC_callMono P) c _ h _ _ (fun e f h H => body_sound H) (X_sound c hok.1.1 _ h _ H _ (Ag.init args fn.ntmps hok.2))

/-! ### Loops -/
def loopX (I : FF → AHeap → Prop) (k : KX) : KX := fun e F h => match e with
  | .normal => I F h
  | e => k e F h
theorem X_loop {P : Program} {a : Code} {k : KX} (I : Nat → FF → AHeap → Prop) (n : Nat) {F : FF} {h : AHeap} (h0 : I n F h)
    (step : ∀ n F h, I n F h → X P a F h (loopX (fun F h => ∃ m, m < n ∧ I m F h) k)) : X P (.loop a) F h k := by
  unfold X
  intro J hJ
  have key : ∀ n, ∀ m, m < n → ∀ F h, I m F h → J F h := by
    intro n
    induction n with
    | zero => intro m hm; omega
    | succ n ih =>
      intro m hm F h hi
      refine hJ F h (X_mono a F h _ _ (fun e F h H => ?_) (step m F h hi))
      cases e with
      | normal =>
        obtain ⟨m', h1, h2⟩ := H
        exact ih m' (by omega) F h h2
      | exit id => exact H
      | ret => exact H
  exact key (n + 1) n (by omega) F h h0
/-- A cut: what one piece comes to, and what follows. -/
def seqX (P : Program) (b : Code) (k : KX) : KX := fun e F h => match e with
  | .normal => X P b F h k
  | e => k e F h
theorem X_cut {P : Program} {a b : Code} {k : KX} {F : FF} {h : AHeap} (I : FF → AHeap → Prop) (h1 : X P a F h (loopX I k)) (h2 : ∀ F h, I F h → X P b F h k) : X P (.seq a b) F h k := by
  unfold X
  refine X_mono a F h _ _ (fun e F h H => ?_) h1
  cases e with
  | normal => exact h2 F h H
  | exit id => exact H
  | ret => exact H
end Go.AM
/- The equations that a proof steps by. -/
namespace Go.AM
open Go Go.RowKit
set_option linter.unusedVariables false
set_option linter.unusedSimpArgs false
variable {P : Program}
/-- An equation that simp is to hand on to the kernel as a step. -/
theorem nrfl {α : Sort _} {a b : α} (h : a = b) : a = b := h

/-! ### Frames -/
@[go_sem] theorem upd_apply (F : FF) (d : Nat) (v : AV) (t : Nat) : upd F d v t = if t = d then v else F t := nrfl rfl
@[go_sem] theorem argF_zero (a : AV) (l : List AV) : argF (a :: l) 0 = a := nrfl rfl
@[go_sem] theorem argF_succ (a : AV) (l : List AV) (t : Nat) : argF (a :: l) (t + 1) = argF l t := nrfl rfl
@[go_sem] theorem argF_nil (t : Nat) : argF [] t = .tup [] := nrfl rfl
@[go_sem] theorem evG_tmp (F : FF) (t : Nat) : evG F (.tmp t) = F t := nrfl rfl
@[go_sem] theorem evG_func (F : FF) (g : Nat) : evG F (.func g) = .fn g [] := nrfl rfl
@[go_sem] theorem evG_int (F : FF) (k : IntKind) (n : Int) : evG F (.const (.int k n)) = .int k n := nrfl rfl
@[go_sem] theorem evG_bool (F : FF) (b : Bool) : evG F (.const (.bool b)) = .bool b := nrfl rfl
@[go_sem] theorem evG_nilp (F : FF) : evG F (.const (.pointer none)) = .nilp := nrfl rfl
@[go_sem] theorem evG_nils (F : FF) : evG F (.const (.slice none 0 0)) = .nils := nrfl rfl
@[go_sem] theorem evG_nilm (F : FF) : evG F (.const (.map none)) = .nilm := nrfl rfl
@[go_sem] theorem evG_nilf (F : FF) : evG F (.const .nilFunc) = .nilf := nrfl rfl
@[go_sem] theorem evG_str (F : FF) (s : ByteArray) : evG F (.const (.string s)) = .str (s.data.toList.map fun b => (b.toNat : Int)) := nrfl rfl
@[go_sem] theorem evG_agg (F : FF) (l : List Value) : evG F (.const (.agg (List.toArray l))) = .agg (l.map ofCell) := nrfl rfl
@[go_sem] theorem evG_tup (F : FF) : evG F (.const (.tuple (List.toArray []))) = .tup [] := nrfl rfl
attribute [go_sem] ofCell List.map_cons List.map_nil

/-! ### Code -/
def blockX (id : Nat) (k : KX) : KX := fun e F h => match e with
  | .exit id' => if id' = id then k .normal F h else k (.exit id') F h
  | e => k e F h
@[go_sem] theorem X_skip (F : FF) (h : AHeap) (k : KX) : X P .skip F h k = k .normal F h := nrfl rfl
@[go_sem] theorem X_label (l : Nat) (F : FF) (h : AHeap) (k : KX) : X P (.label l) F h k = k .normal F h := nrfl rfl
@[go_sem] theorem X_region (id : Nat) (l : List Oper) (F : FF) (h : AHeap) (k : KX) : X P (.region id l.toArray false) F h k = RG P l.toArray l F h (k .normal) := nrfl rfl
theorem X_draw {id : Nat} {l : List Oper} {F : FF} {h : AHeap} {k : KX} (s : Sch) (ok : (drawOk P l.toArray (Region.before l.toArray) && okS P l.toArray (Region.before l.toArray) (4 * l.length + 8) (l.length + 1) 0 [] s) = true) (H : XS P l.toArray s [] F h (k .normal)) : X P (.region id l.toArray true) F h k := ⟨s, ok, H⟩
@[go_sem] theorem X_seq (a b : Code) (F : FF) (h : AHeap) (k : KX) : X P (.seq a b) F h k = X P a F h (seqX P b k) := nrfl rfl
@[go_sem] theorem X_cond (c : Operand) (a b : Code) (F : FF) (h : AHeap) (k : KX) : X P (.cond c a b) F h k = cndX (evG F c) (X P a F h k) (X P b F h k) := nrfl rfl
@[go_sem] theorem X_block (id : Nat) (a : Code) (F : FF) (h : AHeap) (k : KX) : X P (.block id a) F h k = X P a F h (blockX id k) := nrfl rfl
@[go_sem] theorem X_exit (id : Nat) (F : FF) (h : AHeap) (k : KX) : X P (.exit id) F h k = k (.exit id) F h := nrfl rfl
@[go_sem] theorem X_scope (a : Code) (F : FF) (h : AHeap) (k : KX) : X P (.scope a) F h k = X P a F h k := nrfl rfl
@[go_sem] theorem X_ret (F : FF) (h : AHeap) (k : KX) : X P .ret F h k = k .ret F h := nrfl rfl
@[go_sem] theorem cndX_bool (t : Bool) (A B : Prop) : cndX (.bool t) A B = ifB t A B := nrfl rfl
@[go_sem] theorem ifB_true (A B : Prop) : ifB true A B = A := nrfl rfl
@[go_sem] theorem ifB_false (A B : Prop) : ifB false A B = B := nrfl rfl
@[go_sem] theorem seqX_normal (b : Code) (k : KX) (F : FF) (h : AHeap) : seqX P b k .normal F h = X P b F h k := nrfl rfl
@[go_sem] theorem seqX_exit (b : Code) (k : KX) (id : Nat) (F : FF) (h : AHeap) : seqX P b k (.exit id) F h = k (.exit id) F h := nrfl rfl
@[go_sem] theorem seqX_ret (b : Code) (k : KX) (F : FF) (h : AHeap) : seqX P b k .ret F h = k .ret F h := nrfl rfl
@[go_sem] theorem blockX_normal (id : Nat) (k : KX) (F : FF) (h : AHeap) : blockX id k .normal F h = k .normal F h := nrfl rfl
@[go_sem] theorem blockX_exit (id id' : Nat) (k : KX) (F : FF) (h : AHeap) : blockX id k (.exit id') F h = if id' = id then k .normal F h else k (.exit id') F h := nrfl rfl
@[go_sem] theorem blockX_ret (id : Nat) (k : KX) (F : FF) (h : AHeap) : blockX id k .ret F h = k .ret F h := nrfl rfl
@[go_sem] theorem loopX_normal (I : FF → AHeap → Prop) (k : KX) (F : FF) (h : AHeap) : loopX I k .normal F h = I F h := nrfl rfl
@[go_sem] theorem loopX_exit (I : FF → AHeap → Prop) (id : Nat) (k : KX) (F : FF) (h : AHeap) : loopX I k (.exit id) F h = k (.exit id) F h := nrfl rfl
@[go_sem] theorem loopX_ret (I : FF → AHeap → Prop) (k : KX) (F : FF) (h : AHeap) : loopX I k .ret F h = k .ret F h := nrfl rfl
@[go_sem] theorem bodyX_ret (rs : List ResultVar) (Q : AV → AHeap → Prop) (F : FF) (h : AHeap) : bodyX P rs.toArray Q .ret F h = resultsG P F h rs (fun vs => Q (retV vs) h) := nrfl rfl
@[go_sem] theorem bodyX_normal (rs : List ResultVar) (Q : AV → AHeap → Prop) (F : FF) (h : AHeap) : bodyX P rs.toArray Q .normal F h = resultsG P F h rs (fun vs => Q (retV vs) h) := nrfl rfl
@[go_sem] theorem resultsG_nil (F : FF) (h : AHeap) (k : List AV → Prop) : resultsG P F h [] k = k [] := nrfl rfl
@[go_sem] theorem resultsG_cons (F : FF) (h : AHeap) (r : ResultVar) (rs : List ResultVar) (k : List AV → Prop) : resultsG P F h (r :: rs) k = bindP (resG P F h r) fun v => resultsG P F h rs fun vs => k (v :: vs) := nrfl rfl
@[go_sem] theorem resG_tmp (F : FF) (h : AHeap) (t : Nat) : resG P F h (.tmp t) = some (F t) := nrfl rfl
def ldT (i : Option TI) (h : AHeap) (a : AV) : Option AV := i.bind fun i => fLoad i.ag i.sz h a
@[go_sem] theorem ldT_some (i : TI) (h : AHeap) (a : AV) : ldT (some i) h a = fLoad i.ag i.sz h a := nrfl rfl
@[go_sem] theorem resG_cell (F : FF) (h : AHeap) (a t : Nat) : resG P F h (.cell a t) = ldT (tinfo P t) h (F a) := by
  simp only [resG, ldT]
  cases tinfo P t <;> rfl
@[go_sem] theorem retV_one (v : AV) : retV [v] = v := nrfl rfl
@[go_sem] theorem retV_two (u v : AV) (l : List AV) : retV (u :: v :: l) = .tup (u :: v :: l) := nrfl rfl
@[go_sem] theorem bindP_some {α : Type} (a : α) (k : α → Prop) : bindP (some a) k = k a := nrfl rfl
@[go_sem] theorem bind2_some (v : AV) (h : AHeap) (k : AV → AHeap → Prop) : bind2 (some (v, h)) k = k v h := nrfl rfl

/-! ### Regions -/
def rgK (P : Program) (l r : List Oper) (d : Option Tmp) (F : FF) (k : KF) : AV → AHeap → Prop := fun v h => RG P l.toArray r (updO F d v) h k
@[go_sem] theorem rgK_some (l r : List Oper) (d : Tmp) (F : FF) (k : KF) (v : AV) (h : AHeap) : rgK P l r (some d) F k v h = RG P l.toArray r (upd F d v) h k := nrfl rfl
@[go_sem] theorem rgK_none (l r : List Oper) (F : FF) (k : KF) (v : AV) (h : AHeap) : rgK P l r none F k v h = RG P l.toArray r F h k := nrfl rfl
def gdst (l : List Oper) (j : Nat) : Option Tmp := (l[j]?).bind (·.dst)
@[go_sem] theorem gdst_zero (o : Oper) (l : List Oper) : gdst (o :: l) 0 = o.dst := nrfl rfl
@[go_sem] theorem gdst_succ (o : Oper) (l : List Oper) (j : Nat) : gdst (o :: l) (j + 1) = gdst l j := nrfl rfl
def gselO (F : FF) (d : Option Tmp) (want : Bool) (yes no : Prop) : Prop := match d with
  | some d => gsel (F d) want yes no
  | none => no
@[go_sem] theorem gselO_some (F : FF) (d : Tmp) (want : Bool) (yes no : Prop) : gselO F (some d) want yes no = gsel (F d) want yes no := nrfl rfl
@[go_sem] theorem gsel_t (b : Bool) (yes no : Prop) : gsel (.bool b) true yes no = ifB b yes no := nrfl rfl
@[go_sem] theorem gsel_f (b : Bool) (yes no : Prop) : gsel (.bool b) false yes no = ifB b no yes := nrfl rfl
@[go_sem] theorem gsel_u (w : Bool) (yes no : Prop) : gsel (.tup []) w yes no = no := nrfl rfl
@[go_sem] theorem RG_nil (ops : Array Oper) (F : FF) (h : AHeap) (k : KF) : RG P ops [] F h k = k F h := nrfl rfl
@[go_sem] theorem RG_cons (l : List Oper) (d : Option Tmp) (op : Op) (ty : TypeId) (pos : String) (aft : Array Edge) (r : List Oper) (F : FF) (h : AHeap) (k : KF) :
    RG P l.toArray (⟨d, op, ty, pos, aft, none⟩ :: r) F h k = S P op F h (rgK P l r d F k) := nrfl rfl
@[go_sem] theorem RG_guard (l : List Oper) (d : Option Tmp) (op : Op) (ty : TypeId) (pos : String) (aft : Array Edge) (j : Nat) (want : Bool) (r : List Oper) (F : FF) (h : AHeap) (k : KF) :
    RG P l.toArray (⟨d, op, ty, pos, aft, some (j, want)⟩ :: r) F h k = gselO F (gdst l j) want (S P op F h (rgK P l r d F k)) (rgK P l r d F k (.tup []) h) := by
  simp only [RG, wantG, gselO, gdst]
  rw [show l.toArray[j]? = l[j]? from by simp]
  all_goals (cases (l[j]?).bind (·.dst) <;> rfl)
def xsK (P : Program) (l : List Oper) (r : Sch) (pend : Pend) (d : Option Tmp) (F : FF) (k : KF) : AV → AHeap → Prop := fun v h => XS P l.toArray r pend (updO F d v) h k
@[go_sem] theorem xsK_some (l : List Oper) (r : Sch) (pend : Pend) (d : Tmp) (F : FF) (k : KF) (v : AV) (h : AHeap) : xsK P l r pend (some d) F k v h = XS P l.toArray r pend (upd F d v) h k := nrfl rfl
@[go_sem] theorem xsK_none (l : List Oper) (r : Sch) (pend : Pend) (F : FF) (k : KF) (v : AV) (h : AHeap) : xsK P l r pend none F k v h = XS P l.toArray r pend F h k := nrfl rfl
def xqK (P : Program) (l : List Oper) (r : Sch) (i : Nat) (op : Op) (pend : Pend) (d : Option Tmp) (F : FF) (k : KF) : AV → AHeap → Prop := fun v h => XS P l.toArray r ((i, op, v) :: pend) (updO F d v) h k
@[go_sem] theorem xqK_some (l : List Oper) (r : Sch) (i : Nat) (op : Op) (pend : Pend) (d : Tmp) (F : FF) (k : KF) (v : AV) (h : AHeap) : xqK P l r i op pend (some d) F k v h = XS P l.toArray r ((i, op, v) :: pend) (upd F d v) h k := nrfl rfl
def xcK (P : Program) (l : List Oper) (r : Sch) (chk : List Nat) (pend : Pend) (d : Option Tmp) (F : FF) (k : KF) : AV → AHeap → Prop := fun v h => lagsS P chk F h pend ∧ XS P l.toArray r pend (updO F d v) h k
@[go_sem] theorem xcK_some (l : List Oper) (r : Sch) (chk : List Nat) (pend : Pend) (d : Tmp) (F : FF) (k : KF) (v : AV) (h : AHeap) : xcK P l r chk pend (some d) F k v h = (lagsS P chk F h pend ∧ XS P l.toArray r pend (upd F d v) h k) := nrfl rfl
@[go_sem] theorem xcK_none (l : List Oper) (r : Sch) (chk : List Nat) (pend : Pend) (F : FF) (k : KF) (v : AV) (h : AHeap) : xcK P l r chk pend none F k v h = (lagsS P chk F h pend ∧ XS P l.toArray r pend F h k) := nrfl rfl
def gop (l : List Oper) (j : Nat) : Option Oper := l[j]?
@[go_sem] theorem gop_zero (o : Oper) (l : List Oper) : gop (o :: l) 0 = some o := nrfl rfl
@[go_sem] theorem gop_succ (o : Oper) (l : List Oper) (j : Nat) : gop (o :: l) (j + 1) = gop l j := nrfl rfl
inductive XM where
  | p | q | c (chk : List Nat)
def xAt (P : Program) (l : List Oper) (o : Option Oper) (m : XM) (i : Nat) (r : Sch) (pend : Pend) (F : FF) (h : AHeap) (k : KF) : Prop := match o with
  | some o => wantG l.toArray F o (S P o.op F h (match m with
      | .p => xsK P l r pend o.dst F k
      | .q => xqK P l r i o.op pend o.dst F k
      | .c chk => xcK P l r chk pend o.dst F k)) (xsK P l r pend o.dst F k (.tup []) h)
  | none => False
@[go_sem] theorem XS_nil (l : List Oper) (pend : Pend) (F : FF) (h : AHeap) (k : KF) : XS P l.toArray .nil pend F h k = k F h := nrfl rfl
theorem arr_gop (l : List Oper) (i : Nat) : l.toArray[i]? = gop l i := by simp [gop]
@[go_sem] theorem XS_p (l : List Oper) (i : Nat) (r : Sch) (pend : Pend) (F : FF) (h : AHeap) (k : KF) : XS P l.toArray (.p i r) pend F h k = xAt P l (gop l i) .p i r pend F h k := by
  simp only [XS, arr_gop, xAt]
  cases gop l i <;> rfl
@[go_sem] theorem XS_q (l : List Oper) (i : Nat) (r : Sch) (pend : Pend) (F : FF) (h : AHeap) (k : KF) : XS P l.toArray (.q i r) pend F h k = xAt P l (gop l i) .q i r pend F h k := by
  simp only [XS, arr_gop, xAt]
  cases gop l i <;> rfl
@[go_sem] theorem XS_c (l : List Oper) (i : Nat) (chk : List Nat) (r : Sch) (pend : Pend) (F : FF) (h : AHeap) (k : KF) : XS P l.toArray (.c i chk r) pend F h k = xAt P l (gop l i) (.c chk) i r pend F h k := by
  simp only [XS, arr_gop, xAt]
  cases gop l i <;> rfl
@[go_sem] theorem XS_fork (l : List Oper) (a b : Sch) (pend : Pend) (F : FF) (h : AHeap) (k : KF) : XS P l.toArray (.fork a b) pend F h k = (XS P l.toArray a pend F h k ∧ XS P l.toArray b pend F h k) := nrfl rfl
@[go_sem] theorem xAt_p (l : List Oper) (d : Option Tmp) (op : Op) (ty : TypeId) (pos : String) (aft : Array Edge) (i : Nat) (r : Sch) (pend : Pend) (F : FF) (h : AHeap) (k : KF) :
    xAt P l (some ⟨d, op, ty, pos, aft, none⟩) .p i r pend F h k = S P op F h (xsK P l r pend d F k) := nrfl rfl
@[go_sem] theorem xAt_q (l : List Oper) (d : Option Tmp) (op : Op) (ty : TypeId) (pos : String) (aft : Array Edge) (i : Nat) (r : Sch) (pend : Pend) (F : FF) (h : AHeap) (k : KF) :
    xAt P l (some ⟨d, op, ty, pos, aft, none⟩) .q i r pend F h k = S P op F h (xqK P l r i op pend d F k) := nrfl rfl
@[go_sem] theorem xAt_c (l : List Oper) (d : Option Tmp) (op : Op) (ty : TypeId) (pos : String) (aft : Array Edge) (i : Nat) (chk : List Nat) (r : Sch) (pend : Pend) (F : FF) (h : AHeap) (k : KF) :
    xAt P l (some ⟨d, op, ty, pos, aft, none⟩) (.c chk) i r pend F h k = S P op F h (xcK P l r chk pend d F k) := nrfl rfl
theorem want_guard (l : List Oper) (F : FF) (o : Oper) (j : Nat) (want : Bool) (hg : o.guard = some (j, want)) (yes no : Prop) : wantG l.toArray F o yes no = gselO F (gdst l j) want yes no := by
  simp only [wantG, hg, gselO, gdst]
  rw [show l.toArray[j]? = l[j]? from by simp]
  all_goals (cases (l[j]?).bind (·.dst) <;> rfl)
@[go_sem] theorem xAt_pg (l : List Oper) (d : Option Tmp) (op : Op) (ty : TypeId) (pos : String) (aft : Array Edge) (j : Nat) (want : Bool) (i : Nat) (r : Sch) (pend : Pend) (F : FF) (h : AHeap) (k : KF) :
    xAt P l (some ⟨d, op, ty, pos, aft, some (j, want)⟩) .p i r pend F h k = gselO F (gdst l j) want (S P op F h (xsK P l r pend d F k)) (xsK P l r pend d F k (.tup []) h) := want_guard l F ⟨d, op, ty, pos, aft, some (j, want)⟩ j want rfl _ _
@[go_sem] theorem xAt_qg (l : List Oper) (d : Option Tmp) (op : Op) (ty : TypeId) (pos : String) (aft : Array Edge) (j : Nat) (want : Bool) (i : Nat) (r : Sch) (pend : Pend) (F : FF) (h : AHeap) (k : KF) :
    xAt P l (some ⟨d, op, ty, pos, aft, some (j, want)⟩) .q i r pend F h k = gselO F (gdst l j) want (S P op F h (xqK P l r i op pend d F k)) (xsK P l r pend d F k (.tup []) h) := want_guard l F ⟨d, op, ty, pos, aft, some (j, want)⟩ j want rfl _ _
@[go_sem] theorem xAt_cg (l : List Oper) (d : Option Tmp) (op : Op) (ty : TypeId) (pos : String) (aft : Array Edge) (j : Nat) (want : Bool) (i : Nat) (chk : List Nat) (r : Sch) (pend : Pend) (F : FF) (h : AHeap) (k : KF) :
    xAt P l (some ⟨d, op, ty, pos, aft, some (j, want)⟩) (.c chk) i r pend F h k = gselO F (gdst l j) want (S P op F h (xcK P l r chk pend d F k)) (xsK P l r pend d F k (.tup []) h) := want_guard l F ⟨d, op, ty, pos, aft, some (j, want)⟩ j want rfl _ _
@[go_sem] theorem lagsS_nil (chk : List Nat) (F : FF) (h : AHeap) : lagsS P chk F h [] = True := nrfl rfl
@[go_sem] theorem lagsS_cons (chk : List Nat) (F : FF) (h : AHeap) (j : Nat) (op : Op) (v : AV) (r : Pend) : lagsS P chk F h ((j, op, v) :: r) = ((if chk.contains j = true then aopE P (evG F) h op = some (v, h) else True) ∧ lagsS P chk F h r) := nrfl rfl

/-! ### Operations -/
def b1 (o : Option AV) (h : AHeap) (k : AV → AHeap → Prop) : Prop := bindP o fun v => k v h
@[go_sem] theorem b1_some (v : AV) (h : AHeap) (k : AV → AHeap → Prop) : b1 (some v) h k = k v h := nrfl rfl
def bh (o : Option AHeap) (k : AV → AHeap → Prop) : Prop := bindP o fun h => k (.tup []) h
@[go_sem] theorem bh_some (h : AHeap) (k : AV → AHeap → Prop) : bh (some h) k = k (.tup []) h := nrfl rfl
section
variable (F : FF) (h : AHeap) (k : AV → AHeap → Prop)
theorem b1_eq (o : Option AV) : bind2 (at_ h o) k = b1 o h k := by cases o <;> rfl
theorem bh_eq (o : Option AHeap) : bind2 (o.map fun h' => (.tup [], h')) k = bh o k := by cases o <;> rfl
@[go_sem] theorem S_move (x : Operand) : S P (.move x) F h k = k (evG F x) h := nrfl rfl
@[go_sem] theorem S_assign (x : Operand) : S P (.assign x) F h k = k (evG F x) h := nrfl rfl
@[go_sem] theorem S_pick (c a b : Operand) : S P (.pick c a b) F h k = b1 (fPick (evG F c) (evG F a) (evG F b)) h k := b1_eq ..
def newT (P : Program) (i : Option TI) (t : TypeId) (h : AHeap) : Option (AV × AHeap) := match i with
  | some i => (blkOf P t i.zero).map fun p => fNew p.1 p.2 h
  | none => none
@[go_sem] theorem S_alloc (t : TypeId) : S P (.alloc t) F h k = bind2 (newT P (tinfo P t) t h) k := by
  simp only [S, isCallV, aopE, newT]
  cases tinfo P t <;> rfl
theorem newT_some (i : TI) (t : TypeId) (h : AHeap) : newT P (some i) t h = (blkOf P t i.zero).map fun p => fNew p.1 p.2 h := nrfl rfl
def boxT (P : Program) (i : Option TI) (t : TypeId) (v : AV) (h : AHeap) : Option (AV × AHeap) := match i with
  | some i => if i.sz = v.cells.length then (blkOf P t v.cells).map fun p => fNew p.1 p.2 h else none
  | none => none
@[go_sem] theorem S_box (t : TypeId) (x : Operand) : S P (.box t x) F h k = bind2 (boxT P (tinfo P t) t (evG F x) h) k := by
  simp only [S, isCallV, aopE, boxT]
  cases tinfo P t <;> rfl
theorem boxT_some (i : TI) (t : TypeId) (v : AV) (h : AHeap) : boxT P (some i) t v h = if i.sz = v.cells.length then (blkOf P t v.cells).map fun p => fNew p.1 p.2 h else none := nrfl rfl
/-- A block of one element. -/
def blkD (P : Program) (d : Option TypeDesc) (cs : List AV) : Option (Nat × List (List AV)) := match d with
  | some (.array n e) => match tinfo P e with
    | some i => if 0 < i.sz ∧ 0 < n ∧ cs.length = n * i.sz ∧ cs.all AV.isCell = true then some (i.sz, chunk i.sz n cs) else none
    | none => none
  | some _ => if 0 < cs.length ∧ cs.all AV.isCell = true then some (cs.length, [cs]) else none
  | none => none
theorem blkOf_eq (t : TypeId) (cs : List AV) : blkOf P t cs = blkD P (P.underlying t) cs := nrfl rfl
theorem blkD_int (kd : IntKind) (cs : List AV) : blkD P (some (.int kd)) cs = if 0 < cs.length ∧ cs.all AV.isCell = true then some (cs.length, [cs]) else none := nrfl rfl
theorem blkD_bool (cs : List AV) : blkD P (some .bool) cs = if 0 < cs.length ∧ cs.all AV.isCell = true then some (cs.length, [cs]) else none := nrfl rfl
theorem blkD_string (cs : List AV) : blkD P (some .string) cs = if 0 < cs.length ∧ cs.all AV.isCell = true then some (cs.length, [cs]) else none := nrfl rfl
theorem blkD_struct (fs : Array Field) (cs : List AV) : blkD P (some (.struct fs)) cs = if 0 < cs.length ∧ cs.all AV.isCell = true then some (cs.length, [cs]) else none := nrfl rfl
theorem blkD_slice (e : TypeId) (cs : List AV) : blkD P (some (.slice e)) cs = if 0 < cs.length ∧ cs.all AV.isCell = true then some (cs.length, [cs]) else none := nrfl rfl
theorem blkD_pointer (e : TypeId) (cs : List AV) : blkD P (some (.pointer e)) cs = if 0 < cs.length ∧ cs.all AV.isCell = true then some (cs.length, [cs]) else none := nrfl rfl
theorem blkD_map (kt e : TypeId) (cs : List AV) : blkD P (some (.map kt e)) cs = if 0 < cs.length ∧ cs.all AV.isCell = true then some (cs.length, [cs]) else none := nrfl rfl
theorem blkD_array (n : Nat) (e : TypeId) (cs : List AV) : blkD P (some (.array n e)) cs = (match tinfo P e with
    | some i => if 0 < i.sz ∧ 0 < n ∧ cs.length = n * i.sz ∧ cs.all AV.isCell = true then some (i.sz, chunk i.sz n cs) else none
    | none => none) := nrfl rfl
def ldG (i : Option TI) (h : AHeap) (a : AV) : Option AV := match i with
  | some i => if 0 < i.sz then fLoad i.ag i.sz h a else none
  | none => none
@[go_sem] theorem ldG_some (ag : Bool) (sz by_ : Nat) (z : List AV) (zv : AV) (h : AHeap) (a : AV) : ldG (some ⟨ag, sz + 1, by_, z, zv⟩) h a = fLoad ag (sz + 1) h a := nrfl rfl
@[go_sem] theorem S_load (t : TypeId) (a : Operand) : S P (.load t a) F h k = b1 (ldG (tinfo P t) h (evG F a)) h k := by
  simp only [S, isCallV, aopE, ldG]
  cases tinfo P t with
  | none => rfl
  | some i =>
    simp only
    split
    · exact b1_eq ..
    · rfl
def stG (i : Option TI) (h : AHeap) (a v : AV) : Option AHeap := match i with
  | some i => if 0 < i.sz then fStore i.sz h a v else none
  | none => none
@[go_sem] theorem stG_some (ag : Bool) (sz by_ : Nat) (z : List AV) (zv : AV) (h : AHeap) (a v : AV) : stG (some ⟨ag, sz + 1, by_, z, zv⟩) h a v = fStore (sz + 1) h a v := nrfl rfl
@[go_sem] theorem S_store (t : TypeId) (a x : Operand) : S P (.store t a x) F h k = bh (stG (tinfo P t) h (evG F a) (evG F x)) k := by
  simp only [S, isCallV, aopE, stG]
  cases tinfo P t with
  | none => rfl
  | some i =>
    simp only
    split
    · exact bh_eq ..
    · rfl
@[go_sem] theorem S_nilCheck (x : Operand) : S P (.nilCheck x) F h k = b1 (fNilCheck (evG F x)) h k := b1_eq ..
@[go_sem] theorem S_binOp (op : BinOp) (t : TypeId) (x y : Operand) (u : TypeId) : S P (.binOp op t x y u) F h k = b1 (fBin op (flatN P t) (nilAt P t) (evG F x) (evG F y)) h k := b1_eq ..
@[go_sem] theorem S_unOp (op : UnOp) (t : TypeId) (x : Operand) : S P (.unOp op t x) F h k = b1 (fUn op (evG F x)) h k := b1_eq ..
def cvG (P : Program) (a b : Option TypeDesc) (same : Bool) (h : AHeap) (v : AV) : Option (AV × AHeap) := match a, b with
    | some (.int _), some (.int kd) => at_ h (fConvInt kd v)
    | some .string, some .string => (match v with
      | .str s => some (.str s, h)
      | _ => none)
    | some (.slice e), some .string => match P.underlying e with
      | some (.int .u8) => at_ h (fStrOf h v)
      | _ => none
    | some .string, some (.slice e) => match P.underlying e with
      | some (.int .u8) => fBytesOf h v
      | _ => none
    | some (.slice e), some (.slice _) => match P.underlying e with
      | some (.int .u8) => if same = true then at_ h (fMark h v) else none
      | _ => none
    | _, _ => none
@[go_sem] theorem S_convert (s t : TypeId) (x : Operand) : S P (.convert s t x) F h k = bind2 (cvG P (P.underlying s) (P.underlying t) (decide (s = t)) h (evG F x)) k := by
  simp only [S, isCallV, aopE, cvG, decide_eq_true_eq]
  rfl
@[go_sem] theorem cvG_int (a kd : IntKind) (sm : Bool) (a' : IntKind) (n : Int) : cvG P (some (.int a)) (some (.int kd)) sm h (.int a' n) = some (.int kd (kd.wrap n), h) := nrfl rfl
@[go_sem] theorem cvG_str (sm : Bool) (s : List Int) : cvG P (some .string) (some .string) sm h (.str s) = some (.str s, h) := nrfl rfl
def cvS (P : Program) (e : Option TypeDesc) (h : AHeap) (v : AV) : Option AV := match e with
  | some (.int .u8) => fStrOf h v
  | _ => none
@[go_sem] theorem cvS_u8 (v : AV) : cvS P (some (.int .u8)) h v = fStrOf h v := nrfl rfl
@[go_sem] theorem cvG_s2s (e : TypeId) (sm : Bool) (v : AV) : cvG P (some (.slice e)) (some .string) sm h v = at_ h (cvS P (P.underlying e) h v) := by
  simp only [cvG, cvS]
  split <;> rfl
def cvB (P : Program) (e : Option TypeDesc) (h : AHeap) (v : AV) : Option (AV × AHeap) := match e with
  | some (.int .u8) => fBytesOf h v
  | _ => none
@[go_sem] theorem cvB_u8 (v : AV) : cvB P (some (.int .u8)) h v = fBytesOf h v := nrfl rfl
@[go_sem] theorem cvG_s2b (e : TypeId) (sm : Bool) (v : AV) : cvG P (some .string) (some (.slice e)) sm h v = cvB P (P.underlying e) h v := by
  simp only [cvG, cvB]
def cvM (P : Program) (e : Option TypeDesc) (h : AHeap) (v : AV) : Option AV := match e with
  | some (.int .u8) => fMark h v
  | _ => none
@[go_sem] theorem cvM_u8 (v : AV) : cvM P (some (.int .u8)) h v = fMark h v := nrfl rfl
@[go_sem] theorem cvG_mark (e e' : TypeId) (v : AV) : cvG P (some (.slice e)) (some (.slice e')) true h v = at_ h (cvM P (P.underlying e) h v) := by
  simp only [cvG, cvM]
  split <;> simp_all [at_]
@[go_sem] theorem at_some (v : AV) : at_ h (some v) = some (v, h) := nrfl rfl
@[go_sem] theorem S_makeFunc (g : FuncId) (caps : List Operand) : S P (.makeFunc (.func g) (List.toArray []) caps.toArray) F h k = k (.fn g (caps.map (evG F))) h := nrfl rfl
@[go_sem] theorem S_makeMap (t : TypeId) : S P (.makeMap t none) F h k = k (fMakeMap h).1 (fMakeMap h).2 := nrfl rfl
def mkS (i : Option TI) (same : Bool) (h : AHeap) (n : AV) : Option (AV × AHeap) := match i with
  | some i => if 0 < i.sz ∧ 0 < i.bytes ∧ i.zero.length = i.sz ∧ i.zero.all AV.isCell = true ∧ same = true then fMake i.sz i.bytes i.zero h n else none
  | none => none
def mkD (P : Program) (d : Option TypeDesc) (same : Bool) (h : AHeap) (n : AV) : Option (AV × AHeap) := match d with
  | some (.slice e) => mkS (tinfo P e) same h n
  | _ => none
@[go_sem] theorem S_makeSlice (t : TypeId) (l c : Operand) : S P (.makeSlice t l c) F h k = bind2 (mkD P (P.underlying t) (sameOp l c) h (evG F l)) k := by
  simp only [S, isCallV, aopE, mkD, mkS]
  cases P.underlying t with
  | none => rfl
  | some d => cases d <;> rfl
@[go_sem] theorem mkD_slice (e : TypeId) (sm : Bool) (n : AV) : mkD P (some (.slice e)) sm h n = mkS (tinfo P e) sm h n := nrfl rfl
@[go_sem] theorem sameOp_tmp (a b : Nat) : sameOp (.tmp a) (.tmp b) = (a == b) := nrfl rfl
@[go_sem] theorem sameOp_int (k k' : IntKind) (a b : Int) : sameOp (.const (.int k a)) (.const (.int k' b)) = (a == b) := nrfl rfl
def slG (P : Program) (d : Option TypeDesc) (h : AHeap) (x : AV) (lo hi mx : Option AV) : Option AV := match d with
    | some .string => if mx.isNone = true then fSliceStr x lo hi else none
    | some (.slice e) => match tinfo P e with
      | some i => fSlice i.sz h x lo hi mx
      | none => none
    | some (.array n e) => match tinfo P e with
      | some i => if mx.isNone = true then fSliceArr n i.sz h x lo hi else none
      | none => none
    | _ => none
@[go_sem] theorem S_slice (t : TypeId) (x : Operand) (lo hi mx : Option Operand) : S P (.slice t x lo hi mx) F h k = b1 (slG P (P.underlying t) h (evG F x) (lo.map (evG F)) (hi.map (evG F)) (mx.map (evG F))) h k := by
  have e0 : (mx.map (evG F)).isNone = mx.isNone := by cases mx <;> rfl
  simp only [S, isCallV, aopE, slG, e0]
  cases P.underlying t with
  | none => rfl
  | some d =>
    cases d <;> try rfl
    · simp only
      split
      · exact b1_eq ..
      · rfl
    all_goals
      simp only
      cases tinfo P _ with
      | none => rfl
      | some i =>
        simp only
        first
          | exact b1_eq ..
          | (split
             · exact b1_eq ..
             · rfl)
def slT (i : Option TI) (h : AHeap) (x : AV) (lo hi mx : Option AV) : Option AV := match i with
  | some i => fSlice i.sz h x lo hi mx
  | none => none
@[go_sem] theorem slG_slice (e : TypeId) (x : AV) (lo hi mx : Option AV) : slG P (some (.slice e)) h x lo hi mx = slT (tinfo P e) h x lo hi mx := nrfl rfl
@[go_sem] theorem slT_some (i : TI) (x : AV) (lo hi mx : Option AV) : slT (some i) h x lo hi mx = fSlice i.sz h x lo hi mx := nrfl rfl
@[go_sem] theorem slG_string (x : AV) (lo hi : Option AV) : slG P (some .string) h x lo hi none = fSliceStr x lo hi := nrfl rfl
attribute [go_sem] Option.map_none Option.map_some
def fdG (f : Option (Nat × TI)) (x : AV) : Option AV := match f with
  | some (off, i) => if 0 < i.sz then fFieldAddr off x else none
  | none => none
@[go_sem] theorem S_fieldAddr (s : TypeId) (x : Operand) (j : Nat) : S P (.fieldAddr s x j) F h k = b1 (fdG (fieldOf P s j) (evG F x)) h k := by
  simp only [S, isCallV, aopE, fdG]
  cases fieldOf P s j with
  | none => rfl
  | some p =>
    simp only
    split
    · exact b1_eq ..
    · rfl
@[go_sem] theorem fdG_some (off : Nat) (ag : Bool) (sz by_ : Nat) (z : List AV) (zv x : AV) : fdG (some (off, ⟨ag, sz + 1, by_, z, zv⟩)) x = fFieldAddr off x := nrfl rfl
@[go_sem] theorem fFieldAddr_ptr (off b g i f : Nat) : fFieldAddr off (.ptr b g i f) = some (.ptr b g i (f + off)) := nrfl rfl
def flG (f : Option (Nat × TI)) (x : AV) : Option AV := match f with
  | some (off, i) => fField i.ag off i.sz x
  | none => none
@[go_sem] theorem S_field (s : TypeId) (x : Operand) (j : Nat) : S P (.field s x j) F h k = b1 (flG (fieldOf P s j) (evG F x)) h k := by
  simp only [S, isCallV, aopE, flG]
  cases fieldOf P s j with
  | none => rfl
  | some p => exact b1_eq ..
@[go_sem] theorem flG_some (off : Nat) (i : TI) (x : AV) : flG (some (off, i)) x = fField i.ag off i.sz x := nrfl rfl
@[go_sem] theorem fField_one (off sz : Nat) (cs : List AV) : fField false off sz (.agg cs) = cs[off]? := nrfl rfl
@[go_sem] theorem fField_agg (off sz : Nat) (cs : List AV) : fField true off sz (.agg cs) = some (.agg ((cs.drop off).take sz)) := nrfl rfl
def ixT (arr : Option Nat) (i : Option TI) (h : AHeap) (x j : AV) : Option AV := match i with
  | some i => fIndexAddr arr i.sz h x j
  | none => none
@[go_sem] theorem ixT_some (arr : Option Nat) (i : TI) (x j : AV) : ixT arr (some i) h x j = fIndexAddr arr i.sz h x j := nrfl rfl
def ixG (P : Program) (d : Option TypeDesc) (h : AHeap) (x j : AV) : Option AV := match d with
  | some (.slice e) => ixT none (tinfo P e) h x j
  | some (.array n e) => ixT (some n) (tinfo P e) h x j
  | _ => none
@[go_sem] theorem ixG_slice (e : TypeId) (x j : AV) : ixG P (some (.slice e)) h x j = ixT none (tinfo P e) h x j := nrfl rfl
@[go_sem] theorem ixG_array (n : Nat) (e : TypeId) (x j : AV) : ixG P (some (.array n e)) h x j = ixT (some n) (tinfo P e) h x j := nrfl rfl
@[go_sem] theorem S_indexAddr (t : TypeId) (x i : Operand) : S P (.indexAddr t x i) F h k = b1 (ixG P (P.underlying t) h (evG F x) (evG F i)) h k := by
  simp only [S, isCallV, aopE, ixG, ixT]
  cases P.underlying t with
  | none => rfl
  | some d => cases d <;> first | rfl | (simp only; cases tinfo P _ <;> first | rfl | exact b1_eq ..)
def iaT (n : Nat) (i : Option TI) (x j : AV) : Option AV := match i with
  | some i => fIndexArr i.ag n i.sz x j
  | none => none
@[go_sem] theorem iaT_some (n : Nat) (i : TI) (x j : AV) : iaT n (some i) x j = fIndexArr i.ag n i.sz x j := nrfl rfl
def inG (P : Program) (d : Option TypeDesc) (x j : AV) : Option AV := match d with
  | some .string => fIndexStr x j
  | some (.array n e) => iaT n (tinfo P e) x j
  | _ => none
@[go_sem] theorem inG_string (x j : AV) : inG P (some .string) x j = fIndexStr x j := nrfl rfl
@[go_sem] theorem inG_array (n : Nat) (e : TypeId) (x j : AV) : inG P (some (.array n e)) x j = iaT n (tinfo P e) x j := nrfl rfl
@[go_sem] theorem S_index (t : TypeId) (x i : Operand) : S P (.index t x i) F h k = b1 (inG P (P.underlying t) (evG F x) (evG F i)) h k := by
  simp only [S, isCallV, aopE, inG, iaT]
  cases P.underlying t with
  | none => rfl
  | some d => cases d <;> first | rfl | exact b1_eq .. | (simp only; cases tinfo P _ <;> first | rfl | exact b1_eq ..)
def luG (P : Program) (d : Option TypeDesc) (ok : Bool) (h : AHeap) (x i : AV) : Option AV := match d with
    | some (.map kt e) => match tinfo P e, keyK P kt with
      | some ie, some ks => fLookup ks ok ie.zv h x i
      | _, _ => none
    | _ => none
def luT (i : Option TI) (ks : Option Bool) (ok : Bool) (h : AHeap) (x j : AV) : Option AV := match i, ks with
  | some i, some ks => fLookup ks ok i.zv h x j
  | _, _ => none
@[go_sem] theorem luT_some (i : TI) (ks ok : Bool) (x j : AV) : luT (some i) (some ks) ok h x j = fLookup ks ok i.zv h x j := nrfl rfl
@[go_sem] theorem luG_map (kt e : TypeId) (ok : Bool) (x i : AV) : luG P (some (.map kt e)) ok h x i = luT (tinfo P e) (keyK P kt) ok h x i := by
  simp only [luG, luT]
@[go_sem] theorem S_lookup (t : TypeId) (x i : Operand) (ok : Bool) : S P (.lookup t x i ok) F h k = b1 (luG P (P.underlying t) ok h (evG F x) (evG F i)) h k := by
  simp only [S, isCallV, aopE, luG]
  cases P.underlying t with
  | none => rfl
  | some d =>
    cases d <;> try rfl
    simp only
    rename_i kt e
    cases tinfo P e with
    | none => rfl
    | some i => cases keyK P kt <;> first | rfl | exact b1_eq ..
def keyD : Option TypeDesc → Option Bool
  | some (.int _) => some false
  | some .string => some true
  | _ => none
@[go_sem] theorem keyK_eq (t : TypeId) : keyK P t = keyD (P.underlying t) := nrfl rfl
@[go_sem] theorem keyD_int (kd : IntKind) : keyD (some (.int kd)) = some false := nrfl rfl
@[go_sem] theorem keyD_string : keyD (some .string) = some true := nrfl rfl
def muT (ks : Option Bool) (h : AHeap) (m key v : AV) : Option AHeap := match ks with
  | some ks => fMapUpdate ks h m key v
  | none => none
@[go_sem] theorem muT_some (ks : Bool) (m key v : AV) : muT (some ks) h m key v = fMapUpdate ks h m key v := nrfl rfl
def muG (P : Program) (d : Option TypeDesc) (h : AHeap) (m key v : AV) : Option AHeap := match d with
  | some (.map kt _) => muT (keyK P kt) h m key v
  | _ => none
@[go_sem] theorem muG_map (kt e : TypeId) (m key v : AV) : muG P (some (.map kt e)) h m key v = muT (keyK P kt) h m key v := nrfl rfl
@[go_sem] theorem S_mapUpdate (t : TypeId) (m key x : Operand) : S P (.mapUpdate t m key x) F h k = bh (muG P (P.underlying t) h (evG F m) (evG F key) (evG F x)) k := by
  simp only [S, isCallV, aopE, muG, muT]
  cases P.underlying t with
  | none => rfl
  | some d => cases d <;> first | rfl | (simp only; cases keyK P _ <;> first | rfl | exact bh_eq ..)
@[go_sem] theorem S_extract (t : Operand) (j : Nat) : S P (.extract t j) F h k = b1 (fExtract (evG F t) j) h k := b1_eq ..
@[go_sem] theorem fExtract_zero (v : AV) (l : List AV) : fExtract (.tup (v :: l)) 0 = some v := nrfl rfl
@[go_sem] theorem fExtract_succ (v : AV) (l : List AV) (j : Nat) : fExtract (.tup (v :: l)) (j + 1) = fExtract (.tup l) j := by simp [fExtract]
/-! Calls -/
@[go_sem] theorem S_callf (g : FuncId) (args : List Operand) (ts : Array TypeId) : S P (.call ⟨.value (.func g), args.toArray, ts⟩) F h k = SC P g (args.map (evG F)) h k := by
  simp only [S, isCallV, calleeG, evG, List.append_nil]
def callV (P : Program) (f : AV) (as : List AV) (h : AHeap) (k : AV → AHeap → Prop) : Prop := match f with
  | .fn g caps => SC P g (as ++ caps) h k
  | _ => False
@[go_sem] theorem callV_fn (g : FuncId) (caps as : List AV) : callV P (.fn g caps) as h k = SC P g (as ++ caps) h k := nrfl rfl
@[go_sem] theorem S_callv (t : Nat) (args : List Operand) (ts : Array TypeId) : S P (.call ⟨.value (.tmp t), args.toArray, ts⟩) F h k = callV P (F t) (args.map (evG F)) h k := by
  simp only [S, isCallV, calleeG, evG, callV]
  cases F t <;> rfl
attribute [go_sem] List.cons_append List.nil_append
@[go_sem] theorem S_len (x : Operand) (t : TypeId) : S P (.call ⟨.builtin .len, List.toArray [x], List.toArray [t]⟩) F h k = b1 (fLen (lenK (P.underlying t)) h (evG F x)) h k := b1_eq ..
@[go_sem] theorem lenK_slice (e : TypeId) : lenK (some (.slice e)) = 1 := nrfl rfl
@[go_sem] theorem lenK_string : lenK (some .string) = 0 := nrfl rfl
@[go_sem] theorem lenK_map (kt e : TypeId) : lenK (some (.map kt e)) = 2 := nrfl rfl
@[go_sem] theorem fLen_str (s : List Int) : fLen 0 h (.str s) = some (.int .i64 s.length) := nrfl rfl
@[go_sem] theorem fLen_sl (b g i n : Nat) : fLen 1 h (.sl b g i n) = some (.int .i64 n) := nrfl rfl
@[go_sem] theorem fLen_nils : fLen 1 h .nils = some (.int .i64 0) := nrfl rfl
@[go_sem] theorem fLen_nilm : fLen 2 h .nilm = some (.int .i64 0) := nrfl rfl
def apT (i : Option TI) (h : AHeap) (s x : AV) : Option (AV × AHeap) := match i with
  | some i => if 0 < i.sz ∧ 0 < i.bytes ∧ i.zero.length = i.sz ∧ zeroOk i.zero = true then fAppend i.sz (140737488355328 / i.bytes) h s x else none
  | none => none
def isSeq : Option TypeDesc → Bool
  | some (.slice _) | some .string => true
  | _ => false
def apG (P : Program) (d d' : Option TypeDesc) (h : AHeap) (s x : AV) : Option (AV × AHeap) := match d with
  | some (.slice e) => if isSeq d' = true then apT (tinfo P e) h s x else none
  | _ => none
@[go_sem] theorem apG_ss (e e' : TypeId) (s x : AV) : apG P (some (.slice e)) (some (.slice e')) h s x = apT (tinfo P e) h s x := nrfl rfl
@[go_sem] theorem apG_st (e : TypeId) (s x : AV) : apG P (some (.slice e)) (some .string) h s x = apT (tinfo P e) h s x := nrfl rfl
@[go_sem] theorem S_append (s x : Operand) (t u : TypeId) : S P (.call ⟨.builtin .append, List.toArray [s, x], List.toArray [t, u]⟩) F h k = bind2 (apG P (P.underlying t) (P.underlying u) h (evG F s) (evG F x)) k := by
  simp only [S, isCallV, aopE, bltF]
  show bind2 (match P.underlying t, P.underlying u with
    | some (.slice e), some (.slice _) | some (.slice e), some .string => match tinfo P e with
      | some i => if 0 < i.sz ∧ 0 < i.bytes ∧ i.zero.length = i.sz ∧ zeroOk i.zero = true then fAppend i.sz (140737488355328 / i.bytes) h (evG F s) (evG F x) else none
      | none => none
    | _, _ => none) k = _
  congr 1
  unfold apG apT isSeq
  split <;> simp_all
  split <;> first | rfl | (split <;> simp_all)
def cpT (i : Option TI) (h : AHeap) (d x : AV) : Option (AV × AHeap) := match i with
  | some i => if 0 < i.sz then fCopy i.sz h d x else none
  | none => none
def cpG (P : Program) (d : Option TypeDesc) (h : AHeap) (s x : AV) : Option (AV × AHeap) := match d with
  | some (.slice e) => cpT (tinfo P e) h s x
  | _ => none
@[go_sem] theorem cpG_slice (e : TypeId) (s x : AV) : cpG P (some (.slice e)) h s x = cpT (tinfo P e) h s x := nrfl rfl
@[go_sem] theorem S_copy (d x : Operand) (t u : TypeId) : S P (.call ⟨.builtin .copy, List.toArray [d, x], List.toArray [t, u]⟩) F h k = bind2 (cpG P (P.underlying t) h (evG F d) (evG F x)) k := nrfl rfl
@[go_sem] theorem S_min (x : Operand) (xs : List Operand) (ts : Array TypeId) : S P (.call ⟨.builtin .min, List.toArray (x :: xs), ts⟩) F h k = b1 (fold2 min2 (evG F x) (xs.map (evG F))) h k := b1_eq ..
@[go_sem] theorem S_max (x : Operand) (xs : List Operand) (ts : Array TypeId) : S P (.call ⟨.builtin .max, List.toArray (x :: xs), ts⟩) F h k = b1 (fold2 max2 (evG F x) (xs.map (evG F))) h k := b1_eq ..
@[go_sem] theorem fold2_nil (g : AV → AV → Option AV) (x : AV) : fold2 g x [] = some x := nrfl rfl
@[go_sem] theorem fold2_cons (g : AV → AV → Option AV) (x y : AV) (r : List AV) : fold2 g x (y :: r) = (match g x y with
    | some z => fold2 g z r
    | none => none) := nrfl rfl
attribute [go_sem] min2 max2
def bdG (P : Program) (i : Option TI) (d : Option TypeDesc) (parts : List (Nat × AV)) : Option AV := match i, d with
    | some i, some (.struct fs) => if zeroOk i.zero = false then none else match fs.toList.mapM (fun f => (P.info? f.type).map fun i => (f.offset, i.size)) with
      | some places => (fillA (fun j => places[j]?) i.zero parts).map .agg
      | none => none
    | some i, some (.array _ e) => if zeroOk i.zero = false then none else match tinfo P e with
      | some ie => (fillA (fun j => some (j * ie.sz, ie.sz)) i.zero parts).map .agg
      | none => none
    | _, _ => none
/-- A struct (or an array) of parts. -/
def bdQ (P : Program) (t : TypeId) (parts : List (Nat × AV)) : Option AV := bdG P (tinfo P t) (P.underlying t) parts
@[go_sem] theorem S_build (t : TypeId) (parts : List (Nat × Operand)) : S P (.build t parts.toArray) F h k = b1 (bdQ P t (parts.map fun p => (p.1, evG F p.2))) h k := by
  simp only [S, isCallV, aopE, bdQ, bdG]
  rw [← b1_eq]
  congr 1
  cases tinfo P t with
  | none => cases P.underlying t <;> rfl
  | some i =>
    cases P.underlying t with
    | none => rfl
    | some d =>
      cases d <;> try rfl
      · simp only
        split
        · rfl
        · cases tinfo P _ <;> rfl
      · simp only
        split
        · rfl
        · cases List.mapM (fun f : Field => (P.info? f.type).map fun i => (f.offset, i.size)) _ <;> rfl
def bsT (i : Option TI) (len : Nat) (h : AHeap) (parts : List (Nat × AV)) : Option (AV × AHeap) := match i with
      | some i => if 0 < i.sz ∧ len * i.sz ≤ 16777216 ∧ i.zero.length = i.sz ∧ zeroOk i.zero = true then
          (fillA (fun j => some (j * i.sz, i.sz)) (List.replicate len i.zero).flatten parts).bind fun cs =>
            if cs.all AV.isCell = true then some (fNewSl i.sz (chunk i.sz len cs) h) else none
          else none
      | none => none
def bsG (P : Program) (d : Option TypeDesc) (len : Nat) (h : AHeap) (parts : List (Nat × AV)) : Option (AV × AHeap) := match d with
  | some (.slice e) => bsT (tinfo P e) len h parts
  | _ => none
@[go_sem] theorem bsG_slice (e : TypeId) (len : Nat) (parts : List (Nat × AV)) : bsG P (some (.slice e)) len h parts = bsT (tinfo P e) len h parts := nrfl rfl
@[go_sem] theorem S_buildSlice (t : TypeId) (len : Nat) (parts : List (Nat × Operand)) : S P (.buildSlice t len parts.toArray) F h k = bind2 (bsG P (P.underlying t) len h (parts.map fun p => (p.1, evG F p.2))) k := by
  simp only [S, isCallV, aopE, bsG, bsT]
  cases P.underlying t with
  | none => rfl
  | some d => cases d <;> rfl
@[go_sem] theorem S_makeInterface (t : TypeId) (x : Operand) (d : TypeDesc) (hd : P.underlying t = some d) (hi : (match d with | .interface _ => false | _ => true) = true) : S P (.makeInterface t x) F h k = k .unk h := by
  simp only [S, isCallV, aopE, hd]
  cases d <;> first | rfl | cases hi
end
/-! Values -/
@[go_sem] theorem fBin_int (op : BinOp) (fl : Option (List Nat)) (nl : Nat) (kd : IntKind) (a b : Int) : fBin op fl nl (.int kd a) (.int kd b) = intBin op kd a b := by simp [fBin]
@[go_sem] theorem fBin_shr (fl : Option (List Nat)) (nl : Nat) (kd kd' : IntKind) (a b : Int) : fBin .shr fl nl (.int kd a) (.int kd' b) = intBin .shr kd a b := by simp [fBin, isShift]
@[go_sem] theorem fBin_shl (fl : Option (List Nat)) (nl : Nat) (kd kd' : IntKind) (a b : Int) : fBin .shl fl nl (.int kd a) (.int kd' b) = intBin .shl kd a b := by simp [fBin, isShift]
@[go_sem] theorem fBin_str (op : BinOp) (fl : Option (List Nat)) (nl : Nat) (a b : List Int) : fBin op fl nl (.str a) (.str b) = strBin op a b := nrfl rfl
@[go_sem] theorem fBin_nil1 (op : BinOp) (fl : Option (List Nat)) (b g i f : Nat) : fBin op fl 1 (.ptr b g i f) .nilp = asEq op false := nrfl rfl
@[go_sem] theorem fBin_nil2 (op : BinOp) (fl : Option (List Nat)) : fBin op fl 1 .nilp .nilp = asEq op true := nrfl rfl
@[go_sem] theorem fBin_nil3 (op : BinOp) (fl : Option (List Nat)) (b g i n : Nat) : fBin op fl 2 (.sl b g i n) .nils = asEq op false := nrfl rfl
@[go_sem] theorem fBin_nil4 (op : BinOp) (fl : Option (List Nat)) : fBin op fl 2 .nils .nils = asEq op true := nrfl rfl
@[go_sem] theorem fBin_bool (op : BinOp) (fl : Option (List Nat)) (a b : Bool) : fBin op fl 3 (.bool a) (.bool b) = asEq op (a == b) := nrfl rfl
@[go_sem] theorem fBin_agg (op : BinOp) (ks : List Nat) (nl : Nat) (a b : List AV) : fBin op (some ks) nl (.agg a) (.agg b) = (sameCells ks a b).bind (asEq op) := nrfl rfl
attribute [go_sem] asEq
section
variable (kd : IntKind) (a b : Int)
@[go_sem] theorem intBin_add : intBin .add kd a b = some (.int kd (kd.wrap (a + b))) := nrfl rfl
@[go_sem] theorem intBin_sub : intBin .sub kd a b = some (.int kd (kd.wrap (a - b))) := nrfl rfl
@[go_sem] theorem intBin_mul : intBin .mul kd a b = some (.int kd (kd.wrap (a * b))) := nrfl rfl
@[go_sem] theorem intBin_quo : intBin .quo kd a b = if b = 0 then none else some (.int kd (kd.wrap (a.tdiv b))) := nrfl rfl
@[go_sem] theorem intBin_rem : intBin .rem kd a b = if b = 0 then none else some (.int kd (a.tmod b)) := nrfl rfl
@[go_sem] theorem intBin_and : intBin .and kd a b = some (.int kd (aBits .and kd a b)) := nrfl rfl
@[go_sem] theorem intBin_or : intBin .or kd a b = some (.int kd (aBits .or kd a b)) := nrfl rfl
@[go_sem] theorem intBin_xor : intBin .xor kd a b = some (.int kd (aBits .xor kd a b)) := nrfl rfl
@[go_sem] theorem intBin_andNot : intBin .andNot kd a b = some (.int kd (aBits .andNot kd a b)) := nrfl rfl
@[go_sem] theorem intBin_eql : intBin .eql kd a b = some (.bool (decide (a = b))) := nrfl rfl
@[go_sem] theorem intBin_neq : intBin .neq kd a b = some (.bool (decide (a ≠ b))) := by
  simp only [intBin, bne, BEq.beq]
  by_cases h : a = b <;> simp [h]
@[go_sem] theorem intBin_lss : intBin .lss kd a b = some (.bool (decide (a < b))) := nrfl rfl
@[go_sem] theorem intBin_leq : intBin .leq kd a b = some (.bool (decide (a ≤ b))) := nrfl rfl
@[go_sem] theorem intBin_gtr : intBin .gtr kd a b = some (.bool (decide (b < a))) := nrfl rfl
@[go_sem] theorem intBin_geq : intBin .geq kd a b = some (.bool (decide (b ≤ a))) := nrfl rfl
@[go_sem] theorem intBin_shl : intBin .shl kd a b = if b < 0 then none else some (.int kd (kd.wrap (a * 2 ^ min b.toNat kd.bits))) := nrfl rfl
@[go_sem] theorem intBin_shr : intBin .shr kd a b = if b < 0 then none else some (.int kd (a.fdiv (2 ^ min b.toNat kd.bits))) := nrfl rfl
end
@[go_sem] theorem strBin_eql (a b : List Int) : strBin .eql a b = some (.bool (a == b)) := nrfl rfl
@[go_sem] theorem strBin_neq (a b : List Int) : strBin .neq a b = some (.bool (!(a == b))) := nrfl rfl
@[go_sem] theorem fUn_not (b : Bool) : fUn .not (.bool b) = some (.bool (!b)) := nrfl rfl
@[go_sem] theorem fUn_neg (kd : IntKind) (n : Int) : fUn .neg (.int kd n) = some (.int kd (kd.wrap (0 - n))) := nrfl rfl
@[go_sem] theorem fPick_t (x y : AV) : fPick (.bool true) x y = some x := by
  simp only [fPick, pickV]
  split <;> simp_all
@[go_sem] theorem fPick_f (x y : AV) : fPick (.bool false) x y = some y := by
  simp only [fPick, pickV]
  split <;> simp_all
@[go_sem] theorem fPick_b (c x y : Bool) : fPick (.bool c) (.bool x) (.bool y) = some (.bool (cond c x y)) := nrfl rfl
@[go_sem] theorem fNilCheck_ptr (b g i f : Nat) : fNilCheck (.ptr b g i f) = some (.ptr b g i f) := nrfl rfl
@[go_sem] theorem fNilCheck_fn (g : FuncId) (cs : List AV) : fNilCheck (.fn g cs) = some (.fn g cs) := nrfl rfl

attribute [go_sem] cond_true cond_false
/-! What simp is to leave alone. -/
theorem b1_congr {o o' : Option AV} {h : AHeap} {k : AV → AHeap → Prop} (e : o = o') : b1 o h k = b1 o' h k := by rw [e]
theorem bh_congr {o o' : Option AHeap} {k : AV → AHeap → Prop} (e : o = o') : bh o k = bh o' k := by rw [e]
theorem bind2_congr {o o' : Option (AV × AHeap)} {k : AV → AHeap → Prop} (e : o = o') : bind2 o k = bind2 o' k := by rw [e]
theorem ifB_congr {b b' : Bool} {A B : Prop} (e : b = b') : ifB b A B = ifB b' A B := by rw [e]
theorem cndX_congr {v v' : AV} {A B : Prop} (e : v = v') : cndX v A B = cndX v' A B := by rw [e]
theorem gsel_congr {v v' : AV} {w : Bool} {A B : Prop} (e : v = v') : gsel v w A B = gsel v' w A B := by rw [e]
theorem gselO_congr {F : FF} {d d' : Option Tmp} {w : Bool} {A B : Prop} (e : d = d') : gselO F d w A B = gselO F d' w A B := by rw [e]
theorem callV_congr {f f' : AV} {as as' : List AV} {h : AHeap} {k : AV → AHeap → Prop} (e : f = f') (e2 : as = as') : callV P f as h k = callV P f' as' h k := by rw [e, e2]
theorem SC_congr {g : FuncId} {as as' : List AV} {h : AHeap} {k : AV → AHeap → Prop} (e : as = as') : SC P g as h k = SC P g as' h k := by rw [e]
theorem xAt_congr {l : List Oper} {o o' : Option Oper} {m : XM} {i : Nat} {r : Sch} {pend : Pend} {F : FF} {h : AHeap} {k : KF} (e : o = o') : xAt P l o m i r pend F h k = xAt P l o' m i r pend F h k := by rw [e]
theorem X_congr {c : Code} {F : FF} {h : AHeap} {k : KX} : X P c F h k = X P c F h k := nrfl rfl
theorem RG_congr {ops : Array Oper} {l : List Oper} {F : FF} {h : AHeap} {k : KF} : RG P ops l F h k = RG P ops l F h k := nrfl rfl
theorem XS_congr {ops : Array Oper} {s : Sch} {pend : Pend} {F : FF} {h : AHeap} {k : KF} : XS P ops s pend F h k = XS P ops s pend F h k := nrfl rfl
theorem S_congr {op : Op} {F : FF} {h : AHeap} {k : AV → AHeap → Prop} : S P op F h k = S P op F h k := nrfl rfl
theorem evG_congr {F : FF} {x : Operand} : evG F x = evG F x := nrfl rfl
theorem rgK_congr {l r : List Oper} {d : Option Tmp} {F : FF} {k : KF} {v v' : AV} {h : AHeap} (e : v = v') : rgK P l r d F k v h = rgK P l r d F k v' h := by rw [e]
theorem xsK_congr {l : List Oper} {r : Sch} {pend : Pend} {d : Option Tmp} {F : FF} {k : KF} {v v' : AV} {h : AHeap} (e : v = v') : xsK P l r pend d F k v h = xsK P l r pend d F k v' h := by rw [e]
theorem xqK_congr {l : List Oper} {r : Sch} {i : Nat} {op : Op} {pend : Pend} {d : Option Tmp} {F : FF} {k : KF} {v v' : AV} {h : AHeap} (e : v = v') : xqK P l r i op pend d F k v h = xqK P l r i op pend d F k v' h := by rw [e]
theorem xcK_congr {l : List Oper} {r : Sch} {chk : List Nat} {pend : Pend} {d : Option Tmp} {F : FF} {k : KF} {v v' : AV} {h : AHeap} (e : v = v') : xcK P l r chk pend d F k v h = xcK P l r chk pend d F k v' h := by rw [e]
attribute [congr] b1_congr bh_congr bind2_congr ifB_congr cndX_congr gsel_congr gselO_congr callV_congr SC_congr xAt_congr rgK_congr xsK_congr xqK_congr xcK_congr X_congr RG_congr XS_congr S_congr
end Go.AM
/- What memory holds. -/
namespace Go.AM
open Go Go.RowKit
set_option linter.unusedVariables false
set_option linter.unusedSimpArgs false

/-! ### What stays -/
/-- But for the blocks that S names, and new ones, all is as it was. -/
structure HK (S : Nat → Prop) (h h' : AHeap) : Prop where
  n : h.n ≤ h'.n
  m : ∀ b, b < h.n → ¬ S b → h'.m b = h.m b
def no : Nat → Prop := fun _ => False
theorem HK.refl (S : Nat → Prop) (h : AHeap) : HK S h h := ⟨Nat.le_refl _, fun _ _ _ => rfl⟩
theorem HK.trans {S : Nat → Prop} {a b c : AHeap} (x : HK S a b) (y : HK S b c) : HK S a c :=
  ⟨Nat.le_trans x.n y.n, fun i hi hs => (y.m i (Nat.lt_of_lt_of_le hi x.n) hs).trans (x.m i hi hs)⟩
/-- Blocks that were made since count for nothing. -/
theorem HK.trans' {S T : Nat → Prop} {a b c : AHeap} (x : HK S a b) (y : HK T b c) (hT : ∀ i, i < a.n → T i → S i) : HK S a c :=
  ⟨Nat.le_trans x.n y.n, fun i hi hs => (y.m i (Nat.lt_of_lt_of_le hi x.n) (fun ht => hs (hT i hi ht))).trans (x.m i hi hs)⟩
theorem HK.no_trans {S : Nat → Prop} {a b c : AHeap} (x : HK S a b) (y : HK no b c) : HK S a c := x.trans' y (fun _ _ h => h.elim)
theorem HK.mono {S T : Nat → Prop} {a b : AHeap} (x : HK S a b) (h : ∀ i, i < a.n → S i → T i) : HK T a b := ⟨x.n, fun i hi ht => x.m i hi (fun hs => ht (h i hi hs))⟩
theorem HK.push {S : Nat → Prop} {a b : AHeap} (x : HK S a b) (o : AObj) : HK S a (b.push o) :=
  ⟨Nat.le_trans x.n (Nat.le_succ _), fun i hi hs => by
    have h1 := x.m i hi hs
    have h2 := x.n
    simp only [AHeap.push]
    rw [if_neg (by omega), h1]⟩
theorem HK.set {S : Nat → Prop} {a b : AHeap} (x : HK S a b) {i : Nat} (o : AObj) (hi : a.n ≤ i ∨ S i) : HK S a (b.set i o) :=
  ⟨x.n, fun j hj hs => by
    have h1 := x.m j hj hs
    simp only [AHeap.set]
    rw [if_neg (fun e => by
      rcases hi with hi | hi
      · omega
      · subst e; exact hs hi), h1]⟩
@[go_sem] theorem push_n (h : AHeap) (o : AObj) : (h.push o).n = h.n + 1 := nrfl rfl
@[go_sem] theorem set_n (h : AHeap) (b : Nat) (o : AObj) : (h.set b o).n = h.n := nrfl rfl
theorem push_m (h : AHeap) (o : AObj) (i : Nat) : (h.push o).m i = if i = h.n then some o else h.m i := rfl
theorem set_m (h : AHeap) (b : Nat) (o : AObj) (i : Nat) : (h.set b o).m i = if i = b then some o else h.m i := rfl
theorem push_at (h : AHeap) (o : AObj) : (h.push o).m h.n = some o := if_pos rfl
theorem set_eq (h : AHeap) (b : Nat) (o : AObj) : (h.set b o).m b = some o := if_pos rfl

/-! ### Slices -/
/-- The block of a value. -/
def inV (v : AV) (b : Nat) : Prop := match v with
  | .sl c _ _ _ => b = c
  | .ptr c _ _ _ => b = c
  | .map c => b = c
  | _ => False
/-- v is a slice of elements of so many cells, that reads as es. -/
def SlP (sz : Nat) (h : AHeap) (v : AV) (es : List (List AV)) : Prop :=
  (v = .nils ∧ es = []) ∨ ∃ b g i B, v = .sl b g i es.length ∧ h.m b = some (.blk B) ∧ b < h.n ∧ B.sgen ≤ g ∧ B.esz = sz ∧ (B.cells.drop i).take es.length = es
def adr (v : AV) (j off : Nat) : AV := match v with
  | .sl b g i _ => .ptr b g (i + j) off
  | _ => .nilp
def subv (v : AV) (lo hi : Nat) : AV := match v with
  | .sl b g i _ => .sl b g (i + lo) (hi - lo)
  | _ => .nils
section
variable {sz : Nat} {h : AHeap} {v : AV} {es : List (List AV)}
theorem SlP.nil (sz : Nat) (h : AHeap) : SlP sz h .nils [] := .inl ⟨rfl, rfl⟩
theorem SlP.keep {S : Nat → Prop} {h' : AHeap} (H : SlP sz h v es) (k : HK S h h') (hs : ∀ b, b < h.n → inV v b → ¬ S b) : SlP sz h' v es := by
  rcases H with H | ⟨b, g, i, B, rfl, hB, hb, h1, h2, h3⟩
  · exact .inl H
  · exact .inr ⟨b, g, i, B, rfl, by rw [k.m b hb (hs b hb rfl)]; exact hB, Nat.lt_of_lt_of_le hb k.n, h1, h2, h3⟩
theorem SlP.keep0 {h' : AHeap} (H : SlP sz h v es) (k : HK no h h') : SlP sz h' v es := H.keep k (fun _ _ _ h => h)
theorem SlP.lt (H : SlP sz h v es) {b : Nat} (hb : inV v b) : b < h.n := by
  rcases H with ⟨rfl, _⟩ | ⟨b', g, i, B, rfl, hB, hlt, _⟩
  · exact hb.elim
  · exact (show b = b' from hb) ▸ hlt
theorem SlP.len (H : SlP sz h v es) : fLen 1 h v = some (.int .i64 es.length) := by
  rcases H with ⟨rfl, rfl⟩ | ⟨b, g, i, B, rfl, _⟩ <;> rfl
theorem SlP.ix (H : SlP sz h v es) (kd : IntKind) {j : Int} (h0 : 0 ≤ j) (h1 : j < es.length) : fIndexAddr none sz h v (.int kd j) = some (adr v j.toNat 0) := by
  rcases H with ⟨rfl, rfl⟩ | ⟨b, g, i, B, rfl, hB, hb, h2, h3, h4⟩
  · simp at h1; omega
  · simp only [fIndexAddr, AHeap.esz, hB, h3, adr]
    rw [if_pos ⟨by trivial, h0, h1⟩]
theorem SlP.ixn (H : SlP sz h v es) (kd : IntKind) {j : Nat} (h1 : j < es.length) : fIndexAddr none sz h v (.int kd (j : Int)) = some (adr v j 0) := by
  rw [H.ix kd (by omega) (by omega)]; rfl
theorem SlP.get (H : SlP sz h v es) {j : Nat} (hj : j < es.length) {off n : Nat} (hn : off + n ≤ (es[j]'hj).length) : h.getA (adr v j off) n = some (((es[j]'hj).drop off).take n) := by
  rcases H with ⟨rfl, rfl⟩ | ⟨b, g, i, B, rfl, hB, hb, h2, h3, h4⟩
  · simp at hj
  · simp only [adr, AHeap.getA, AHeap.get, hB, Blk.get]
    rw [if_pos h2]
    have e1 : B.cells[i + j]? = some (es[j]'hj) := by
      have : es[j]? = some (es[j]'hj) := List.getElem?_eq_getElem hj
      rw [← this]
      conv => rhs; rw [← h4]
      rw [List.getElem?_take, if_pos hj, List.getElem?_drop]
    rw [e1]
    simp only
    rw [if_pos hn]
theorem SlP.ld1 (H : SlP sz h v es) {j : Nat} (hj : j < es.length) {off : Nat} {c : AV} (hc : (es[j]'hj)[off]? = some c) : fLoad false 1 h (adr v j off) = some c := by
  have hlt : off < (es[j]'hj).length := by
    rcases Nat.lt_or_ge off (es[j]'hj).length with h | h
    · exact h
    · rw [List.getElem?_eq_none h] at hc; cases hc
  unfold fLoad
  rw [H.get hj (off := off) (n := 1) (by omega)]
  simp only
  rw [List.getElem?_eq_getElem hlt] at hc
  cases hc
  rw [List.drop_eq_getElem_cons hlt]
  rfl
theorem SlP.ldA (H : SlP sz h v es) {j : Nat} (hj : j < es.length) {off n : Nat} (hn : off + n ≤ (es[j]'hj).length) : fLoad true n h (adr v j off) = some (.agg (((es[j]'hj).drop off).take n)) := by
  unfold fLoad
  rw [H.get hj hn]
theorem SlP.elems (H : SlP sz h v es) : elems sz h v = some es := by
  rcases H with ⟨rfl, rfl⟩ | ⟨b, g, i, B, rfl, hB, hb, h2, h3, h4⟩
  · rfl
  · simp only [AM.elems, hB]
    rw [if_pos ⟨h3, h2⟩, h4]
theorem SlP.sub (H : SlP sz h v es) {lo hi : Nat} (h1 : lo ≤ hi) (h2 : hi ≤ es.length) : SlP sz h (subv v lo hi) ((es.take hi).drop lo) := by
  rcases H with ⟨rfl, rfl⟩ | ⟨b, g, i, B, rfl, hB, hb, h3, h4, h5⟩
  · simp only [subv, List.take_nil, List.drop_nil]; exact .nil ..
  · have e1 : ((es.take hi).drop lo).length = hi - lo := by simp; omega
    refine .inr ⟨b, g, i + lo, B, by rw [e1]; rfl, hB, hb, h3, h4, ?_⟩
    rw [e1, ← List.drop_drop]
    have : es.take hi = ((B.cells.drop i).take es.length).take hi := by rw [h5]
    rw [this, List.take_take, Nat.min_eq_left h2, List.drop_take]
theorem SlP.slice (H : SlP sz h v es) {lo hi : Nat} (h1 : lo ≤ hi) (h2 : hi ≤ es.length) (k k' : IntKind) : fSlice sz h v (some (.int k lo)) (some (.int k' hi)) none = some (subv v lo hi) := by
  rcases H with ⟨rfl, rfl⟩ | ⟨b, g, i, B, rfl, hB, hb, h3, h4, h5⟩
  · simp at h2
    subst h2
    have : lo = 0 := by omega
    subst this
    rfl
  · simp only [fSlice, bounds, bound, subv]
    simp [AHeap.esz, hB, h4, maxOk, h1, h2]
theorem SlP.slice_lo (H : SlP sz h v es) {lo : Nat} (h1 : lo ≤ es.length) (k : IntKind) : fSlice sz h v (some (.int k lo)) none none = some (subv v lo es.length) := by
  rcases H with ⟨rfl, rfl⟩ | ⟨b, g, i, B, rfl, hB, hb, h3, h4, h5⟩
  · simp at h1
    subst h1
    rfl
  · simp only [fSlice, bounds, bound, subv]
    simp [AHeap.esz, hB, h4, maxOk, h1]
theorem SlP.slice_hi (H : SlP sz h v es) {hi : Nat} (h2 : hi ≤ es.length) (k' : IntKind) : fSlice sz h v none (some (.int k' hi)) none = some (subv v 0 hi) := by
  rcases H with ⟨rfl, rfl⟩ | ⟨b, g, i, B, rfl, hB, hb, h3, h4, h5⟩
  · simp at h2
    subst h2
    rfl
  · simp only [fSlice, bounds, bound, subv]
    simp [AHeap.esz, hB, h4, maxOk, h2]
theorem SlP.slice_hi3 (H : SlP sz h v es) {hi : Nat} (h2 : hi ≤ es.length) (k' k'' : IntKind) : fSlice sz h v none (some (.int k' hi)) (some (.int k'' hi)) = some (subv v 0 hi) := by
  rcases H with ⟨rfl, rfl⟩ | ⟨b, g, i, B, rfl, hB, hb, h3, h4, h5⟩
  · simp at h2
    subst h2
    rfl
  · simp only [fSlice, bounds, bound, subv]
    simp [AHeap.esz, hB, h4, maxOk, h2]
theorem inV_subv {lo hi b : Nat} (H : inV (subv v lo hi) b) : inV v b := by
  unfold subv at H
  split at H
  · exact H
  · exact H.elim
end
/-! Of one cell each. -/
def Sl1 {α : Type} (f : α → AV) (h : AHeap) (v : AV) (l : List α) : Prop := SlP 1 h v (l.map fun a => [f a])
section
variable {α : Type} {f : α → AV} {h : AHeap} {v : AV} {l : List α}
theorem Sl1.nil (f : α → AV) (h : AHeap) : Sl1 f h .nils [] := SlP.nil 1 h
theorem Sl1.keep {S : Nat → Prop} {h' : AHeap} (H : Sl1 f h v l) (k : HK S h h') (hs : ∀ b, b < h.n → inV v b → ¬ S b) : Sl1 f h' v l := SlP.keep H k hs
theorem Sl1.keep0 {h' : AHeap} (H : Sl1 f h v l) (k : HK no h h') : Sl1 f h' v l := SlP.keep0 H k
theorem Sl1.lt (H : Sl1 f h v l) {b : Nat} (hb : inV v b) : b < h.n := SlP.lt H hb
theorem Sl1.len (H : Sl1 f h v l) : fLen 1 h v = some (.int .i64 l.length) := by
  have := SlP.len H
  rw [List.length_map] at this
  exact this
theorem Sl1.ix (H : Sl1 f h v l) (kd : IntKind) {j : Int} (h0 : 0 ≤ j) (h1 : j < l.length) : fIndexAddr none 1 h v (.int kd j) = some (adr v j.toNat 0) := SlP.ix H kd h0 (by simpa using h1)
theorem Sl1.ixn (H : Sl1 f h v l) (kd : IntKind) {j : Nat} (h1 : j < l.length) : fIndexAddr none 1 h v (.int kd (j : Int)) = some (adr v j 0) := SlP.ixn H kd (by simpa using h1)
theorem Sl1.ld (H : Sl1 f h v l) {j : Nat} (hj : j < l.length) : fLoad false 1 h (adr v j 0) = some (f (l[j]'hj)) := SlP.ld1 H (by simpa using hj) (by simp)
theorem Sl1.ldI (H : Sl1 f h v l) {j : Int} (h0 : 0 ≤ j) (hj : j.toNat < l.length) : fLoad false 1 h (adr v j.toNat 0) = some (f (l[j.toNat]'hj)) := H.ld hj
theorem Sl1.elems (H : Sl1 f h v l) : elems 1 h v = some (l.map fun a => [f a]) := SlP.elems H
theorem Sl1.sub (H : Sl1 f h v l) {lo hi : Nat} (h1 : lo ≤ hi) (h2 : hi ≤ l.length) : Sl1 f h (subv v lo hi) ((l.take hi).drop lo) := by
  have := SlP.sub H h1 (by simpa using h2)
  unfold Sl1
  rw [List.map_drop, List.map_take]
  exact this
theorem Sl1.slice (H : Sl1 f h v l) {lo hi : Nat} (h1 : lo ≤ hi) (h2 : hi ≤ l.length) (k k' : IntKind) : fSlice 1 h v (some (.int k lo)) (some (.int k' hi)) none = some (subv v lo hi) := SlP.slice H h1 (by simpa using h2) k k'
theorem Sl1.slice_lo (H : Sl1 f h v l) {lo : Nat} (h1 : lo ≤ l.length) (k : IntKind) : fSlice 1 h v (some (.int k lo)) none none = some (subv v lo l.length) := by
  have := SlP.slice_lo H (lo := lo) (by simpa using h1) k
  rw [List.length_map] at this
  exact this
theorem Sl1.slice_hi (H : Sl1 f h v l) {hi : Nat} (h2 : hi ≤ l.length) (k' : IntKind) : fSlice 1 h v none (some (.int k' hi)) none = some (subv v 0 hi) := SlP.slice_hi H (by simpa using h2) k'
theorem Sl1.slice_hi3 (H : Sl1 f h v l) {hi : Nat} (h2 : hi ≤ l.length) (k' k'' : IntKind) : fSlice 1 h v none (some (.int k' hi)) (some (.int k'' hi)) = some (subv v 0 hi) := SlP.slice_hi3 H (by simpa using h2) k' k''
end
abbrev Byt := Sl1 (AV.int .u8)
abbrev Ints := Sl1 (AV.int .i64)

/-! ### Own slices -/
/-- A slice that may grow: its block is its own, and not older than m. -/
def Own (m sz : Nat) (h : AHeap) (v : AV) (es : List (List AV)) : Prop :=
  (v = .nils ∧ es = []) ∨ ∃ b g sg, v = .sl b g 0 es.length ∧ h.m b = some (.blk ⟨sz, es, g, sg, false⟩) ∧ m ≤ b ∧ b < h.n ∧ sg ≤ g
section
variable {m sz : Nat} {h : AHeap} {v : AV} {es : List (List AV)}
theorem Own.nil (m sz : Nat) (h : AHeap) : Own m sz h .nils [] := .inl ⟨rfl, rfl⟩
theorem Own.sl (H : Own m sz h v es) : SlP sz h v es := by
  rcases H with H | ⟨b, g, sg, rfl, hB, _, hb, hg⟩
  · exact .inl H
  · exact .inr ⟨b, g, 0, _, rfl, hB, hb, hg, rfl, by simp⟩
theorem Own.keep {S : Nat → Prop} {h' : AHeap} (H : Own m sz h v es) (k : HK S h h') (hs : ∀ b, b < h.n → inV v b → ¬ S b) : Own m sz h' v es := by
  rcases H with H | ⟨b, g, sg, rfl, hB, hm, hb, hg⟩
  · exact .inl H
  · exact .inr ⟨b, g, sg, rfl, by rw [k.m b hb (hs b hb rfl)]; exact hB, hm, Nat.lt_of_lt_of_le hb k.n, hg⟩
theorem Own.keep0 {h' : AHeap} (H : Own m sz h v es) (k : HK no h h') : Own m sz h' v es := H.keep k (fun _ _ _ h => h)
theorem Own.ge (H : Own m sz h v es) {b : Nat} (hb : inV v b) : m ≤ b := by
  rcases H with ⟨rfl, _⟩ | ⟨b', g, sg, rfl, hB, hm, _⟩
  · exact hb.elim
  · exact (show b = b' from hb) ▸ hm
theorem Own.weak {m' : Nat} (H : Own m sz h v es) (hm : m' ≤ m) : Own m' sz h v es := by
  rcases H with H | ⟨b, g, sg, rfl, hB, h1, h2, h3⟩
  · exact .inl H
  · exact .inr ⟨b, g, sg, rfl, hB, Nat.le_trans hm h1, h2, h3⟩
theorem Own.app (H : Own m sz h v es) (hm : m ≤ h.n) {x : AV} {es' : List (List AV)} (hx : elems sz h x = some es') {lim : Nat} (hl : es.length + es'.length ≤ lim) :
    ∃ v' h', fAppend sz lim h v x = some (v', h') ∧ Own m sz h' v' (es ++ es') ∧ HK (inV v) h h' ∧ (∀ b, inV v' b → inV v b ∨ b = h.n) := by
  unfold fAppend
  rw [hx]
  simp only
  rcases H with ⟨rfl, rfl⟩ | ⟨b, g, sg, rfl, hB, h1, h2, h3⟩
  · simp only
    by_cases e : es'.length = 0
    · rw [if_pos e]
      have : es' = [] := List.eq_nil_of_length_eq_zero e
      subst this
      exact ⟨_, _, rfl, .nil .., .refl .., fun b hb => .inl hb⟩
    · rw [if_neg e, if_pos (by simpa using hl)]
      exact ⟨_, _, rfl, .inr ⟨h.n, 0, 0, rfl, push_at .., hm, Nat.lt_succ_self _, Nat.le_refl _⟩, (HK.refl _ h).push _, fun b hb => .inr hb⟩
  · simp only
    by_cases e : es'.length = 0
    · rw [if_pos e]
      have : es' = [] := List.eq_nil_of_length_eq_zero e
      subst this
      rw [List.append_nil]
      exact ⟨_, _, rfl, .inr ⟨b, g, sg, rfl, hB, h1, h2, h3⟩, .refl .., fun b hb => .inl hb⟩
    · rw [if_neg e, hB]
      simp only
      rw [if_pos ⟨by trivial, by trivial, by trivial, by trivial, hl⟩]
      refine ⟨_, _, rfl, .inr ⟨b, g + 1, sg, by simp, ?_, h1, h2, by omega⟩, (HK.refl _ h).set _ (.inr rfl), fun b hb => .inl hb⟩
      rw [set_eq]
      simp [Blk.app]
end
def Own1 {α : Type} (f : α → AV) (m : Nat) (h : AHeap) (v : AV) (l : List α) : Prop := Own m 1 h v (l.map fun a => [f a])
section
variable {α : Type} {f : α → AV} {m : Nat} {h : AHeap} {v : AV} {l : List α}
theorem Own1.nil (f : α → AV) (m : Nat) (h : AHeap) : Own1 f m h .nils [] := Own.nil m 1 h
theorem Own1.sl (H : Own1 f m h v l) : Sl1 f h v l := Own.sl H
theorem Own1.keep {S : Nat → Prop} {h' : AHeap} (H : Own1 f m h v l) (k : HK S h h') (hs : ∀ b, b < h.n → inV v b → ¬ S b) : Own1 f m h' v l := Own.keep H k hs
theorem Own1.keep0 {h' : AHeap} (H : Own1 f m h v l) (k : HK no h h') : Own1 f m h' v l := Own.keep0 H k
theorem Own1.ge (H : Own1 f m h v l) {b : Nat} (hb : inV v b) : m ≤ b := Own.ge H hb
theorem Own1.weak {m' : Nat} (H : Own1 f m h v l) (hm : m' ≤ m) : Own1 f m' h v l := Own.weak H hm
theorem Own1.app (H : Own1 f m h v l) (hm : m ≤ h.n) {x : AV} {l' : List α} (hx : elems 1 h x = some (l'.map fun a => [f a])) {lim : Nat} (hl : l.length + l'.length ≤ lim) :
    ∃ v' h', fAppend 1 lim h v x = some (v', h') ∧ Own1 f m h' v' (l ++ l') ∧ HK (inV v) h h' ∧ (∀ b, inV v' b → inV v b ∨ b = h.n) := by
  have := Own.app H hm hx (lim := lim) (by simpa using hl)
  unfold Own1
  rw [List.map_append]
  exact this
end
/-! ### A value in a box -/
def Cel (h : AHeap) (b : Nat) (cs : List AV) : Prop := h.m b = some (.blk ⟨cs.length, [cs], 0, 0, false⟩) ∧ b < h.n
section
variable {h : AHeap} {b : Nat} {cs : List AV}
theorem Cel.keep {S : Nat → Prop} {h' : AHeap} (H : Cel h b cs) (k : HK S h h') (hs : ¬ S b) : Cel h' b cs := ⟨by rw [k.m b H.2 hs]; exact H.1, Nat.lt_of_lt_of_le H.2 k.n⟩
theorem Cel.keep0 {h' : AHeap} (H : Cel h b cs) (k : HK no h h') : Cel h' b cs := H.keep k (fun h => h)
theorem Cel.push (H : Cel h b cs) (o : AObj) : Cel (h.push o) b cs := H.keep0 ((HK.refl _ h).push o)
theorem Cel.new (h : AHeap) (cs : List AV) : Cel (h.push (.blk ⟨cs.length, [cs], 0, 0, false⟩)) h.n cs := ⟨push_at .., Nat.lt_succ_self _⟩
theorem Cel.ld1 (H : Cel h b cs) {off : Nat} {c : AV} (hc : cs[off]? = some c) : fLoad false 1 h (.ptr b 0 0 off) = some c := by
  have hlt : off < cs.length := by
    rcases Nat.lt_or_ge off cs.length with h | h
    · exact h
    · rw [List.getElem?_eq_none h] at hc; cases hc
  rw [List.getElem?_eq_getElem hlt] at hc
  cases hc
  simp only [fLoad, AHeap.getA, AHeap.get, H.1, Blk.get]
  simp only [Nat.le_refl, if_true, List.getElem?_cons_zero]
  rw [if_pos (by omega)]
  simp only
  rw [List.drop_eq_getElem_cons hlt]
  rfl
theorem Cel.ldA (H : Cel h b cs) {off n : Nat} (hn : off + n ≤ cs.length) : fLoad true n h (.ptr b 0 0 off) = some (.agg ((cs.drop off).take n)) := by
  simp only [fLoad, AHeap.getA, AHeap.get, H.1, Blk.get]
  simp only [Nat.le_refl, if_true, List.getElem?_cons_zero]
  rw [if_pos hn]
theorem Cel.st (H : Cel h b cs) {off n : Nat} {x : AV} (hx : x.cells.length = n) (hc : x.cells.all AV.isCell = true) (hn : off + n ≤ cs.length) :
    ∃ h', fStore n h (.ptr b 0 0 off) x = some h' ∧ Cel h' b (cs.take off ++ (x.cells ++ cs.drop (off + n))) ∧ HK (· = b) h h' ∧ h'.n = h.n := by
  simp only [fStore, H.1]
  rw [if_pos ⟨hx, hc⟩]
  simp only [Blk.put, List.getElem?_cons_zero, hx]
  rw [if_pos (⟨by trivial, by trivial⟩), if_pos hn]
  refine ⟨_, rfl, ⟨?_, H.2⟩, (HK.refl _ h).set _ (.inr rfl), rfl⟩
  rw [set_eq]
  simp only [List.set_cons_zero]
  congr 3
  simp
  omega
end
end Go.AM
/- Numbers; orders; small helps. -/
namespace Go.AM
open Go Go.RowKit
set_option linter.unusedVariables false
set_option linter.unusedSimpArgs false

def ps : List Nat → Sch → Sch
  | [], s => s
  | i :: l, s => .p i (ps l s)
section
variable {P : Program}
@[go_sem] theorem XS_ps (l : List Oper) (i : Nat) (t : List Nat) (s : Sch) (pend : Pend) (F : FF) (h : AHeap) (k : KF) : XS P l.toArray (ps (i :: t) s) pend F h k = xAt P l (gop l i) .p i (ps t s) pend F h k := XS_p ..
@[go_sem] theorem XS_ps_nil (l : List Oper) (s : Sch) (pend : Pend) (F : FF) (h : AHeap) (k : KF) : XS P l.toArray (ps [] s) pend F h k = XS P l.toArray s pend F h k := nrfl rfl
end
/-! ### Wrapping -/
theorem w64 {n : Int} (h : -9223372036854775808 ≤ n) (h' : n ≤ 9223372036854775807) : IntKind.i64.wrap n = n := IntWalk.i64_in n ⟨h, h'⟩
theorem wu64 {n : Int} (h : 0 ≤ n) (h' : n ≤ 18446744073709551615) : IntKind.u64.wrap n = n := IntWalk.u64_in n ⟨h, h'⟩
theorem wu32 {n : Int} (h : 0 ≤ n) (h' : n ≤ 4294967295) : IntKind.u32.wrap n = n := IntWalk.u32_in n ⟨h, h'⟩
theorem wu16 {n : Int} (h : 0 ≤ n) (h' : n ≤ 65535) : IntKind.u16.wrap n = n := IntWalk.u16_in n ⟨h, h'⟩
theorem wu8 {n : Int} (h : 0 ≤ n) (h' : n ≤ 255) : IntKind.u8.wrap n = n := IntWalk.u8_in n ⟨h, h'⟩
theorem wu8m (n : Int) : IntKind.u8.wrap n = n % 256 := IntKind.wrap_u8 n
theorem wu16m (n : Int) : IntKind.u16.wrap n = n % 65536 := IntKind.wrap_u16 n
theorem wu32m (n : Int) : IntKind.u32.wrap n = n % 4294967296 := IntKind.wrap_u32 n
theorem pow_lit (b : Nat) : (2 : Int) ^ b = ((2 ^ b : Nat) : Int) := by simp
theorem fdiv_pow (a : Int) (k : Nat) : a.fdiv (2 ^ k) = a / 2 ^ k := Int.fdiv_eq_ediv_of_nonneg _ (Int.le_of_lt (Int.pow_pos (by decide)))
/-- Shifts by a number that is known. -/
theorem shr_n (kd : IntKind) (a : Int) (b : Int) (c : Int) (h0 : 0 ≤ b) (h1 : b.toNat ≤ kd.bits) (hc : (2 : Int) ^ b.toNat = c) : intBin .shr kd a b = some (.int kd (a / c)) := by
  rw [intBin_shr, if_neg (by omega), Nat.min_eq_left h1, fdiv_pow, hc]
theorem shl_n (kd : IntKind) (a : Int) (b : Int) (c : Int) (h0 : 0 ≤ b) (h1 : b.toNat ≤ kd.bits) (hc : (2 : Int) ^ b.toNat = c) : intBin .shl kd a b = some (.int kd (kd.wrap (a * c))) := by
  rw [intBin_shl, if_neg (by omega), Nat.min_eq_left h1, hc]
theorem shr8_64 (a : Int) : intBin .shr .i64 a 8 = some (.int .i64 (a / 256)) := shr_n _ _ _ _ (by decide) (by decide) (by decide)
theorem shr16_32 (a : Int) : intBin .shr .u32 a 16 = some (.int .u32 (a / 65536)) := shr_n _ _ _ _ (by decide) (by decide) (by decide)
theorem shr32_u64 (a : Int) : intBin .shr .u64 a 32 = some (.int .u64 (a / 4294967296)) := shr_n _ _ _ _ (by decide) (by decide) (by decide)
theorem shl8_64 (a : Int) : intBin .shl .i64 a 8 = some (.int .i64 (IntKind.i64.wrap (a * 256))) := shl_n _ _ _ _ (by decide) (by decide) (by decide)
/-! ### Bits -/
theorem bv_toNat (w : Nat) (a : Int) (h0 : 0 ≤ a) (h1 : a < 2 ^ w) : (BitVec.ofInt w a).toNat = a.toNat := by
  rw [BitVec.toNat_ofInt, Int.emod_eq_of_lt h0 (by simpa using h1)]
theorem aBits_and (kd : IntKind) (a b : Int) (h0 : 0 ≤ a) (h1 : a < 2 ^ kd.bits) (g0 : 0 ≤ b) (g1 : b < 2 ^ kd.bits) : aBits .and kd a b = kd.wrap ((a.toNat &&& b.toNat : Nat) : Int) := by
  simp only [aBits, BitVec.toNat_and, bv_toNat _ _ h0 h1, bv_toNat _ _ g0 g1]
theorem aBits_or (kd : IntKind) (a b : Int) (h0 : 0 ≤ a) (h1 : a < 2 ^ kd.bits) (g0 : 0 ≤ b) (g1 : b < 2 ^ kd.bits) : aBits .or kd a b = kd.wrap ((a.toNat ||| b.toNat : Nat) : Int) := by
  simp only [aBits, BitVec.toNat_or, bv_toNat _ _ h0 h1, bv_toNat _ _ g0 g1]
theorem aBits_xor (kd : IntKind) (a b : Int) (h0 : 0 ≤ a) (h1 : a < 2 ^ kd.bits) (g0 : 0 ≤ b) (g1 : b < 2 ^ kd.bits) : aBits .xor kd a b = kd.wrap ((a.toNat ^^^ b.toNat : Nat) : Int) := by
  simp only [aBits, BitVec.toNat_xor, bv_toNat _ _ h0 h1, bv_toNat _ _ g0 g1]
/-- The low bits. -/
theorem and_low (kd : IntKind) (a m : Int) (k : Nat) (hm : m = 2 ^ k - 1) (h0 : 0 ≤ a) (h1 : a < 2 ^ kd.bits) (hk : (2 : Int) ^ k ≤ 2 ^ kd.bits) (hw : kd.wrap (a % 2 ^ k) = a % 2 ^ k) : aBits .and kd a m = a % 2 ^ k := by
  have hp : (0 : Int) < 2 ^ k := Int.pow_pos (by decide)
  rw [aBits_and kd a m h0 h1 (by omega) (by omega)]
  have e1 : m.toNat = 2 ^ k - 1 := by
    have : (2 : Int) ^ k = ((2 ^ k : Nat) : Int) := by simp
    omega
  rw [e1, Nat.and_two_pow_sub_one_eq_mod]
  rw [← hw]
  congr 1
  rw [Int.natCast_emod, Int.toNat_of_nonneg h0]
  simp
theorem and_ffff_u32 (a : Int) (h0 : 0 ≤ a) (h1 : a ≤ 4294967295) : aBits .and .u32 a 65535 = a % 65536 := by
  have h2 := and_low .u32 a 65535 16 (by decide) h0 (by simp [IntKind.bits]; omega) (by decide) (by
    have : (2 : Int) ^ 16 = 65536 := by decide
    rw [this]; exact wu32 (by omega) (by omega))
  simpa using h2
theorem or_split (a b : Nat) (k : Nat) (hb : b < 2 ^ k) : (a * 2 ^ k) ||| b = a * 2 ^ k + b := by
  rw [Nat.mul_comm]
  exact (Nat.two_pow_add_eq_or_of_lt hb a).symm
/-- Two bytes. -/
theorem or_byte (a b : Int) (h0 : 0 ≤ a) (h1 : a < 36028797018963968) (g0 : 0 ≤ b) (g1 : b < 256) : aBits .or .i64 (a * 256) b = a * 256 + b := by
  rw [aBits_or .i64 _ _ (by omega) (by simp [IntKind.bits]; omega) g0 (by simp [IntKind.bits]; omega)]
  have e1 : (a * 256).toNat = a.toNat * 2 ^ 8 := by omega
  rw [e1, or_split _ _ 8 (by omega)]
  rw [w64 (by omega) (by omega)]
  omega
/-! ### Lists -/
theorem take_snoc' {α : Type} (l : List α) (k : Nat) (h : k < l.length) : l.take (k + 1) = l.take k ++ [l[k]] := by
  rw [List.take_succ_eq_append_getElem h]
theorem cells_int (k : IntKind) (n : Int) : (AV.int k n).cells = [.int k n] := rfl
theorem seg1 {α : Type} (f : α → AV) (h : AHeap) (a : α) : Own1 f h.n (h.push (.blk ⟨1, [[f a]], 0, 0, false⟩)) (.sl h.n 0 0 1) [a] :=
  .inr ⟨h.n, 0, 0, rfl, push_at .., Nat.le_refl _, Nat.lt_succ_self _, Nat.le_refl _⟩
theorem byts_str {h : AHeap} {v : AV} {l : List Int} (B : Byt h v l) (hl : ∀ c ∈ l, 0 ≤ c ∧ c < 256) : fStrOf h v = some (.str l) := by
  have h1 := B.elems
  have h2 : bytesOf (l.map fun a => [AV.int .u8 a]) = some l := by
    clear B h1
    induction l with
    | nil => rfl
    | cons c r ih =>
      have hc := hl c (by simp)
      simp only [List.map_cons, bytesOf, byteOf, ih (fun c h => hl c (by simp [h]))]
      have : ((c.toNat % 256 : Nat) : Int) = c := by omega
      rw [this]
  rcases B with ⟨rfl, hn⟩ | ⟨b, g, i, B, rfl, _⟩
  · simp at hn; subst hn; rfl
  · simp only [fStrOf, h1, h2]; rfl
end Go.AM
/- Slices that are laid out and grown: the common cases. -/
namespace Go.AM
open Go Go.RowKit
set_option linter.unusedVariables false
set_option linter.unusedSimpArgs false
variable {P : Program}

theorem apT_pos (ag : Bool) (sz b : Nat) (z : List AV) (zv : AV) (h : AHeap) (s x : AV) (h1 : 0 < sz) (h2 : 0 < b) (h3 : z.length = sz) (h4 : zeroOk z = true) :
    apT (some ⟨ag, sz, b, z, zv⟩) h s x = fAppend sz (140737488355328 / b) h s x := by
  simp only [apT]; rw [if_pos ⟨h1, h2, h3, h4⟩]
theorem zero2 {u v : AV} {l : List AV} : zeroOk (u :: v :: l) = true := by cases u <;> rfl
section
variable (ag : Bool) (b : Nat) (zv : AV) (h : AHeap) (s x : AV)
@[go_sem] theorem apT_int (k : IntKind) (n : Int) : apT (some ⟨ag, 1, b + 1, [.int k n], zv⟩) h s x = fAppend 1 (140737488355328 / (b + 1)) h s x := apT_pos _ _ _ _ _ _ _ _ (by omega) (by omega) rfl rfl
@[go_sem] theorem apT_nils : apT (some ⟨ag, 1, b + 1, [.nils], zv⟩) h s x = fAppend 1 (140737488355328 / (b + 1)) h s x := apT_pos _ _ _ _ _ _ _ _ (by omega) (by omega) rfl rfl
@[go_sem] theorem apT_str (l : List Int) : apT (some ⟨ag, 1, b + 1, [.str l], zv⟩) h s x = fAppend 1 (140737488355328 / (b + 1)) h s x := apT_pos _ _ _ _ _ _ _ _ (by omega) (by omega) rfl rfl
@[go_sem] theorem apT_bool (q : Bool) : apT (some ⟨ag, 1, b + 1, [.bool q], zv⟩) h s x = fAppend 1 (140737488355328 / (b + 1)) h s x := apT_pos _ _ _ _ _ _ _ _ (by omega) (by omega) rfl rfl
@[go_sem] theorem apT_two (u v : AV) : apT (some ⟨ag, 2, b + 1, [u, v], zv⟩) h s x = fAppend 2 (140737488355328 / (b + 1)) h s x := apT_pos _ _ _ _ _ _ _ _ (by omega) (by omega) rfl zero2
@[go_sem] theorem apT_three (u v w : AV) : apT (some ⟨ag, 3, b + 1, [u, v, w], zv⟩) h s x = fAppend 3 (140737488355328 / (b + 1)) h s x := apT_pos _ _ _ _ _ _ _ _ (by omega) (by omega) rfl zero2
@[go_sem] theorem apT_four (u v w y : AV) : apT (some ⟨ag, 4, b + 1, [u, v, w, y], zv⟩) h s x = fAppend 4 (140737488355328 / (b + 1)) h s x := apT_pos _ _ _ _ _ _ _ _ (by omega) (by omega) rfl zero2
@[go_sem] theorem apT_six (u v w y z q : AV) : apT (some ⟨ag, 6, b + 1, [u, v, w, y, z, q], zv⟩) h s x = fAppend 6 (140737488355328 / (b + 1)) h s x := apT_pos _ _ _ _ _ _ _ _ (by omega) (by omega) rfl zero2
end
def newS (sz : Nat) (cs : List (List AV)) (h : AHeap) : AHeap := h.push (.blk ⟨sz, cs, 0, 0, false⟩)
@[go_sem] theorem newS_n (sz : Nat) (cs : List (List AV)) (h : AHeap) : (newS sz cs h).n = h.n + 1 := nrfl rfl
theorem isCell_cells {a : AV} (ha : a.isCell = true) : a.cells = [a] := by cases a <;> first | rfl | cases ha
theorem isCell_known {a : AV} (ha : a.isCell = true) : a.known = true := by cases a <;> first | rfl | cases ha
/-- One element, of so many cells. -/
theorem bs_one' (i : TI) (h0 : 0 < i.sz) (hs : i.sz ≤ 16777216) (hz : i.zero.length = i.sz) (hk : zeroOk i.zero = true) (h : AHeap) (a : AV) (ha : a.known = true) (hl : a.cells.length = i.sz) (hc : a.cells.all AV.isCell = true) :
    bsT (some i) 1 h [(0, a)] = some (.sl h.n 0 0 1, newS i.sz [a.cells] h) := by
  simp only [bsT]
  rw [if_pos ⟨h0, by omega, hz, hk⟩]
  have e1 : (List.replicate 1 i.zero).flatten = i.zero := by simp [List.replicate]
  have e2 : fillA (fun j => some (j * i.sz, i.sz)) i.zero [(0, a)] = some a.cells := by
    simp only [fillA, Nat.zero_mul]
    rw [if_pos ⟨ha, hl, by omega⟩]
    simp [hl, ← hz]
  rw [e1, e2]
  simp only [Option.bind_some]
  rw [if_pos hc]
  have e3 : chunk i.sz 1 a.cells = [a.cells] := by
    simp [chunk, List.range_succ, ← hl]
  rw [e3]
  rfl
theorem zero1 {z : AV} (hz : z.isCell = true) : zeroOk [z] = true := by cases z <;> first | rfl | cases hz
theorem bs_one (ag : Bool) (b : Nat) (z zv : AV) (hz : z.isCell = true) (h : AHeap) (a : AV) (ha : a.isCell = true) : bsT (some ⟨ag, 1, b, [z], zv⟩) 1 h [(0, a)] = some (.sl h.n 0 0 1, newS 1 [[a]] h) := by
  have e := bs_one' ⟨ag, 1, b, [z], zv⟩ (by simp) (by simp) rfl (zero1 hz) h a (isCell_known ha) (by rw [isCell_cells ha]; rfl) (by rw [isCell_cells ha]; simp [ha])
  rw [e, isCell_cells ha]
theorem fill1 (z : List AV) (a : AV) (ha : a.isCell = true) (rest : List (Nat × AV)) (j : Nat) (hj : j < z.length) : fillA (fun j => some (j * 1, 1)) z ((j, a) :: rest) = fillA (fun j => some (j * 1, 1)) (z.set j a) rest := by
  rw [fillA]
  simp only [isCell_cells ha, isCell_known ha, Nat.mul_one, List.length_singleton]
  rw [if_pos ⟨trivial, trivial, by omega⟩]
  congr 1
  rw [List.set_eq_take_append_cons_drop, if_pos hj]
  rfl
theorem bs_n (ag : Bool) (b : Nat) (z zv : AV) (hz : z.isCell = true) (h : AHeap) (len : Nat) (hn : len ≤ 16777216) (parts : List (Nat × AV)) (as : List AV) (hf : fillA (fun j => some (j * 1, 1)) (List.replicate len z) parts = some as) (ha : as.all AV.isCell = true) (hl : as.length = len) :
    bsT (some ⟨ag, 1, b, [z], zv⟩) len h parts = some (.sl h.n 0 0 len, newS 1 (as.map fun a => [a]) h) := by
  simp only [bsT]
  rw [if_pos ⟨by omega, by omega, rfl, zero1 hz⟩]
  have e1 : (List.replicate len [z]).flatten = List.replicate len z := by
    induction len with
    | zero => rfl
    | succ n ih => simp [List.replicate_succ]
  rw [e1, hf]
  simp only [Option.bind_some]
  rw [if_pos ha]
  have e3 : chunk 1 len as = as.map fun a => [a] := by
    apply List.ext_getElem
    · simp [chunk, hl]
    · intro i h1 h2
      simp only [chunk, List.length_map, List.length_range] at h1
      simp only [chunk, List.getElem_map, List.getElem_range, Nat.mul_one]
      rw [List.drop_eq_getElem_cons (by omega : i < as.length)]
      rfl
  rw [e3]
  simp [fNewSl, newS, hl]
theorem bs_two (ag : Bool) (b : Nat) (z zv : AV) (hz : z.isCell = true) (h : AHeap) (a0 a1 : AV) (h0 : a0.isCell = true) (h1 : a1.isCell = true) : bsT (some ⟨ag, 1, b, [z], zv⟩) 2 h [(0, a0), (1, a1)] = some (.sl h.n 0 0 2, newS 1 [[a0], [a1]] h) := by
  refine bs_n ag b z zv hz h 2 (by omega) _ [a0, a1] ?_ (by simp [h0, h1]) rfl
  rw [fill1 _ _ h0 _ _ (by simp), fill1 _ _ h1 _ _ (by simp)]
  rfl
theorem bs_three (ag : Bool) (b : Nat) (z zv : AV) (hz : z.isCell = true) (h : AHeap) (a0 a1 a2 : AV) (h0 : a0.isCell = true) (h1 : a1.isCell = true) (h2 : a2.isCell = true) : bsT (some ⟨ag, 1, b, [z], zv⟩) 3 h [(0, a0), (1, a1), (2, a2)] = some (.sl h.n 0 0 3, newS 1 [[a0], [a1], [a2]] h) := by
  refine bs_n ag b z zv hz h 3 (by omega) _ [a0, a1, a2] ?_ (by simp [h0, h1, h2]) rfl
  rw [fill1 _ _ h0 _ _ (by simp), fill1 _ _ h1 _ _ (by simp), fill1 _ _ h2 _ _ (by simp)]
  rfl
section
variable (ag : Bool) (b : Nat) (zv : AV) (h : AHeap) (k : IntKind) (n : Int)
@[go_sem] theorem bs_one_int (k' : IntKind) (x : Int) : bsT (some ⟨ag, 1, b, [.int k n], zv⟩) 1 h [(0, .int k' x)] = some (.sl h.n 0 0 1, newS 1 [[.int k' x]] h) := bs_one _ _ _ _ rfl _ _ rfl
@[go_sem] theorem bs_two_int (k' k'' : IntKind) (x y : Int) : bsT (some ⟨ag, 1, b, [.int k n], zv⟩) 2 h [(0, .int k' x), (1, .int k'' y)] = some (.sl h.n 0 0 2, newS 1 [[.int k' x], [.int k'' y]] h) := bs_two _ _ _ _ rfl _ _ _ rfl rfl
@[go_sem] theorem bs_three_int (k0 k1 k2 : IntKind) (x y z : Int) : bsT (some ⟨ag, 1, b, [.int k n], zv⟩) 3 h [(0, .int k0 x), (1, .int k1 y), (2, .int k2 z)] = some (.sl h.n 0 0 3, newS 1 [[.int k0 x], [.int k1 y], [.int k2 z]] h) := bs_three _ _ _ _ rfl _ _ _ _ rfl rfl rfl
end
theorem HK.newS {S : Nat → Prop} {a b : AHeap} (x : HK S a b) (sz : Nat) (cs : List (List AV)) : HK S a (newS sz cs b) := x.push _
theorem newS_keep (sz : Nat) (cs : List (List AV)) (h : AHeap) : HK no h (newS sz cs h) := (HK.refl _ h).push _
theorem newS_own {α : Type} (f : α → AV) (m : Nat) (h : AHeap) (l : List α) (hm : m ≤ h.n) : Own1 f m (newS 1 (l.map fun a => [f a]) h) (.sl h.n 0 0 l.length) l :=
  .inr ⟨h.n, 0, 0, by simp, push_at .., hm, Nat.lt_succ_self _, Nat.le_refl _⟩
theorem newS_elems (sz : Nat) (cs : List (List AV)) (h : AHeap) (n : Nat) (hn : n = cs.length) : elems sz (newS sz cs h) (.sl h.n 0 0 n) = some cs := by
  simp only [elems, newS, push_at]
  simp [hn]
/-- The bytes that a slice literal holds. -/
theorem newS_byt (h : AHeap) (l : List Int) : Byt (newS 1 (l.map fun a => [.int .u8 a]) h) (.sl h.n 0 0 l.length) l := (newS_own _ 0 h l (by omega)).sl
/-! ### What was looked at once more -/
section
variable (ev : Operand → AV) (h : AHeap)
@[go_sem] theorem A_load (t : TypeId) (a : Operand) : aopE P ev h (.load t a) = at_ h (ldG (tinfo P t) h (ev a)) := by
  simp only [aopE, ldG]
  cases tinfo P t with
  | none => rfl
  | some i => simp only; split <;> rfl
@[go_sem] theorem A_indexAddr (t : TypeId) (x i : Operand) : aopE P ev h (.indexAddr t x i) = at_ h (ixG P (P.underlying t) h (ev x) (ev i)) := by
  simp only [aopE, ixG, ixT]
  cases P.underlying t with
  | none => rfl
  | some d => cases d <;> first | rfl | (simp only; cases tinfo P _ <;> rfl)
@[go_sem] theorem A_slice (t : TypeId) (x : Operand) (lo hi mx : Option Operand) : aopE P ev h (.slice t x lo hi mx) = at_ h (slG P (P.underlying t) h (ev x) (lo.map ev) (hi.map ev) (mx.map ev)) := by
  have e0 : (mx.map ev).isNone = mx.isNone := by cases mx <;> rfl
  simp only [aopE, slG, e0]
  cases P.underlying t with
  | none => rfl
  | some d =>
    cases d <;> try rfl
    · simp only; split <;> rfl
    all_goals
      simp only
      cases tinfo P _ with
      | none => rfl
      | some i => first | rfl | (simp only; split <;> rfl)
@[go_sem] theorem A_lookup (t : TypeId) (x i : Operand) (ok : Bool) : aopE P ev h (.lookup t x i ok) = at_ h (luG P (P.underlying t) ok h (ev x) (ev i)) := by
  simp only [aopE, luG]
  cases P.underlying t with
  | none => rfl
  | some d =>
    cases d <;> try rfl
    simp only
    rename_i kt e
    cases tinfo P e with
    | none => rfl
    | some i => cases keyK P kt <;> rfl
@[go_sem] theorem A_len (x : Operand) (t : TypeId) : aopE P ev h (.call ⟨.builtin .len, List.toArray [x], List.toArray [t]⟩) = at_ h (fLen (lenK (P.underlying t)) h (ev x)) := nrfl rfl
end
theorem SlP.ix0 {sz : Nat} {h : AHeap} {v : AV} {es : List (List AV)} (H : SlP sz h v es) (kd : IntKind) (h1 : 0 < es.length) : fIndexAddr none sz h v (.int kd 0) = some (adr v 0 0) := H.ixn kd (j := 0) h1
theorem Sl1.ix0 {α : Type} {f : α → AV} {h : AHeap} {v : AV} {l : List α} (H : Sl1 f h v l) (kd : IntKind) (h1 : 0 < l.length) : fIndexAddr none 1 h v (.int kd 0) = some (adr v 0 0) := H.ixn kd (j := 0) h1
theorem Sl1.ix1 {α : Type} {f : α → AV} {h : AHeap} {v : AV} {l : List α} (H : Sl1 f h v l) (kd : IntKind) (h1 : 1 < l.length) : fIndexAddr none 1 h v (.int kd 1) = some (adr v 1 0) := H.ixn kd (j := 1) h1
/-! ### Cuts -/
theorem X_cutB {c : Code} {F : FF} {h : AHeap} {id : Nat} {k : KX} (I : FF → AHeap → Prop) (h1 : X P c F h (blockX id (loopX I k))) (h2 : ∀ F h, I F h → k .normal F h) : X P c F h (blockX id k) := by
  refine X_mono c F h _ _ (fun e F h H => ?_) h1
  cases e with
  | normal => exact h2 F h H
  | ret => exact H
  | exit id' =>
    simp only [blockX] at H ⊢
    split
    · rename_i e; rw [if_pos e] at H; exact h2 F h H
    · rename_i e; rw [if_neg e] at H; exact H
theorem X_cutS {c b : Code} {F : FF} {h : AHeap} {k : KX} (I : FF → AHeap → Prop) (h1 : X P c F h (loopX I k)) (h2 : ∀ F h, I F h → X P b F h k) : X P c F h (seqX P b k) := by
  refine X_mono c F h _ _ (fun e F h H => ?_) h1
  cases e with
  | normal => exact h2 F h H
  | ret => exact H
  | exit id => exact H
theorem HK.thn {T : Nat → Prop} {a b c : AHeap} (x : HK no a b) (y : HK T b c) : HK T a c := HK.trans' (x.mono (fun _ _ h => h.elim)) y (fun _ _ h => h)
/-- What was written since is new. -/
theorem HK.new {S T : Nat → Prop} {a b c : AHeap} (x : HK S a b) (y : HK T b c) (h : ∀ i, T i → a.n ≤ i) : HK S a c := x.trans' y (fun i hi ht => absurd (h i ht) (by omega))
end Go.AM
/- Arrays of one cell each, in a block of their own. -/
namespace Go.AM
open Go Go.RowKit
set_option linter.unusedVariables false
set_option linter.unusedSimpArgs false
def Arr {α : Type} (f : α → AV) (h : AHeap) (b : Nat) (l : List α) : Prop := (∃ sg, sg ≤ 0 ∧ h.m b = some (.blk ⟨1, l.map fun a => [f a], 0, sg, false⟩)) ∧ b < h.n
section
variable {α : Type} {f : α → AV} {h : AHeap} {b : Nat} {l : List α}
theorem Arr.keep {S : Nat → Prop} {h' : AHeap} (H : Arr f h b l) (k : HK S h h') (hs : ¬ S b) : Arr f h' b l := ⟨by rw [k.m b H.2 hs]; exact H.1, Nat.lt_of_lt_of_le H.2 k.n⟩
theorem Arr.new (f : α → AV) (h : AHeap) (l : List α) : Arr f (newS 1 (l.map fun a => [f a]) h) h.n l := ⟨⟨0, Nat.le_refl _, push_at ..⟩, Nat.lt_succ_self _⟩
theorem Arr.ix (H : Arr f h b l) {n : Nat} (hn : n = l.length) (kd : IntKind) {j : Int} (h0 : 0 ≤ j) (h1 : j < l.length) : fIndexAddr (some n) 1 h (.ptr b 0 0 0) (.int kd j) = some (.ptr b 0 j.toNat 0) := by
  obtain ⟨⟨sg, _, hB⟩, _⟩ := H
  simp only [fIndexAddr, AHeap.isArr, hB]
  rw [if_pos ⟨by simp [hn], h0, by omega⟩]
theorem Arr.ixn (H : Arr f h b l) {n : Nat} (hn : n = l.length) (kd : IntKind) {j : Nat} (h1 : j < l.length) : fIndexAddr (some n) 1 h (.ptr b 0 0 0) (.int kd (j : Int)) = some (.ptr b 0 j 0) := by
  rw [H.ix hn kd (by omega) (by omega)]; rfl
theorem Arr.ld (H : Arr f h b l) {j : Nat} (hj : j < l.length) : fLoad false 1 h (.ptr b 0 j 0) = some (f (l[j]'hj)) := by
  obtain ⟨⟨sg, hs, hB⟩, _⟩ := H
  simp only [fLoad, AHeap.getA, AHeap.get, hB, Blk.get]
  rw [if_pos hs, List.getElem?_eq_getElem (by simpa using hj)]
  simp [one?]
theorem Arr.st (H : Arr f h b l) {j : Nat} (hj : j < l.length) {x : AV} (a : α) (hx : x = f a) (hc : x.isCell = true) : ∃ h', fStore 1 h (.ptr b 0 j 0) x = some h' ∧ Arr f h' b (l.set j a) ∧ HK (· = b) h h' ∧ h'.n = h.n := by
  obtain ⟨⟨sg, hs, hB⟩, hlt⟩ := H
  simp only [fStore, hB, isCell_cells hc]
  rw [if_pos ⟨by trivial, by simp [hc]⟩]
  simp only [Blk.put]
  rw [if_pos ⟨by trivial, by trivial⟩, List.getElem?_eq_getElem (by simpa using hj)]
  simp only [List.getElem_map, List.length_singleton, Nat.zero_add, Nat.le_refl, if_true, Option.map_some]
  refine ⟨_, rfl, ⟨⟨0, Nat.le_refl _, ?_⟩, hlt⟩, (HK.refl _ h).set _ (.inr rfl), rfl⟩
  rw [set_eq]
  simp [hx, List.map_set]
theorem Arr.slice_lo (H : Arr f h b l) {n : Nat} (hn : n = l.length) {lo : Nat} (h1 : lo ≤ l.length) (k : IntKind) : fSliceArr n 1 h (.ptr b 0 0 0) (some (.int k lo)) none = some (.sl b 0 lo (l.length - lo)) := by
  obtain ⟨⟨sg, _, hB⟩, _⟩ := H
  simp only [fSliceArr, AHeap.isArr, hB]
  rw [if_pos (by simp [hn])]
  simp [bounds, bound, hn, h1]
theorem Arr.sl (H : Arr f h b l) (lo : Nat) : Sl1 f h (.sl b 0 lo (l.length - lo)) (l.drop lo) := by
  obtain ⟨⟨sg, hs, hB⟩, hlt⟩ := H
  refine .inr ⟨b, 0, lo, _, by simp, hB, hlt, hs, rfl, ?_⟩
  simp only [List.length_map, List.length_drop]
  rw [← List.map_drop, List.take_of_length_le (by simp)]
end
section
variable {P : Program} (h : AHeap)
def slA (i : Option TI) (n : Nat) (h : AHeap) (x : AV) (lo hi : Option AV) : Option AV := match i with
  | some i => fSliceArr n i.sz h x lo hi
  | none => none
@[go_sem] theorem slA_some (i : TI) (n : Nat) (x : AV) (lo hi : Option AV) : slA (some i) n h x lo hi = fSliceArr n i.sz h x lo hi := nrfl rfl
@[go_sem] theorem slG_array (n : Nat) (e : TypeId) (x : AV) (lo hi : Option AV) : slG P (some (.array n e)) h x lo hi none = slA (tinfo P e) n h x lo hi := nrfl rfl
end
theorem drop_set_self {α : Type} (c : List α) (j : Nat) (a : α) (h : j < c.length) : (c.set j a).drop j = a :: c.drop (j + 1) := by
  rw [List.drop_eq_getElem_cons (by simpa using h), List.drop_set, if_pos (by omega)]
  simp
theorem HK.out {h h' : AHeap} (k : HK (h.n ≤ ·) h h') : HK no h h' := k.mono (fun i hi h => absurd h (by omega))
theorem HK.trn {S : Nat → Prop} {a b c : AHeap} (x : HK S a b) (y : HK (a.n ≤ ·) b c) : HK S a c := x.trans' y (fun i hi h => absurd h (by omega))
theorem HK.trv {S : Nat → Prop} {a b c : AHeap} {v : AV} (x : HK S a b) (y : HK (inV v) b c) (hv : ∀ i, inV v i → a.n ≤ i) : HK S a c := x.trans' y (fun i hi h => absurd (hv i h) (by omega))
/-! ### Boxes -/
section
variable {P : Program} (h : AHeap)
@[go_sem] theorem isCell_int (k : IntKind) (n : Int) : (AV.int k n).isCell = true := nrfl rfl
@[go_sem] theorem isCell_bool (b : Bool) : (AV.bool b).isCell = true := nrfl rfl
@[go_sem] theorem isCell_str (s : List Int) : (AV.str s).isCell = true := nrfl rfl
@[go_sem] theorem isCell_ptr (b g i f : Nat) : (AV.ptr b g i f).isCell = true := nrfl rfl
@[go_sem] theorem isCell_nilp : AV.nilp.isCell = true := nrfl rfl
@[go_sem] theorem isCell_sl (b g i n : Nat) : (AV.sl b g i n).isCell = true := nrfl rfl
@[go_sem] theorem isCell_nils : AV.nils.isCell = true := nrfl rfl
@[go_sem] theorem isCell_map (r : Nat) : (AV.map r).isCell = true := nrfl rfl
@[go_sem] theorem isCell_nilm : AV.nilm.isCell = true := nrfl rfl
@[go_sem] theorem isCell_fn (g : FuncId) (cs : List AV) : (AV.fn g cs).isCell = true := nrfl rfl
attribute [go_sem] Bool.and_self Bool.and_true Bool.true_and
@[go_sem] theorem fNew_eq (esz : Nat) (cs : List (List AV)) : fNew esz cs h = (.ptr h.n 0 0 0, newS esz cs h) := nrfl rfl
@[go_sem] theorem fNewSl_eq (esz : Nat) (cs : List (List AV)) : fNewSl esz cs h = (.sl h.n 0 0 cs.length, newS esz cs h) := nrfl rfl
/-- Is it a block of one element? -/
def notArr : Option TypeDesc → Bool
  | some (.array _ _) => false
  | some _ => true
  | none => false
theorem blkD_pos {d : Option TypeDesc} (hd : notArr d = true) {cs : List AV} (h0 : 0 < cs.length) (hc : cs.all AV.isCell = true) : blkD P d cs = some (cs.length, [cs]) := by
  cases d with
  | none => cases hd
  | some d => cases d <;> first | (simp only [blkD]; rw [if_pos ⟨h0, hc⟩]) | (simp [notArr] at hd; done)
@[go_sem] theorem notArr_int (k : IntKind) : notArr (some (.int k)) = true := nrfl rfl
@[go_sem] theorem notArr_bool : notArr (some .bool) = true := nrfl rfl
@[go_sem] theorem notArr_string : notArr (some .string) = true := nrfl rfl
@[go_sem] theorem notArr_struct (fs : Array Field) : notArr (some (.struct fs)) = true := nrfl rfl
@[go_sem] theorem notArr_slice (e : TypeId) : notArr (some (.slice e)) = true := nrfl rfl
@[go_sem] theorem notArr_pointer (e : TypeId) : notArr (some (.pointer e)) = true := nrfl rfl
@[go_sem] theorem notArr_map (k e : TypeId) : notArr (some (.map k e)) = true := nrfl rfl
/-- A new block of one element, off its cells. -/
def newB (P : Program) (d : Option TypeDesc) (h : AHeap) (cs : List AV) : Option (AV × AHeap) := (blkD P d cs).map fun p => fNew p.1 p.2 h
theorem newB_pos {d : Option TypeDesc} (hd : notArr d = true) {cs : List AV} (h0 : 0 < cs.length) (hc : cs.all AV.isCell = true) : newB P d h cs = some (.ptr h.n 0 0 0, newS cs.length [cs] h) := by
  unfold newB; rw [blkD_pos hd h0 hc]; rfl
@[go_sem] theorem newT_eq (i : TI) (t : TypeId) : newT P (some i) t h = newB P (P.underlying t) h i.zero := nrfl rfl
@[go_sem] theorem newB_1 (d : Option TypeDesc) (a : AV) (hd : notArr d = true) (ha : a.isCell = true) : newB P d h [a] = some (.ptr h.n 0 0 0, newS 1 [[a]] h) := newB_pos h hd (by simp) (by simp [ha])
@[go_sem] theorem newB_2 (d : Option TypeDesc) (a b : AV) (hd : notArr d = true) (ha : a.isCell = true) (hb : b.isCell = true) : newB P d h [a, b] = some (.ptr h.n 0 0 0, newS 2 [[a, b]] h) := newB_pos h hd (by simp) (by simp [ha, hb])
@[go_sem] theorem newB_3 (d : Option TypeDesc) (a b c : AV) (hd : notArr d = true) (ha : a.isCell = true) (hb : b.isCell = true) (hc : c.isCell = true) : newB P d h [a, b, c] = some (.ptr h.n 0 0 0, newS 3 [[a, b, c]] h) := newB_pos h hd (by simp) (by simp [ha, hb, hc])
@[go_sem] theorem newB_4 (d : Option TypeDesc) (a b c e : AV) (hd : notArr d = true) (ha : a.isCell = true) (hb : b.isCell = true) (hc : c.isCell = true) (he : e.isCell = true) : newB P d h [a, b, c, e] = some (.ptr h.n 0 0 0, newS 4 [[a, b, c, e]] h) := newB_pos h hd (by simp) (by simp [ha, hb, hc, he])
@[go_sem] theorem newB_5 (d : Option TypeDesc) (a b c e f : AV) (hd : notArr d = true) (ha : a.isCell = true) (hb : b.isCell = true) (hc : c.isCell = true) (he : e.isCell = true) (hf : f.isCell = true) : newB P d h [a, b, c, e, f] = some (.ptr h.n 0 0 0, newS 5 [[a, b, c, e, f]] h) := newB_pos h hd (by simp) (by simp [ha, hb, hc, he, hf])
@[go_sem] theorem newB_6 (d : Option TypeDesc) (a b c e f g : AV) (hd : notArr d = true) (ha : a.isCell = true) (hb : b.isCell = true) (hc : c.isCell = true) (he : e.isCell = true) (hf : f.isCell = true) (hg : g.isCell = true) : newB P d h [a, b, c, e, f, g] = some (.ptr h.n 0 0 0, newS 6 [[a, b, c, e, f, g]] h) := newB_pos h hd (by simp) (by simp [ha, hb, hc, he, hf, hg])
theorem boxT_agg (ag : Bool) (sz b : Nat) (z : List AV) (zv : AV) (t : TypeId) (cs : List AV) (hs : sz = cs.length) : boxT P (some ⟨ag, sz, b, z, zv⟩) t (.agg cs) h = newB P (P.underlying t) h cs := by
  exact if_pos hs
@[go_sem] theorem boxT_agg1 (ag : Bool) (b : Nat) (z : List AV) (zv : AV) (t : TypeId) (a0 : AV) : boxT P (some ⟨ag, 1, b, z, zv⟩) t (.agg [a0]) h = newB P (P.underlying t) h [a0] := boxT_agg _ _ _ _ _ _ _ _ rfl
@[go_sem] theorem boxT_agg2 (ag : Bool) (b : Nat) (z : List AV) (zv : AV) (t : TypeId) (a0 a1 : AV) : boxT P (some ⟨ag, 2, b, z, zv⟩) t (.agg [a0, a1]) h = newB P (P.underlying t) h [a0, a1] := boxT_agg _ _ _ _ _ _ _ _ rfl
@[go_sem] theorem boxT_agg3 (ag : Bool) (b : Nat) (z : List AV) (zv : AV) (t : TypeId) (a0 a1 a2 : AV) : boxT P (some ⟨ag, 3, b, z, zv⟩) t (.agg [a0, a1, a2]) h = newB P (P.underlying t) h [a0, a1, a2] := boxT_agg _ _ _ _ _ _ _ _ rfl
@[go_sem] theorem boxT_agg4 (ag : Bool) (b : Nat) (z : List AV) (zv : AV) (t : TypeId) (a0 a1 a2 a3 : AV) : boxT P (some ⟨ag, 4, b, z, zv⟩) t (.agg [a0, a1, a2, a3]) h = newB P (P.underlying t) h [a0, a1, a2, a3] := boxT_agg _ _ _ _ _ _ _ _ rfl
@[go_sem] theorem boxT_agg5 (ag : Bool) (b : Nat) (z : List AV) (zv : AV) (t : TypeId) (a0 a1 a2 a3 a4 : AV) : boxT P (some ⟨ag, 5, b, z, zv⟩) t (.agg [a0, a1, a2, a3, a4]) h = newB P (P.underlying t) h [a0, a1, a2, a3, a4] := boxT_agg _ _ _ _ _ _ _ _ rfl
@[go_sem] theorem boxT_agg6 (ag : Bool) (b : Nat) (z : List AV) (zv : AV) (t : TypeId) (a0 a1 a2 a3 a4 a5 : AV) : boxT P (some ⟨ag, 6, b, z, zv⟩) t (.agg [a0, a1, a2, a3, a4, a5]) h = newB P (P.underlying t) h [a0, a1, a2, a3, a4, a5] := boxT_agg _ _ _ _ _ _ _ _ rfl
@[go_sem] theorem boxT_agg7 (ag : Bool) (b : Nat) (z : List AV) (zv : AV) (t : TypeId) (a0 a1 a2 a3 a4 a5 a6 : AV) : boxT P (some ⟨ag, 7, b, z, zv⟩) t (.agg [a0, a1, a2, a3, a4, a5, a6]) h = newB P (P.underlying t) h [a0, a1, a2, a3, a4, a5, a6] := boxT_agg _ _ _ _ _ _ _ _ rfl
theorem boxT_cell (ag : Bool) (b : Nat) (z : List AV) (zv : AV) (t : TypeId) (v : AV) (hv : v.isCell = true) : boxT P (some ⟨ag, 1, b, z, zv⟩) t v h = newB P (P.underlying t) h [v] := by
  have e : v.cells = [v] := isCell_cells hv
  have h1 : boxT P (some ⟨ag, 1, b, z, zv⟩) t v h = newB P (P.underlying t) h v.cells := if_pos (by rw [e]; rfl)
  rw [h1, e]
@[go_sem] theorem boxT_int (ag : Bool) (b : Nat) (z : List AV) (zv : AV) (t : TypeId) (k : IntKind) (n : Int) : boxT P (some ⟨ag, 1, b, z, zv⟩) t (.int k n) h = newB P (P.underlying t) h [.int k n] := boxT_cell _ _ _ _ _ _ _ rfl
end
theorem SlP.isCell {sz : Nat} {h : AHeap} {v : AV} {es : List (List AV)} (H : SlP sz h v es) : v.isCell = true := by
  rcases H with ⟨rfl, _⟩ | ⟨b, g, i, B, rfl, _⟩ <;> rfl
theorem Sl1.isCell {α : Type} {f : α → AV} {h : AHeap} {v : AV} {l : List α} (H : Sl1 f h v l) : v.isCell = true := SlP.isCell H
theorem Cel.newS (h : AHeap) (cs : List AV) : Cel (AM.newS cs.length [cs] h) h.n cs := Cel.new h cs
/-! ### Maps whose keys are texts -/
def insK {α : Type} [DecidableEq α] (k : α) (ks : List α) : List α := if k ∈ ks then ks else ks ++ [k]
def MapK (h : AHeap) (r : Nat) (ks : List (List Int)) : Prop := (∃ es, h.m r = some (.mp es) ∧ es.map Prod.fst = ks.map AV.str) ∧ r < h.n
theorem MapK.keep {S : Nat → Prop} {h h' : AHeap} {r : Nat} {ks : List (List Int)} (H : MapK h r ks) (k : HK S h h') (hs : ¬ S r) : MapK h' r ks := ⟨by rw [k.m r H.2 hs]; exact H.1, Nat.lt_of_lt_of_le H.2 k.n⟩
theorem MapK.keep0 {h h' : AHeap} {r : Nat} {ks : List (List Int)} (H : MapK h r ks) (k : HK no h h') : MapK h' r ks := H.keep k (fun h => h)
theorem MapK.new (h : AHeap) : MapK (h.push (.mp [])) h.n [] := ⟨⟨[], push_at .., rfl⟩, Nat.lt_succ_self _⟩
@[go_sem] theorem fMakeMap_eq (h : AHeap) : fMakeMap h = (.map h.n, h.push (.mp [])) := nrfl rfl
theorem MapK.len {h : AHeap} {r : Nat} {ks : List (List Int)} (H : MapK h r ks) : fLen 2 h (.map r) = some (.int .i64 ks.length) := by
  obtain ⟨⟨es, h1, h2⟩, _⟩ := H
  have : es.length = ks.length := by simpa using congrArg List.length h2
  simp only [fLen, h1, this]
theorem setE_keys (k : List Int) (v : AV) : ∀ (es : List (AV × AV)) (ks : List (List Int)), es.map Prod.fst = ks.map AV.str → (setE (.str k) v es).map Prod.fst = (insK k ks).map AV.str
  | [], [], _ => rfl
  | (x, u) :: es, k' :: ks, h => by
    simp only [List.map_cons, List.cons.injEq] at h
    obtain ⟨rfl, h⟩ := h
    have ih := setE_keys k v es ks h
    simp only [setE, sameCell]
    by_cases e : k = k'
    · subst e
      simp [insK, h]
    · have e2 : (k == k') = false := by simpa using e
      rw [e2]
      simp only [List.map_cons, ih]
      unfold insK
      by_cases hm : k ∈ ks
      · simp [hm]
      · simp [hm, e]
theorem sameKinds_str (k : List Int) : ∀ (es : List (AV × AV)) (ks : List (List Int)), es.map Prod.fst = ks.map AV.str → sameKinds (.str k) es = true
  | [], [], _ => rfl
  | (x, u) :: es, k' :: ks, h => by
    simp only [List.map_cons, List.cons.injEq] at h
    obtain ⟨rfl, h⟩ := h
    have ih := sameKinds_str k es ks h
    simp only [sameKinds, List.all_cons, Bool.and_eq_true] at *
    exact ⟨rfl, ih⟩
theorem MapK.upd {h : AHeap} {r : Nat} {ks : List (List Int)} (H : MapK h r ks) (k : List Int) (v : AV) (hv : v.isCell = true) : ∃ h', fMapUpdate true h (.map r) (.str k) v = some h' ∧ MapK h' r (insK k ks) ∧ HK (· = r) h h' ∧ h'.n = h.n := by
  obtain ⟨⟨es, h1, h2⟩, hr⟩ := H
  simp only [fMapUpdate, h1]
  rw [if_pos ⟨by rfl, hv, sameKinds_str k es ks h2⟩]
  exact ⟨_, rfl, ⟨⟨_, set_eq .., setE_keys k v es ks h2⟩, hr⟩, (HK.refl _ h).set _ (.inr rfl), rfl⟩
/-- Numbers that are known. -/
theorem natlit (n : Nat) : ((no_index (OfNat.ofNat n) : Nat) : Int) = OfNat.ofNat n := nrfl rfl
end Go.AM
/- Slices that are made, and copied into. -/
namespace Go.AM
open Go Go.RowKit
set_option linter.unusedVariables false
set_option linter.unusedSimpArgs false
theorem mkS_pos (ag : Bool) (sz b : Nat) (z : List AV) (zv : AV) (h : AHeap) (n : AV) (h1 : 0 < sz) (h2 : 0 < b) (h3 : z.length = sz) (h4 : z.all AV.isCell = true) : mkS (some ⟨ag, sz, b, z, zv⟩) true h n = fMake sz b z h n := by
  simp only [mkS]; rw [if_pos ⟨h1, h2, h3, h4, by trivial⟩]
attribute [go_sem] beq_self_eq_true
section
variable (ag : Bool) (b : Nat) (zv : AV) (h : AHeap) (x : AV)
@[go_sem] theorem mkS_int (k : IntKind) (n : Int) : mkS (some ⟨ag, 1, b + 1, [.int k n], zv⟩) true h x = fMake 1 (b + 1) [.int k n] h x := mkS_pos _ _ _ _ _ _ _ (by omega) (by omega) rfl rfl
@[go_sem] theorem mkS_nils : mkS (some ⟨ag, 1, b + 1, [.nils], zv⟩) true h x = fMake 1 (b + 1) [.nils] h x := mkS_pos _ _ _ _ _ _ _ (by omega) (by omega) rfl rfl
@[go_sem] theorem mkS_bool (q : Bool) : mkS (some ⟨ag, 1, b + 1, [.bool q], zv⟩) true h x = fMake 1 (b + 1) [.bool q] h x := mkS_pos _ _ _ _ _ _ _ (by omega) (by omega) rfl rfl
@[go_sem] theorem cpT_pos (sz : Nat) (z : List AV) (d : AV) : cpT (some ⟨ag, sz + 1, b, z, zv⟩) h d x = fCopy (sz + 1) h d x := nrfl rfl
end
theorem make1 (b : Nat) (z : AV) (h : AHeap) (n : Nat) (h1 : n ≤ 9223372036854775807) (h2 : b * n ≤ 281474976710656) : fMake 1 b [z] h (.int .i64 (n : Nat)) = some (.sl h.n 0 0 n, newS 1 (List.replicate n [z]) h) := by
  simp only [fMake]
  rw [if_pos ⟨by omega, by omega, by rw [← Int.natCast_mul]; omega⟩]
  simp [fNewSl, newS]
theorem make1_own {α : Type} (f : α → AV) (m : Nat) (h : AHeap) (n : Nat) (a : α) (hm : m ≤ h.n) : Own1 f m (newS 1 (List.replicate n [f a]) h) (.sl h.n 0 0 n) (List.replicate n a) := by
  have := newS_own f m h (List.replicate n a) hm
  simpa using this
theorem Own1.cpy {α : Type} {f : α → AV} {m : Nat} {h : AHeap} {b g : Nat} {l : List α} {L : Nat} (H : Own1 f m h (.sl b g 0 L) l) {i n : Nat} (hi : i + n = L) {x : AV} {es : List α} (hx : elems 1 h x = some (es.map fun a => [f a])) :
    ∃ h', fCopy 1 h (.sl b g i n) x = some (.int .i64 (min es.length n : Nat), h') ∧ Own1 f m h' (.sl b g 0 L) (l.take i ++ (es.take n ++ l.drop (i + (es.take n).length))) ∧ HK (· = b) h h' := by
  rcases H with ⟨h1, _⟩ | ⟨b', g', sg, e, hB, hm, hb, hg⟩
  · cases h1
  · cases e
    simp only [fCopy, hx, hB]
    rw [if_pos ⟨trivial, trivial, trivial⟩]
    refine ⟨h.set b (.blk (Blk.over ⟨1, l.map fun a => [f a], g, sg, false⟩ i ((es.map fun a => [f a]).take n))), by simp, .inr ⟨b, g, g, ?_, ?_, hm, hb, Nat.le_refl _⟩, (HK.refl _ h).set _ (.inr rfl)⟩
    · have : l.length = i + n := by simp at hi; omega
      simp
      omega
    · rw [set_eq]
      simp [Blk.over, List.map_take, List.map_drop]
end Go.AM
/- Structs of parts. -/
namespace Go.AM
open Go Go.RowKit
set_option linter.unusedVariables false
set_option linter.unusedSimpArgs false
theorem bdQ_of {P : Program} {t : TypeId} {i : TI} {fs : Array Field} (ht : tinfo P t = some i) (hu : P.underlying t = some (.struct fs)) (hz : zeroOk i.zero = true) (places : List (Nat × Nat)) (hp : fs.toList.mapM (fun f => (P.info? f.type).map fun i => (f.offset, i.size)) = some places) (parts : List (Nat × AV)) :
    bdQ P t parts = (fillA (fun j => places[j]?) i.zero parts).map .agg := by
  simp only [bdQ, bdG, ht, hu, hp]
  rw [if_neg (by simp [hz])]
theorem fillC {pl : Nat → Option (Nat × Nat)} {cells : List AV} {j off : Nat} {a : AV} {rest : List (Nat × AV)} (hj : pl j = some (off, 1)) (ho : off < cells.length) (ha : a.isCell = true) : fillA pl cells ((j, a) :: rest) = fillA pl (cells.set off a) rest := by
  rw [fillA, hj]
  simp only [isCell_cells ha, isCell_known ha, List.length_singleton]
  rw [if_pos ⟨trivial, trivial, by omega⟩]
  congr 1
  rw [List.set_eq_take_append_cons_drop, if_pos ho]
  rfl
theorem fillG {pl : Nat → Option (Nat × Nat)} {cells : List AV} {j off n : Nat} {cs : List AV} {rest : List (Nat × AV)} (hj : pl j = some (off, n)) (ho : off + n ≤ cells.length) (hc : cs.length = n) : fillA pl cells ((j, .agg cs) :: rest) = fillA pl (cells.take off ++ (cs ++ cells.drop (off + n))) rest := by
  rw [fillA, hj]
  simp only [AV.cells, AV.known, hc]
  rw [if_pos ⟨trivial, trivial, by omega⟩]
theorem fillZ {pl : Nat → Option (Nat × Nat)} {cells : List AV} : fillA pl cells [] = some cells := rfl
@[go_sem] theorem bs_one_nils (ag : Bool) (b : Nat) (zv : AV) (h : AHeap) (a : AV) (ha : a.isCell = true) : bsT (some ⟨ag, 1, b, [.nils], zv⟩) 1 h [(0, a)] = some (.sl h.n 0 0 1, newS 1 [[a]] h) := bs_one _ _ _ _ rfl _ _ ha
@[go_sem] theorem bs_one_str (ag : Bool) (b : Nat) (s : List Int) (zv : AV) (h : AHeap) (a : AV) (ha : a.isCell = true) : bsT (some ⟨ag, 1, b, [.str s], zv⟩) 1 h [(0, a)] = some (.sl h.n 0 0 1, newS 1 [[a]] h) := bs_one _ _ _ _ rfl _ _ ha
theorem Cel.stA {h : AHeap} {b : Nat} {cs cs' : List AV} (H : Cel h b cs) (hl : cs'.length = cs.length) (hc : cs'.all AV.isCell = true) : ∃ h', fStore cs'.length h (.ptr b 0 0 0) (.agg cs') = some h' ∧ Cel h' b cs' ∧ HK (· = b) h h' ∧ h'.n = h.n := by
  obtain ⟨h', e, C, K, n⟩ := H.st (off := 0) (n := cs'.length) (x := .agg cs') rfl hc (by omega)
  refine ⟨h', e, ?_, K, n⟩
  have e2 : cs.drop (0 + cs'.length) = [] := List.drop_eq_nil_of_le (by omega)
  rw [e2] at C
  simpa [AV.cells] using C
theorem Cel.ldW {h : AHeap} {b : Nat} {cs : List AV} (H : Cel h b cs) : fLoad true cs.length h (.ptr b 0 0 0) = some (.agg cs) := by
  have := H.ldA (off := 0) (n := cs.length) (by omega)
  simpa using this
/-- One cell of a box, written. -/
theorem Cel.st1 {h : AHeap} {b : Nat} {cs : List AV} (H : Cel h b cs) (off : Nat) (ho : off < cs.length) (x : AV) (hx : x.isCell = true) : ∃ h', fStore 1 h (.ptr b 0 0 off) x = some h' ∧ Cel h' b (cs.set off x) ∧ HK (· = b) h h' ∧ h'.n = h.n := by
  obtain ⟨h', e, C, K, n⟩ := H.st (off := off) (n := 1) (x := x) (by rw [isCell_cells hx]; rfl) (by rw [isCell_cells hx]; simp [hx]) (by omega)
  refine ⟨h', e, ?_, K, n⟩
  rw [isCell_cells hx] at C
  rw [List.set_eq_take_append_cons_drop, if_pos ho]
  exact C
def Dj (v w : AV) : Prop := ∀ b, inV v b → ¬ inV w b
theorem Dj.nil (w : AV) : Dj .nils w := fun _ h => h.elim
theorem Dj.nil' (v : AV) : Dj v .nils := fun _ _ h => h.elim
theorem Dj.symm {v w : AV} (h : Dj v w) : Dj w v := fun b h1 h2 => h b h2 h1
end Go.AM
/- A call that was run in a memory of its own, in any other; what a memory reads as. -/
namespace Go.AM
open Go Go.RowKit
set_option linter.unusedVariables false
set_option linter.unusedSimpArgs false
mutual
/-- Its blocks, so many further. -/
def sft (k : Nat) : AV → AV
  | .ptr b g i f => .ptr (b + k) g i f
  | .sl b g i n => .sl (b + k) g i n
  | .map r => .map (r + k)
  | .fn g caps => .fn g (sfts k caps)
  | .agg cs => .agg (sfts k cs)
  | .tup vs => .tup (sfts k vs)
  | v => v
def sfts (k : Nat) : List AV → List AV
  | [] => []
  | v :: r => sft k v :: sfts k r
end
theorem sfts_map (k : Nat) : ∀ l : List AV, sfts k l = l.map (sft k)
  | [] => by simp [sfts]
  | v :: r => by simp [sfts, sfts_map k r]
def sftO (k : Nat) : AObj → AObj
  | .blk B => .blk { B with cells := B.cells.map (·.map (sft k)) }
  | .mp es => .mp (es.map fun e => (sft k e.1, sft k e.2))
def emb (h h0 : AHeap) : AHeap := ⟨fun i => if i < h.n then h.m i else (h0.m (i - h.n)).map (sftO h.n), h.n + h0.n⟩
theorem emb_keep (h h0 : AHeap) : HK no h (emb h h0) := ⟨Nat.le_add_right .., fun b hb _ => by simp [emb, hb]⟩
theorem emb_m (h h0 : AHeap) (b : Nat) : (emb h h0).m (b + h.n) = (h0.m b).map (sftO h.n) := by
  simp only [emb]
  rw [if_neg (by omega), Nat.add_sub_cancel]
def emp : AHeap := ⟨fun _ => none, 0⟩
def emb0 : Emb := ⟨fun _ _ => none, fun _ => none⟩
theorem rel0 (h : AHeap) (w : World) : Rel emb0 h w := ⟨fun _ _ _ e => (by cases e), fun _ _ e => (by cases e), fun _ _ _ e => (by cases e), fun _ _ _ _ _ _ e => (by cases e), fun _ _ _ _ _ e => (by cases e), fun _ _ e => (by cases e), fun _ _ _ e => (by cases e)⟩
/-- Without references. -/
def flat1 : AV → Bool
  | .bool _ | .int .. | .str _ | .nilp | .nils | .nilm | .nilf => true
  | _ => false
def flatV : AV → Bool
  | .agg cs | .tup cs => cs.all flat1
  | v => flat1 v
theorem flat1_rv {β β' : Emb} {v : AV} {c : Value} (h : RV β v c) (hf : flat1 v = true) : RV β' v c := by
  cases h with
  | bool b => exact .bool b
  | int k n => exact .int k n
  | str s l h => exact .str s l h
  | nilp => exact .nilp
  | nils => exact .nils
  | nilm => exact .nilm
  | nilf => exact .nilf
  | _ => cases hf
theorem flat_rv {β β' : Emb} {v : AV} {c : Value} (h : RV β v c) (hf : flatV v = true) : RV β' v c := by
  cases h with
  | agg cs cvs hl h => exact .agg cs cvs hl (fun i a v ha hv => flat1_rv (h i a v ha hv) (List.all_eq_true.1 hf a (List.mem_of_getElem? ha)))
  | tup cs cvs hl h => exact .tup cs cvs hl (fun i a v ha hv => flat1_rv (h i a v ha hv) (List.all_eq_true.1 hf a (List.mem_of_getElem? ha)))
  | bool b => exact .bool b
  | int k n => exact .int k n
  | str s l h => exact .str s l h
  | nilp => exact .nilp
  | nils => exact .nils
  | nilm => exact .nilm
  | nilf => exact .nilf
  | _ => cases hf
/-- Two memories' places, side by side. -/
def join (k : Nat) (β β1 : Emb) : Emb := ⟨fun b g => if b < k then β.bl b g else β1.bl (b - k) g, fun r => if r < k then β.mp r else β1.mp (r - k)⟩
theorem join_bl (k : Nat) (β β1 : Emb) (b g : Nat) : (join k β β1).bl (b + k) g = β1.bl b g := by
  simp only [join]
  rw [if_neg (by omega), Nat.add_sub_cancel]
theorem join_mp (k : Nat) (β β1 : Emb) (r : Nat) : (join k β β1).mp (r + k) = β1.mp r := by
  simp only [join]
  rw [if_neg (by omega), Nat.add_sub_cancel]
theorem rv_sft {k : Nat} {β β1 : Emb} {v : AV} {c : Value} (h : RV β1 v c) : RV (join k β β1) (sft k v) c := by
  have lists : ∀ (cs : List AV) (cvs : Array Value) (hl : cs.length = cvs.size) (ih : ∀ (i : Nat) (a : AV) (v : Value), cs[i]? = some a → cvs[i]? = some v → RV (join k β β1) (sft k a) v), (sfts k cs).length = cvs.size ∧ ∀ (i : Nat) (a : AV) (v : Value), (sfts k cs)[i]? = some a → cvs[i]? = some v → RV (join k β β1) a v := by
    intro cs cvs hl ih
    rw [sfts_map]
    refine ⟨by simpa using hl, fun i a v ha hv => ?_⟩
    rw [List.getElem?_map] at ha
    cases hx : cs[i]? with
    | none => rw [hx] at ha; cases ha
    | some x => rw [hx] at ha; cases ha; exact ih i x v hx hv
  induction h with
  | unk v => simp only [sft]; exact .unk v
  | bool b => simp only [sft]; exact .bool b
  | int k n => simp only [sft]; exact .int k n
  | str s l h => simp only [sft]; exact .str s l h
  | ptr b g i f l hl hi => simp only [sft]; exact .ptr _ g i f l (by rw [join_bl]; exact hl) hi
  | nilp => simp only [sft]; exact .nilp
  | sl b g i n l a cap hl hi hn hc ha => simp only [sft]; exact .sl _ g i n l a cap (by rw [join_bl]; exact hl) hi hn hc ha
  | nils => simp only [sft]; exact .nils
  | map r q h => simp only [sft]; exact .map _ q (by rw [join_mp]; exact h)
  | nilm => simp only [sft]; exact .nilm
  | fn g caps cvs hl h ih => simp only [sft]; obtain ⟨h1, h2⟩ := lists caps cvs hl ih; exact .fn g _ cvs h1 h2
  | nilf => simp only [sft]; exact .nilf
  | agg cs cvs hl h ih => simp only [sft]; obtain ⟨h1, h2⟩ := lists cs cvs hl ih; exact .agg _ cvs h1 h2
  | tup cs cvs hl h ih => simp only [sft]; obtain ⟨h1, h2⟩ := lists cs cvs hl ih; exact .tup _ cvs h1 h2
theorem sft_isCell (k : Nat) (v : AV) : (sft k v).isCell = v.isCell := by cases v <;> simp [sft, AV.isCell]
theorem sft_isKey (k : Nat) (v : AV) : isKey (sft k v) = isKey v := by cases v <;> simp [sft, isKey]
theorem join_rel {β β1 : Emb} {h h0 : AHeap} {w w' : World} (R : Rel β h w) (R1 : Rel β1 h0 w') (hp : Post emb0 β1 emp h0 w w') : Rel (join h.n β β1) (emb h h0) w' ∧ Post β (join h.n β β1) h (emb h h0) w w' := by
  have hext : Ext β (join h.n β β1) := by
    refine ⟨fun b g l hl => ?_, fun r q hr => ?_⟩
    · simp only [join]; rw [if_pos (R.dom b g l hl)]; exact hl
    · simp only [join]; rw [if_pos (R.mdom r q hr)]; exact hr
  have hblk : ∀ k, k < w.heap.size → w'.heap[k]? = w.heap[k]? := fun k hk => hp.fc.block k hk (fun _ _ _ e => (by cases e)) (fun _ e => (by cases e))
  have hnew : ∀ b g l, β1.bl b g = some l → w.heap.size ≤ l.k := fun b g l hl => by
    rcases hp.newk b g l hl with h | h | ⟨_, _, h, _⟩
    · cases h
    · exact h
    · cases h
  have hnewm : ∀ r k, β1.mp r = some k → w.heap.size ≤ k := fun r k hr => by
    rcases hp.newm r k hr with h | h
    · cases h
    · exact h.1
  have hmk : ∀ r k, β.mp r = some k → k < w.heap.size := fun r k hr => by
    obtain ⟨_, _, _, _, h1, _⟩ := R.mp r k hr
    exact (Array.getElem?_eq_some_iff.1 h1).1
  have hkl : ∀ b g l, β.bl b g = some l → l.k < w.heap.size := fun b g l hl => by
    obtain ⟨B, _, hb⟩ := R.blk b g l hl
    exact hb.klt
  have spl : ∀ b g l, (join h.n β β1).bl b g = some l → (b < h.n ∧ β.bl b g = some l) ∨ (h.n ≤ b ∧ β1.bl (b - h.n) g = some l) := fun b g l hl => by
    simp only [join] at hl
    split at hl
    · rename_i e; exact .inl ⟨e, hl⟩
    · rename_i e; exact .inr ⟨by omega, hl⟩
  have splm : ∀ r k, (join h.n β β1).mp r = some k → (r < h.n ∧ β.mp r = some k) ∨ (h.n ≤ r ∧ β1.mp (r - h.n) = some k) := fun r k hl => by
    simp only [join] at hl
    split at hl
    · rename_i e; exact .inl ⟨e, hl⟩
    · rename_i e; exact .inr ⟨by omega, hl⟩
  refine ⟨⟨fun b g l hl => ?_, fun r k hr => ?_, fun b g l hl => ?_, fun b g l b' g' l' hl hl' hk hro => ?_, fun b g l g' l' hl hl' hk => ?_, fun r k hr => ?_, fun r r' k hr hr' => ?_⟩, hext, ⟨hp.fc.os, hp.fc.tape, hp.fc.output, hp.fc.size, fun k hk _ _ => hblk k hk⟩, Nat.le_add_right .., fun b g l hl => ?_, fun b g l hl => ?_, fun r k hr => ?_⟩
  · rcases spl b g l hl with ⟨h1, _⟩ | ⟨h1, h2⟩
    · show b < h.n + h0.n; omega
    · have := R1.dom _ _ _ h2; show b < h.n + h0.n; omega
  · rcases splm r k hr with ⟨h1, _⟩ | ⟨h1, h2⟩
    · show r < h.n + h0.n; omega
    · have := R1.mdom _ _ h2; show r < h.n + h0.n; omega
  · rcases spl b g l hl with ⟨h1, h2⟩ | ⟨h1, h2⟩
    · obtain ⟨B, hB, hb⟩ := R.blk b g l h2
      exact ⟨B, by simp only [emb]; rw [if_pos h1]; exact hB, hb.keep hext (hblk _ hb.klt) hp.fc.size⟩
    · obtain ⟨B, hB, hb⟩ := R1.blk _ g l h2
      refine ⟨{ B with cells := B.cells.map (·.map (sft h.n)) }, by simp only [emb]; rw [if_neg (by omega), hB]; rfl, ?_⟩
      refine ⟨hb.esz, hb.ro, hb.gle, by simpa using hb.Lle, by simpa using hb.Leq, hb.sle, hb.pos, fun e he => ?_, fun e he v hv => ?_, hb.klt, fun hs i e f v hi he hv => ?_, hb.room⟩
      · obtain ⟨e', he', rfl⟩ := List.mem_map.1 he
        simpa using hb.len e' he'
      · obtain ⟨e', he', rfl⟩ := List.mem_map.1 he
        obtain ⟨v', hv', rfl⟩ := List.mem_map.1 hv
        rw [sft_isCell]; exact hb.isc e' he' v' hv'
      · simp only [List.getElem?_map] at he
        cases hx : B.cells[i]? with
        | none => rw [hx] at he; cases he
        | some e' =>
          rw [hx] at he
          cases he
          rw [List.getElem?_map] at hv
          cases hy : e'[f]? with
          | none => rw [hy] at hv; cases hv
          | some v' =>
            rw [hy] at hv
            cases hv
            obtain ⟨cv, h3, h4⟩ := hb.cell hs i e' f v' hi hx hy
            exact ⟨cv, h3, rv_sft h4⟩
  · rcases spl b g l hl with ⟨h1, h2⟩ | ⟨h1, h2⟩ <;> rcases spl b' g' l' hl' with ⟨h3, h4⟩ | ⟨h3, h4⟩
    · exact R.inj _ _ _ _ _ _ h2 h4 hk hro
    · have := hkl _ _ _ h2; have := hnew _ _ _ h4; omega
    · have := hkl _ _ _ h4; have := hnew _ _ _ h2; omega
    · have := R1.inj _ _ _ _ _ _ h2 h4 hk hro; omega
  · rcases spl b g l hl with ⟨h1, h2⟩ | ⟨h1, h2⟩ <;> rcases spl b g' l' hl' with ⟨h3, h4⟩ | ⟨h3, h4⟩
    · exact R.off _ _ _ _ _ h2 h4 hk
    · omega
    · omega
    · exact R1.off _ _ _ _ _ h2 h4 hk
  · rcases splm r k hr with ⟨h1, h2⟩ | ⟨h1, h2⟩
    · obtain ⟨es, he, ents, clock, h3, h4, h5⟩ := R.mp r k h2
      refine ⟨es, by simp only [emb]; rw [if_pos h1]; exact he, ents, clock, (hblk k (hmk r k h2)).trans h3, h4, fun i key v hi => ?_⟩
      obtain ⟨e, h6, h7, h8, h9⟩ := h5 i key v hi
      exact ⟨e, h6, h7, h8.mono hext, h9.mono hext⟩
    · obtain ⟨es, he, ents, clock, h3, h4, h5⟩ := R1.mp _ k h2
      refine ⟨es.map fun e => (sft h.n e.1, sft h.n e.2), by simp only [emb]; rw [if_neg (by omega), he]; rfl, ents, clock, h3, by simpa using h4, fun i key v hi => ?_⟩
      rw [List.getElem?_map] at hi
      cases hx : es[i]? with
      | none => rw [hx] at hi; cases hi
      | some p =>
        rw [hx] at hi
        cases hi
        obtain ⟨e, h6, h7, h8, h9⟩ := h5 i p.1 p.2 hx
        exact ⟨e, h6, by rw [sft_isKey]; exact h7, rv_sft h8, rv_sft h9⟩
  · rcases splm r k hr with ⟨h1, h2⟩ | ⟨h1, h2⟩ <;> rcases splm r' k hr' with ⟨h3, h4⟩ | ⟨h3, h4⟩
    · exact R.minj _ _ _ h2 h4
    · have := hmk _ _ h2; have := hnewm _ _ h4; omega
    · have := hmk _ _ h4; have := hnewm _ _ h2; omega
    · have := R1.minj _ _ _ h2 h4; omega
  · rcases spl b g l hl with ⟨h1, h2⟩ | ⟨h1, h2⟩
    · exact .inl h2
    · exact .inr (.inl (hnew _ _ _ h2))
  · rcases spl b g l hl with ⟨h1, h2⟩ | ⟨h1, h2⟩
    · exact .inl ⟨g, l, h2⟩
    · have := R1.dom _ _ _ h2
      exact .inr ⟨h1, by show b < h.n + h0.n; omega⟩
  · rcases splm r k hr with ⟨h1, h2⟩ | ⟨h1, h2⟩
    · exact .inl h2
    · have := R1.mdom _ _ h2
      exact .inr ⟨hnewm _ _ h2, h1, by show r < h.n + h0.n; omega⟩
theorem SC_emb {P : Program} {g : FuncId} {args : List AV} {Q : AV → AHeap → Prop} (H : SC P g args emp Q) (hf : args.all flatV = true) (h : AHeap) : SC P g args h (fun v h' => ∃ v0 h0, Q v0 h0 ∧ v = sft h.n v0 ∧ h' = emb h h0) := by
  refine ⟨H.1, fun β w cargs R F => Calls.mono (H.2 emb0 w cargs (rel0 _ w) ⟨F.1, fun i a v ha hv => flat_rv (F.2 i a v ha hv) (List.all_eq_true.1 hf a (List.mem_of_getElem? ha))⟩) (fun e w' he => ?_)⟩
  cases e with
  | returned cv =>
    obtain ⟨β1, v0, h0, h1, h2, h3, h4⟩ := he
    obtain ⟨h5, h6⟩ := join_rel R h3 h4
    exact ⟨join h.n β β1, sft h.n v0, emb h h0, ⟨v0, h0, h1, rfl, rfl⟩, rv_sft h2, h5, h6⟩
  | panicked ch => exact he.elim
  | outgrown => exact he.elim
/-! ### What a memory reads as -/
theorem SlP.emb {sz : Nat} {h0 : AHeap} {v : AV} {es : List (List AV)} (H : SlP sz h0 v es) (h : AHeap) : SlP sz (emb h h0) (sft h.n v) (es.map (·.map (sft h.n))) := by
  rcases H with ⟨rfl, rfl⟩ | ⟨b, g, i, B, rfl, hB, hb, h1, h2, h3⟩
  · exact .inl ⟨by simp [sft], rfl⟩
  · refine .inr ⟨b + h.n, g, i, { B with cells := B.cells.map (·.map (sft h.n)) }, by simp [sft], by rw [emb_m, hB]; rfl, by show b + h.n < h.n + h0.n; omega, h1, h2, ?_⟩
    simp only [List.length_map]
    rw [← List.map_drop, ← List.map_take, h3]
theorem Sl1.emb_int {k : IntKind} {h0 : AHeap} {v : AV} {l : List Int} (H : Sl1 (AV.int k) h0 v l) (h : AHeap) : Sl1 (AV.int k) (AM.emb h h0) (sft h.n v) l := by
  have := SlP.emb H h
  simpa [Sl1, sft, Function.comp_def] using this
theorem Sl1.emb_id {h0 : AHeap} {v : AV} {l : List AV} (H : Sl1 id h0 v l) (h : AHeap) : Sl1 id (AM.emb h h0) (sft h.n v) (l.map (sft h.n)) := by
  have := SlP.emb H h
  simpa [Sl1, Function.comp_def] using this
def slOf (sz : Nat) (h : AHeap) (v : AV) : Option (List (List AV)) := match v with
  | .nils => some []
  | .sl b g i n => match elems sz h (.sl b g i n) with
    | some es => if es.length = n ∧ b < h.n then some es else none
    | none => none
  | _ => none
theorem slOf_spec {sz : Nat} {h : AHeap} {v : AV} {es : List (List AV)} (H : slOf sz h v = some es) : SlP sz h v es := by
  unfold slOf at H
  split at H
  · cases H; exact .nil ..
  · rename_i b g i n
    split at H
    · rename_i es' he
      split at H
      · rename_i hc
        cases H
        simp only [elems] at he
        split at he
        · rename_i B hB
          split at he
          · rename_i hc2
            cases he
            exact .inr ⟨b, g, i, B, by rw [hc.1], hB, hc.2, hc2.2, hc2.1, by rw [hc.1]⟩
          · cases he
        · cases he
      · cases H
    · cases H
  · cases H
def intsOf (k : IntKind) : List (List AV) → Option (List Int)
  | [] => some []
  | [.int k' n] :: r => if k' = k then (intsOf k r).map (n :: ·) else none
  | _ => none
theorem intsOf_spec {k : IntKind} : ∀ {es : List (List AV)} {l : List Int}, intsOf k es = some l → es = l.map fun a => [AV.int k a]
  | [], l, h => by simp only [intsOf, Option.some.injEq] at h; subst h; rfl
  | e :: r, l, h => by
    unfold intsOf at h
    split at h
    · rename_i h1; cases h1
    · rename_i k' n r' h1
      cases h1
      split at h
      · rename_i hk
        subst hk
        cases hr : intsOf k' r with
        | none => rw [hr] at h; cases h
        | some l' => rw [hr] at h; cases h; rw [intsOf_spec hr]; rfl
      · cases h
    · cases h
def valsOf : List (List AV) → Option (List AV)
  | [] => some []
  | [v] :: r => (valsOf r).map (v :: ·)
  | _ => none
theorem valsOf_spec : ∀ {es : List (List AV)} {l : List AV}, valsOf es = some l → es = l.map fun a => [a]
  | [], l, h => by simp only [valsOf, Option.some.injEq] at h; subst h; rfl
  | e :: r, l, h => by
    unfold valsOf at h
    split at h
    · rename_i h1; cases h1
    · rename_i v r' h1
      cases h1
      cases hr : valsOf r with
      | none => rw [hr] at h; cases h
      | some l' => rw [hr] at h; cases h; rw [valsOf_spec hr]; rfl
    · cases h
/-- A slice of whole numbers. -/
def readI (k : IntKind) (h : AHeap) (v : AV) : Option (List Int) := (slOf 1 h v).bind (intsOf k)
theorem readI_spec {k : IntKind} {h : AHeap} {v : AV} {l : List Int} (H : readI k h v = some l) : Sl1 (AV.int k) h v l := by
  unfold readI at H
  cases hs : slOf 1 h v with
  | none => rw [hs] at H; cases H
  | some es =>
    rw [hs] at H
    have := intsOf_spec H
    subst this
    exact slOf_spec hs
def readV (h : AHeap) (v : AV) : Option (List AV) := (slOf 1 h v).bind valsOf
theorem readV_spec {h : AHeap} {v : AV} {l : List AV} (H : readV h v = some l) : Sl1 id h v l := by
  unfold readV at H
  cases hs : slOf 1 h v with
  | none => rw [hs] at H; cases H
  | some es =>
    rw [hs] at H
    have := valsOf_spec H
    subst this
    exact slOf_spec hs
end Go.AM
/- A call that was run in a small memory that it only reads, in a greater one where slices read alike. -/
namespace Go.AM
open Go Go.RowKit
set_option linter.unusedVariables false
set_option linter.unusedSimpArgs false
mutual
/-- big: the slices that the small memory's first blocks stand for; N: where its other blocks begin. -/
def ren (big : List AV) (N : Nat) : AV → AV
  | .ptr k g i f => (match big[k]? with
    | some (.sl b g' i' _) => .ptr b g' (i' + i) f
    | some _ => .unk
    | none => .ptr (k - big.length + N) g i f)
  | .sl k g i n => (match big[k]? with
    | some (.sl b g' i' _) => .sl b g' (i' + i) n
    | some _ => .unk
    | none => .sl (k - big.length + N) g i n)
  | .map r => .map (r - big.length + N)
  | .fn g caps => .fn g (rens big N caps)
  | .agg cs => .agg (rens big N cs)
  | .tup vs => .tup (rens big N vs)
  | v => v
def rens (big : List AV) (N : Nat) : List AV → List AV
  | [] => []
  | v :: r => ren big N v :: rens big N r
end
theorem rens_map (big : List AV) (N : Nat) : ∀ l : List AV, rens big N l = l.map (ren big N)
  | [] => by simp [rens]
  | v :: r => by simp [rens, rens_map big N r]
def renO (big : List AV) (N : Nat) : AObj → AObj
  | .blk B => .blk { B with cells := B.cells.map (·.map (ren big N)) }
  | .mp es => .mp (es.map fun e => (ren big N e.1, ren big N e.2))
def lenV : AV → Nat
  | .sl _ _ _ n => n
  | _ => 0
mutual
/-- Are all its references whole slices of the small memory's? -/
def closed (big : List AV) : AV → Bool
  | .ptr .. | .map _ | .unk => false
  | .sl k g i n => (match big[k]? with
    | some (.sl _ _ _ n') => g == 0 && i == 0 && n == n'
    | _ => false)
  | .fn _ caps => closeds big caps
  | .agg cs => closeds big cs
  | .tup vs => closeds big vs
  | _ => true
def closeds (big : List AV) : List AV → Bool
  | [] => true
  | v :: r => closed big v && closeds big r
end
theorem closeds_mem {big : List AV} : ∀ {l : List AV}, closeds big l = true → ∀ v ∈ l, closed big v = true
  | [], _, v, h => by cases h
  | u :: r, hc, v, h => by
    simp only [closeds, Bool.and_eq_true] at hc
    rcases List.mem_cons.1 h with rfl | h
    · exact hc.1
    · exact closeds_mem hc.2 v h
/-- The small memory: a block for each slice. es: what they read as. -/
structure View (big : List AV) (h1 h : AHeap) : Prop where
  n : h1.n = big.length
  m : ∀ k, k < big.length → ∃ b g i sz es, big[k]? = some (.sl b g i es.length) ∧ h1.m k = some (.blk ⟨sz, es, 0, 0, true⟩) ∧ SlP sz h (.sl b g i es.length) (es.map (·.map (ren big h.n))) ∧ ∀ e ∈ es, ∀ v ∈ e, closed big v = true
def small (big : List AV) (β : Emb) : Emb := ⟨fun k g => if g = 0 then (match big[k]? with
    | some (.sl b g' i n) => (match β.bl b g' with
      | some l => if i + n ≤ l.L ∧ i ≤ l.C then some ⟨l.k, l.o + i * l.esz, n, l.C - i, l.esz, true⟩ else none
      | none => none)
    | _ => none) else none, fun _ => none⟩
theorem rv_small {big : List AV} {N : Nat} {β : Emb} (v : AV) (c : Value) (hh : RV β (ren big N v) c) (hc : closed big v = true) : RV (small big β) v c := by
  match v, hh, hc with
  | .unk, _, _ => exact .unk c
  | .bool b, hh, _ => simp only [ren] at hh; cases hh; exact .bool b
  | .int k n, hh, _ => simp only [ren] at hh; cases hh; exact .int k n
  | .str l, hh, _ => simp only [ren] at hh; cases hh with | str s l hs => exact .str s _ hs
  | .ptr b g i f, hh, hc => simp [closed] at hc
  | .nilp, hh, _ => simp only [ren] at hh; cases hh; exact .nilp
  | .sl k g i n, hh, hc =>
    simp only [closed] at hc
    simp only [ren] at hh
    split at hc
    rotate_left
    · cases hc
    rename_i b g' i' n' hb
    simp only [Bool.and_eq_true, beq_iff_eq] at hc
    obtain ⟨⟨rfl, rfl⟩, rfl⟩ := hc
    rw [hb] at hh
    simp only [Nat.add_zero] at hh
    cases hh with
    | sl _ _ _ _ l a cap hl hi hn hcp ha =>
      refine .sl k 0 0 n ⟨l.k, l.o + i' * l.esz, n, l.C - i', l.esz, true⟩ a cap ?_ (by simp) hn (by simp only; omega) ?_
      · simp only [small, hb, hl]; rw [if_pos trivial, if_pos ⟨hi, by omega⟩]
      · simpa using ha
  | .nils, hh, _ => simp only [ren] at hh; cases hh; exact .nils
  | .map r, _, hc => simp [closed] at hc
  | .nilm, hh, _ => simp only [ren] at hh; cases hh; exact .nilm
  | .fn g caps, hh, hc =>
    simp only [ren, rens_map] at hh
    simp only [closed] at hc
    cases hh with
    | fn _ _ cvs hl hx => exact .fn g caps cvs (by simpa using hl) (fun i a v ha hv => by
        have hm := List.mem_of_getElem? ha
        exact rv_small a v (hx i _ v (by rw [List.getElem?_map, ha]; rfl) hv) (closeds_mem hc a hm))
  | .nilf, hh, _ => simp only [ren] at hh; cases hh; exact .nilf
  | .agg cs, hh, hc =>
    simp only [ren, rens_map] at hh
    simp only [closed] at hc
    cases hh with
    | agg _ cvs hl hx => exact .agg cs cvs (by simpa using hl) (fun i a v ha hv => by
        have hm := List.mem_of_getElem? ha
        exact rv_small a v (hx i _ v (by rw [List.getElem?_map, ha]; rfl) hv) (closeds_mem hc a hm))
  | .tup cs, hh, hc =>
    simp only [ren, rens_map] at hh
    simp only [closed] at hc
    cases hh with
    | tup _ cvs hl hx => exact .tup cs cvs (by simpa using hl) (fun i a v ha hv => by
        have hm := List.mem_of_getElem? ha
        exact rv_small a v (hx i _ v (by rw [List.getElem?_map, ha]; rfl) hv) (closeds_mem hc a hm))
termination_by SizeOf.sizeOf v
decreasing_by
  all_goals
    have := List.sizeOf_lt_of_mem hm
    simp_wf
    omega
theorem small_inv {big : List AV} {β : Emb} {k g : Nat} {l1 : Loc} (h : (small big β).bl k g = some l1) : g = 0 ∧ ∃ b g' i n l, big[k]? = some (.sl b g' i n) ∧ β.bl b g' = some l ∧ (i + n ≤ l.L ∧ i ≤ l.C) ∧ l1 = ⟨l.k, l.o + i * l.esz, n, l.C - i, l.esz, true⟩ := by
  simp only [small] at h
  split at h
  rotate_left
  · cases h
  rename_i hg
  split at h
  rotate_left
  · cases h
  rename_i b g' i n hb
  split at h
  rotate_left
  · cases h
  rename_i l hl
  split at h
  rotate_left
  · cases h
  rename_i hi
  cases h
  exact ⟨hg, b, g', i, n, l, hb, hl, hi, rfl⟩
theorem rel_small {big : List AV} {h1 h : AHeap} {β : Emb} {w : World} (V : View big h1 h) (R : Rel β h w) : Rel (small big β) h1 w := by
  refine ⟨fun k g l hl => ?_, fun _ _ e => (by cases e), fun k g l1 hl1 => ?_, fun k g l k' g' l' hl hl' hk hro => ?_, fun k g l g' l' hl hl' hk => ?_, fun _ _ e => (by cases e), fun _ _ _ e => (by cases e)⟩
  · obtain ⟨_, b, g', i, n, l, hb, _⟩ := small_inv hl
    rw [V.n]; exact (List.getElem?_eq_some_iff.1 hb).1
  · obtain ⟨rfl, b, g', i, n, l, hb, hl, hi, rfl⟩ := small_inv hl1
    have hk := (List.getElem?_eq_some_iff.1 hb).1
    obtain ⟨b', g2, i2, sz, es, e1, e2, e3, e4⟩ := V.m k hk
    rw [hb] at e1
    cases e1
    refine ⟨_, e2, ?_⟩
    obtain ⟨B, hB, hbr⟩ := R.blk b g' l hl
    rcases e3 with ⟨e3, _⟩ | ⟨b3, g3, i3, B3, e3, hB3, hlt, hs, hsz, hes⟩
    · cases e3
    simp only [List.length_map] at e3
    cases e3
    rw [hB] at hB3
    cases hB3
    have hmem : ∀ e ∈ es, e.map (ren big h.n) ∈ B.cells := fun e he => by
      have : e.map (ren big h.n) ∈ es.map (·.map (ren big h.n)) := List.mem_map.2 ⟨e, he, rfl⟩
      rw [← hes] at this
      exact List.mem_of_mem_drop (List.mem_of_mem_take this)
    refine ⟨by simp only; rw [hbr.esz, hsz], rfl, Nat.le_refl _, fun _ => Nat.le_refl _, fun _ => rfl, Nat.le_refl _, by simp only; rw [← hsz]; exact hbr.pos, fun e he => ?_, fun e he v hv => ?_, hbr.klt, fun _ j e f v hj he hv => ?_, fun h => (by cases h)⟩
    · have := hbr.len _ (hmem e he)
      simpa [hsz] using this
    · have := hbr.isc _ (hmem e he) (ren big h.n v) (List.mem_map.2 ⟨v, hv, rfl⟩)
      cases v <;> first | rfl | (simp [ren, AV.isCell] at this; done) | (have := e4 e he _ hv; simp [closed] at this; done)
    · simp only at hj he
      have hget : B.cells[i + j]? = some (e.map (ren big h.n)) := by
        have h2 : ((B.cells.drop i).take (es.map (·.map (ren big h.n))).length)[j]? = some (e.map (ren big h.n)) := by
          rw [hes, List.getElem?_map, he]; rfl
        simp only [List.length_map] at h2
        rw [List.getElem?_take, if_pos hj, List.getElem?_drop] at h2
        exact h2
      obtain ⟨cv, h3, h4⟩ := hbr.cell hs (i + j) _ f (ren big h.n v) (by omega) hget (by rw [List.getElem?_map, hv]; rfl)
      refine ⟨cv, ?_, rv_small v cv h4 (e4 e (List.mem_of_getElem? he) v (List.mem_of_getElem? hv))⟩
      rw [← h3]
      congr 2
      simp only [Nat.add_mul]
      omega
  · obtain ⟨_, _, _, _, _, _, _, _, _, rfl⟩ := small_inv hl
    cases hro
  · obtain ⟨rfl, h2⟩ := small_inv hl
    obtain ⟨rfl, h3⟩ := small_inv hl'
    rw [hl] at hl'
    cases hl'
    rfl
def great (n1 N : Nat) (β β1 : Emb) : Emb := ⟨fun j g => if j < N then β.bl j g else β1.bl (j - N + n1) g, fun r => if r < N then β.mp r else β1.mp (r - N + n1)⟩
def emV (big : List AV) (h h0 : AHeap) : AHeap := ⟨fun j => if j < h.n then h.m j else (h0.m (j - h.n + big.length)).map (renO big h.n), h.n + (h0.n - big.length)⟩
theorem emV_keep (big : List AV) (h h0 : AHeap) : HK no h (emV big h h0) := ⟨Nat.le_add_right .., fun b hb _ => by simp [emV, hb]⟩
theorem emV_m (big : List AV) (h h0 : AHeap) {k : Nat} (hk : big.length ≤ k) : (emV big h h0).m (k - big.length + h.n) = (h0.m k).map (renO big h.n) := by
  simp only [emV]
  rw [if_neg (by omega), show k - big.length + h.n - h.n + big.length = k by omega]
section
variable {big : List AV} {h1 h h0 : AHeap} {β β1 : Emb} {w w' : World}
theorem rv_great (hmp : ∀ r k, β1.mp r = some k → big.length ≤ r) (hsm : ∀ k g l, k < big.length → β1.bl k g = some l → (small big β).bl k g = some l) {v : AV} {c : Value} (hv : RV β1 v c) (hB : ∀ b g l, β.bl b g = some l → b < h.n) : RV (great big.length h.n β β1) (ren big h.n v) c := by
  have lists : ∀ (cs : List AV) (cvs : Array Value) (hl : cs.length = cvs.size) (ih : ∀ (i : Nat) (a : AV) (v : Value), cs[i]? = some a → cvs[i]? = some v → RV (great big.length h.n β β1) (ren big h.n a) v), (rens big h.n cs).length = cvs.size ∧ ∀ (i : Nat) (a : AV) (v : Value), (rens big h.n cs)[i]? = some a → cvs[i]? = some v → RV (great big.length h.n β β1) a v := by
    intro cs cvs hl ih
    rw [rens_map]
    refine ⟨by simpa using hl, fun i a v ha hv => ?_⟩
    rw [List.getElem?_map] at ha
    cases hx : cs[i]? with
    | none => rw [hx] at ha; cases ha
    | some x => rw [hx] at ha; cases ha; exact ih i x v hx hv
  have gl : ∀ k, big.length ≤ k → ∀ g, (great big.length h.n β β1).bl (k - big.length + h.n) g = β1.bl k g := fun k hk g => by
    simp only [great]
    rw [if_neg (by omega), show k - big.length + h.n - h.n + big.length = k by omega]
  have gl' : ∀ b g l, β.bl b g = some l → (great big.length h.n β β1).bl b g = some l := fun b g l hl => by
    simp only [great]
    rw [if_pos (hB b g l hl)]; exact hl
  induction hv with
  | unk v => simp only [ren]; exact .unk v
  | bool b => simp only [ren]; exact .bool b
  | int k n => simp only [ren]; exact .int k n
  | str s l h => simp only [ren]; exact .str s l h
  | ptr k g i f l hl hi =>
    simp only [ren]
    cases hb : big[k]? with
    | none =>
      simp only
      exact .ptr _ g i f l (by rw [gl k (List.getElem?_eq_none_iff.1 hb)]; exact hl) hi
    | some u =>
      have hk := (List.getElem?_eq_some_iff.1 hb).1
      obtain ⟨rfl, b, g', i', n, l', hb', hl', hi', rfl⟩ := small_inv (hsm k g l hk hl)
      rw [hb] at hb'
      cases hb'
      simp only
      have e : (⟨l'.k, l'.o + i' * l'.esz + (i * l'.esz + f), none⟩ : Addr) = ⟨l'.k, l'.o + ((i' + i) * l'.esz + f), none⟩ := by
        congr 1; simp only [Nat.add_mul]; omega
      have := RV.ptr (β := great big.length h.n β β1) b g' (i' + i) f l' (gl' _ _ _ hl') (by simp only at hi; omega)
      rw [← e] at this
      exact this
  | nilp => simp only [ren]; exact .nilp
  | sl k g i n l a cap hl hi hn hc ha =>
    simp only [ren]
    cases hb : big[k]? with
    | none =>
      simp only
      exact .sl _ g i n l a cap (by rw [gl k (List.getElem?_eq_none_iff.1 hb)]; exact hl) hi hn hc ha
    | some u =>
      have hk := (List.getElem?_eq_some_iff.1 hb).1
      obtain ⟨rfl, b, g', i', n', l', hb', hl', hi', rfl⟩ := small_inv (hsm k g l hk hl)
      rw [hb] at hb'
      cases hb'
      simp only at hi hc ha ⊢
      refine .sl b g' (i' + i) n l' a cap (gl' _ _ _ hl') (by omega) hn (by omega) ?_
      rcases ha with ha | ha
      · exact .inl ha
      · right; rw [ha]; congr 1; simp only [Nat.add_mul]; omega
  | nils => simp only [ren]; exact .nils
  | map r q hr =>
    simp only [ren]
    have h2 := hmp r q hr
    refine .map _ q ?_
    simp only [great]
    rw [if_neg (by omega), show r - big.length + h.n - h.n + big.length = r by omega]
    exact hr
  | nilm => simp only [ren]; exact .nilm
  | fn g caps cvs hl h ih => simp only [ren]; obtain ⟨h1, h2⟩ := lists caps cvs hl ih; exact .fn g _ cvs h1 h2
  | nilf => simp only [ren]; exact .nilf
  | agg cs cvs hl h ih => simp only [ren]; obtain ⟨h1, h2⟩ := lists cs cvs hl ih; exact .agg _ cvs h1 h2
  | tup cs cvs hl h ih => simp only [ren]; obtain ⟨h1, h2⟩ := lists cs cvs hl ih; exact .tup _ cvs h1 h2
theorem great_rel (V : View big h1 h) (hro : ∀ k, k < big.length → ∃ B, h0.m k = some (.blk B) ∧ B.gen = 0) (R : Rel β h w) (R1 : Rel β1 h0 w') (hp : Post (small big β) β1 h1 h0 w w') :
    Rel (great big.length h.n β β1) (emV big h h0) w' ∧ Post β (great big.length h.n β β1) h (emV big h h0) w w' ∧ (∀ v c, RV β1 v c → RV (great big.length h.n β β1) (ren big h.n v) c) := by
  have hn1 := V.n
  have hn0 := hp.n
  have smlt : ∀ k g l, (small big β).bl k g = some l → k < big.length := fun k g l hl => by
    obtain ⟨_, b, g', i, n, l', hb, _⟩ := small_inv hl
    exact (List.getElem?_eq_some_iff.1 hb).1
  have hsm : ∀ k g l, k < big.length → β1.bl k g = some l → (small big β).bl k g = some l := fun k g l hk hl => by
    rcases hp.newb k g l hl with ⟨g', l', h2⟩ | h2
    · obtain ⟨B, hB, hbr⟩ := R1.blk k g l hl
      obtain ⟨B', hB', hg⟩ := hro k hk
      rw [hB] at hB'
      cases hB'
      have hg0 : g = 0 := by have := hbr.gle; omega
      subst hg0
      obtain ⟨rfl, _⟩ := small_inv h2
      have h3 := hp.ext.bl _ _ _ h2
      rw [hl] at h3
      cases h3
      exact h2
    · omega
  have hmp : ∀ r k, β1.mp r = some k → big.length ≤ r ∧ w.heap.size ≤ k ∧ r < h0.n := fun r k hr => by
    rcases hp.newm r k hr with h | h
    · cases h
    · exact ⟨by omega, h.1, h.2.2⟩
  have hkl : ∀ b g l, β.bl b g = some l → l.k < w.heap.size := fun b g l hl => by
    obtain ⟨B, _, hb⟩ := R.blk b g l hl
    exact hb.klt
  have hmk : ∀ r k, β.mp r = some k → k < w.heap.size := fun r k hr => by
    obtain ⟨_, _, _, _, h1, _⟩ := R.mp r k hr
    exact (Array.getElem?_eq_some_iff.1 h1).1
  have hnew : ∀ k g l, big.length ≤ k → β1.bl k g = some l → w.heap.size ≤ l.k := fun k g l hk hl => by
    rcases hp.newk k g l hl with h | h | ⟨_, _, h, _⟩
    · have := smlt _ _ _ h; omega
    · exact h
    · have := smlt _ _ _ h; omega
  have spl : ∀ j g l, (great big.length h.n β β1).bl j g = some l → (j < h.n ∧ β.bl j g = some l) ∨ (∃ k, big.length ≤ k ∧ j = k - big.length + h.n ∧ β1.bl k g = some l) := fun j g l hl => by
    simp only [great] at hl
    split at hl
    · rename_i e; exact .inl ⟨e, hl⟩
    · rename_i e; exact .inr ⟨j - h.n + big.length, by omega, by omega, hl⟩
  have splm : ∀ r k, (great big.length h.n β β1).mp r = some k → (r < h.n ∧ β.mp r = some k) ∨ (∃ i, big.length ≤ i ∧ r = i - big.length + h.n ∧ β1.mp i = some k) := fun r k hl => by
    simp only [great] at hl
    split at hl
    · rename_i e; exact .inl ⟨e, hl⟩
    · rename_i e; exact .inr ⟨r - h.n + big.length, by omega, by omega, hl⟩
  have hext : Ext β (great big.length h.n β β1) := by
    refine ⟨fun b g l hl => ?_, fun r q hr => ?_⟩
    · simp only [great]; rw [if_pos (R.dom b g l hl)]; exact hl
    · simp only [great]; rw [if_pos (R.mdom r q hr)]; exact hr
  have hblk : ∀ k, k < w.heap.size → w'.heap[k]? = w.heap[k]? := fun k hk => hp.fc.block k hk (fun k g l hl _ => by
    obtain ⟨_, _, _, _, _, _, _, _, _, rfl⟩ := small_inv hl
    rfl) (fun _ e => (by cases e))
  have hrv : ∀ v c, RV β1 v c → RV (great big.length h.n β β1) (ren big h.n v) c := fun v c hv => rv_great (fun r k hr => (hmp r k hr).1) hsm hv R.dom
  have rcell : ∀ v : AV, v.isCell = true → (ren big h.n v).isCell = true := fun v hv => by
    cases v with
    | ptr k g i f =>
      simp only [ren]
      cases hb : big[k]? with
      | none => rfl
      | some u =>
        obtain ⟨b, g, i, sz, es, h2, _⟩ := V.m k (List.getElem?_eq_some_iff.1 hb).1
        rw [hb] at h2; cases h2; rfl
    | sl k g i n =>
      simp only [ren]
      cases hb : big[k]? with
      | none => rfl
      | some u =>
        obtain ⟨b, g, i, sz, es, h2, _⟩ := V.m k (List.getElem?_eq_some_iff.1 hb).1
        rw [hb] at h2; cases h2; rfl
    | unk => cases hv
    | agg => cases hv
    | tup => cases hv
    | _ => simp [ren, AV.isCell]
  have rkey : ∀ v : AV, isKey v = true → isKey (ren big h.n v) = true := fun v hv => by
    cases v <;> first | (simp [ren, isKey]; done) | cases hv
  refine ⟨⟨fun j g l hl => ?_, fun r k hr => ?_, fun j g l hl => ?_, fun b g l b' g' l' hl hl' hk hro => ?_, fun b g l g' l' hl hl' hk => ?_, fun r k hr => ?_, fun r r' k hr hr' => ?_⟩, ⟨hext, ⟨hp.fc.os, hp.fc.tape, hp.fc.output, hp.fc.size, fun k hk _ _ => hblk k hk⟩, Nat.le_add_right .., fun j g l hl => ?_, fun j g l hl => ?_, fun r k hr => ?_⟩, hrv⟩
  · show j < h.n + (h0.n - big.length)
    rcases spl j g l hl with ⟨h2, _⟩ | ⟨k, h2, rfl, h3⟩
    · omega
    · have := R1.dom _ _ _ h3; omega
  · show r < h.n + (h0.n - big.length)
    rcases splm r k hr with ⟨h2, _⟩ | ⟨i, h2, rfl, h3⟩
    · omega
    · have := (hmp i k h3).2.2; omega
  · rcases spl j g l hl with ⟨h2, h3⟩ | ⟨k, h2, rfl, h3⟩
    · obtain ⟨B, hB, hb⟩ := R.blk j g l h3
      exact ⟨B, by simp only [emV]; rw [if_pos h2]; exact hB, hb.keep hext (hblk _ hb.klt) hp.fc.size⟩
    · obtain ⟨B, hB, hb⟩ := R1.blk k g l h3
      refine ⟨{ B with cells := B.cells.map (·.map (ren big h.n)) }, by rw [emV_m _ _ _ h2, hB]; rfl, ?_⟩
      refine ⟨hb.esz, hb.ro, hb.gle, by simpa using hb.Lle, by simpa using hb.Leq, hb.sle, hb.pos, fun e he => ?_, fun e he v hv => ?_, hb.klt, fun hs i e f v hi he hv => ?_, hb.room⟩
      · obtain ⟨e', he', rfl⟩ := List.mem_map.1 he
        simpa using hb.len e' he'
      · obtain ⟨e', he', rfl⟩ := List.mem_map.1 he
        obtain ⟨v', hv', rfl⟩ := List.mem_map.1 hv
        exact rcell v' (hb.isc e' he' v' hv')
      · simp only [List.getElem?_map] at he
        cases hx : B.cells[i]? with
        | none => rw [hx] at he; cases he
        | some e' =>
          rw [hx] at he
          cases he
          rw [List.getElem?_map] at hv
          cases hy : e'[f]? with
          | none => rw [hy] at hv; cases hv
          | some v' =>
            rw [hy] at hv
            cases hv
            obtain ⟨cv, h4, h5⟩ := hb.cell hs i e' f v' hi hx hy
            exact ⟨cv, h4, hrv _ _ h5⟩
  · rcases spl b g l hl with ⟨h2, h3⟩ | ⟨k, h2, rfl, h3⟩ <;> rcases spl b' g' l' hl' with ⟨h2', h3'⟩ | ⟨k', h2', rfl, h3'⟩
    · exact R.inj _ _ _ _ _ _ h3 h3' hk hro
    · have := hkl _ _ _ h3; have := hnew _ _ _ h2' h3'; omega
    · have := hkl _ _ _ h3'; have := hnew _ _ _ h2 h3; omega
    · rw [R1.inj _ _ _ _ _ _ h3 h3' hk hro]
  · rcases spl b g l hl with ⟨h2, h3⟩ | ⟨k, h2, e, h3⟩ <;> rcases spl b g' l' hl' with ⟨h2', h3'⟩ | ⟨k', h2', e', h3'⟩
    · exact R.off _ _ _ _ _ h3 h3' hk
    · omega
    · omega
    · have : k = k' := by omega
      subst this
      exact R1.off _ _ _ _ _ h3 h3' hk
  · rcases splm r k hr with ⟨h2, h3⟩ | ⟨i, h2, rfl, h3⟩
    · obtain ⟨es, he, ents, clock, h4, h5, h6⟩ := R.mp r k h3
      refine ⟨es, by simp only [emV]; rw [if_pos h2]; exact he, ents, clock, (hblk k (hmk r k h3)).trans h4, h5, fun i key v hi => ?_⟩
      obtain ⟨e, h6, h7, h8, h9⟩ := h6 i key v hi
      exact ⟨e, h6, h7, h8.mono hext, h9.mono hext⟩
    · obtain ⟨es, he, ents, clock, h4, h5, h6⟩ := R1.mp i k h3
      refine ⟨es.map fun e => (ren big h.n e.1, ren big h.n e.2), by rw [emV_m _ _ _ h2, he]; rfl, ents, clock, h4, by simpa using h5, fun j key v hj => ?_⟩
      rw [List.getElem?_map] at hj
      cases hx : es[j]? with
      | none => rw [hx] at hj; cases hj
      | some p =>
        rw [hx] at hj
        cases hj
        obtain ⟨e, h7, h8, h9, h10⟩ := h6 j p.1 p.2 hx
        exact ⟨e, h7, rkey _ h8, hrv _ _ h9, hrv _ _ h10⟩
  · rcases splm r k hr with ⟨h2, h3⟩ | ⟨i, h2, rfl, h3⟩ <;> rcases splm r' k hr' with ⟨h2', h3'⟩ | ⟨i', h2', rfl, h3'⟩
    · exact R.minj _ _ _ h3 h3'
    · have := hmk _ _ h3; have := (hmp _ _ h3').2.1; omega
    · have := hmk _ _ h3'; have := (hmp _ _ h3).2.1; omega
    · rw [R1.minj _ _ _ h3 h3']
  · rcases spl j g l hl with ⟨h2, h3⟩ | ⟨k, h2, rfl, h3⟩
    · exact .inl h3
    · exact .inr (.inl (hnew _ _ _ h2 h3))
  · rcases spl j g l hl with ⟨h2, h3⟩ | ⟨k, h2, rfl, h3⟩
    · exact .inl ⟨g, l, h3⟩
    · have := R1.dom _ _ _ h3
      exact .inr ⟨by omega, by show _ < h.n + (h0.n - big.length); omega⟩
  · rcases splm r k hr with ⟨h2, h3⟩ | ⟨i, h2, rfl, h3⟩
    · exact .inl h3
    · have := hmp i k h3
      exact .inr ⟨this.2.1, by omega, by show _ < h.n + (h0.n - big.length); omega⟩
end
theorem SC_view {P : Program} {g : FuncId} {args : List AV} {big : List AV} {h1 h : AHeap} {Q : AV → AHeap → Prop} (H : SC P g args h1 Q) (V : View big h1 h) (hc : closeds big args = true)
    (hQ : ∀ v h0, Q v h0 → ∀ k, k < big.length → ∃ B, h0.m k = some (.blk B) ∧ B.gen = 0) :
    SC P g (args.map (ren big h.n)) h (fun v h' => ∃ v0 h0, Q v0 h0 ∧ v = ren big h.n v0 ∧ h' = emV big h h0) := by
  refine ⟨H.1, fun β w cargs R F => Calls.mono (H.2 (small big β) w cargs (rel_small V R) ⟨by simpa using F.1, fun i a v ha hv => rv_small a v (F.2 i _ v (by rw [List.getElem?_map, ha]; rfl) hv) (closeds_mem hc a (List.mem_of_getElem? ha))⟩) (fun e w' he => ?_)⟩
  cases e with
  | returned cv =>
    obtain ⟨β1, v0, h0, h2, h3, h4, h5⟩ := he
    obtain ⟨h6, h7, h8⟩ := great_rel V (hQ v0 h0 h2) R h4 h5
    exact ⟨great big.length h.n β β1, ren big h.n v0, emV big h h0, ⟨v0, h0, h2, rfl, rfl⟩, h8 _ _ h3, h6, h7⟩
  | panicked ch => exact he.elim
  | outgrown => exact he.elim
/-- What lies behind the view's blocks reads as it did. -/
theorem SlP.emV {sz : Nat} {big : List AV} {h h0 : AHeap} {v : AV} {es : List (List AV)} (H : SlP sz h0 v es) (hv : ∀ b, inV v b → big.length ≤ b) : SlP sz (AM.emV big h h0) (ren big h.n v) (es.map (·.map (ren big h.n))) := by
  rcases H with ⟨rfl, rfl⟩ | ⟨b, g, i, B, rfl, hB, hb, h1, h2, h3⟩
  · exact .inl ⟨by simp [ren], rfl⟩
  · have hb' : big.length ≤ b := hv b rfl
    have hn : big[b]? = none := List.getElem?_eq_none_iff.2 hb'
    refine .inr ⟨b - big.length + h.n, g, i, { B with cells := B.cells.map (·.map (ren big h.n)) }, by simp [ren, hn], by rw [emV_m _ _ _ hb', hB]; rfl, by show b - big.length + h.n < h.n + (h0.n - big.length); omega, h1, h2, ?_⟩
    simp only [List.length_map]
    rw [← List.map_drop, ← List.map_take, h3]
theorem Sl1.emV_int {k : IntKind} {big : List AV} {h h0 : AHeap} {v : AV} {l : List Int} (H : Sl1 (AV.int k) h0 v l) (hv : ∀ b, inV v b → big.length ≤ b) : Sl1 (AV.int k) (AM.emV big h h0) (ren big h.n v) l := by
  have := SlP.emV (h := h) H hv
  simpa [Sl1, ren, Function.comp_def] using this
theorem Sl1.emV_id {big : List AV} {h h0 : AHeap} {v : AV} {l : List AV} (H : Sl1 id h0 v l) (hv : ∀ b, inV v b → big.length ≤ b) : Sl1 id (AM.emV big h h0) (ren big h.n v) (l.map (ren big h.n)) := by
  have := SlP.emV (h := h) H hv
  simpa [Sl1, Function.comp_def] using this
/-- A view of one slice of whole numbers. -/
theorem View.one {k : IntKind} {h h1 : AHeap} {b g i n : Nat} {l : List Int} (H : Sl1 (AV.int k) h (.sl b g i n) l) (hn : h1.n = 1) (hm : h1.m 0 = some (.blk ⟨1, l.map fun a => [.int k a], 0, 0, true⟩)) : View [.sl b g i n] h1 h := by
  have hl : n = l.length := by
    rcases H with ⟨e, _⟩ | ⟨_, _, _, _, e, _⟩
    · cases e
    · cases e; simp
  subst hl
  refine ⟨by simpa using hn, fun j hj => ?_⟩
  have : j = 0 := by simpa using hj
  subst this
  refine ⟨b, g, i, 1, l.map fun a => [.int k a], by simp, hm, ?_, ?_⟩
  · simp only [List.length_map, List.map_map]
    have e : (List.map (ren [AV.sl b g i l.length] h.n) ∘ fun a => [AV.int k a]) = fun a => [AV.int k a] := by funext a; simp [ren]
    rw [e]
    exact H
  · intro e he v hv
    obtain ⟨a, _, rfl⟩ := List.mem_map.1 he
    simp only [List.mem_singleton] at hv
    subst hv
    rfl
end Go.AM
