/- Tries, lists at rest: by recursors, for the kernel's sake. -/
import Derived.Test.YtlobjaanabepgaaDoorMachA
import Derived.Test.YtlobjaanabepgaaDoorMachC
namespace Go.AM
open Go
set_option linter.unusedVariables false

inductive TR (α : Type) where
  | nil
  | node (v : α) (l r : TR α)
namespace TR
variable {α : Type}
noncomputable def get (d : α) (t : TR α) : Nat → α :=
  TR.rec (motive := fun _ => Nat → α) (fun _ => d) (fun v _ _ gl gr i => Nat.rec (motive := fun _ => α) v (fun j _ => Bool.rec (motive := fun _ => α) (gr (j / 2)) (gl (j / 2)) (Nat.beq (j % 2) 0)) i) t
theorem get_nil (d : α) (i : Nat) : get d .nil i = d := rfl
theorem get_zero (d v : α) (l r : TR α) : get d (.node v l r) 0 = v := rfl
theorem get_succ (d v : α) (l r : TR α) (j : Nat) : get d (.node v l r) (j + 1) = if j % 2 = 0 then get d l (j / 2) else get d r (j / 2) := by
  show Bool.rec (motive := fun _ => α) (get d r (j / 2)) (get d l (j / 2)) (Nat.beq (j % 2) 0) = _
  cases h : Nat.beq (j % 2) 0 with
  | true => rw [if_pos (Nat.eq_of_beq_eq_true h)]
  | false => rw [if_neg (Nat.ne_of_beq_eq_false h)]
noncomputable def put (d v : α) (D : Nat) : TR α → Nat → (TR α → Bool) → Bool :=
  Nat.rec (motive := fun _ => TR α → Nat → (TR α → Bool) → Bool) (fun _ _ _ => false)
    (fun _ ih t => TR.rec (motive := fun _ => Nat → (TR α → Bool) → Bool)
      (fun i k => Nat.rec (motive := fun _ => Bool) (k (.node v .nil .nil)) (fun j _ => Bool.rec (motive := fun _ => Bool) (ih .nil (j / 2) fun r => k (.node d .nil r)) (ih .nil (j / 2) fun l => k (.node d l .nil)) (Nat.beq (j % 2) 0)) i)
      (fun u l r _ _ i k => Nat.rec (motive := fun _ => Bool) (k (.node v l r)) (fun j _ => Bool.rec (motive := fun _ => Bool) (ih r (j / 2) fun r => k (.node u l r)) (ih l (j / 2) fun l => k (.node u l r)) (Nat.beq (j % 2) 0)) i) t) D
theorem brec {a b : Bool} {n : Nat} : (Bool.rec (motive := fun _ => Bool) a b (Nat.beq n 0)) = if n = 0 then b else a := by
  cases h : Nat.beq n 0 with
  | true => rw [if_pos (Nat.eq_of_beq_eq_true h)]
  | false => rw [if_neg (Nat.ne_of_beq_eq_false h)]
theorem put_spec (d v : α) : ∀ (D : Nat) (t : TR α) (i : Nat) (k : TR α → Bool), put d v D t i k = true → ∃ t', k t' = true ∧ ∀ j, get d t' j = if j = i then v else get d t j
  | 0, _, _, _, h => by cases h
  | D + 1, .nil, 0, k, h => ⟨.node v .nil .nil, h, fun j => by
      cases j with
      | zero => rfl
      | succ j => rw [get_succ, if_neg (show ¬ (j + 1 = 0) by omega)]; split <;> rfl⟩
  | D + 1, .nil, i + 1, k, h => by
    have h' : (if i % 2 = 0 then put d v D .nil (i / 2) (fun l => k (.node d l .nil)) else put d v D .nil (i / 2) fun r => k (.node d .nil r)) = true := by rw [← h, ← brec]; rfl
    by_cases hz : i % 2 = 0
    · rw [if_pos hz] at h'
      obtain ⟨l, h1, h2⟩ := put_spec d v D _ _ _ h'
      refine ⟨_, h1, fun j => ?_⟩
      cases j with
      | zero => rw [get_zero, if_neg (by omega)]; rfl
      | succ j =>
        rw [get_succ]
        by_cases hj : j % 2 = 0
        · rw [if_pos hj, h2]
          by_cases e : j / 2 = i / 2
          · rw [if_pos e, if_pos (by omega)]
          · rw [if_neg e, if_neg (by omega)]; rfl
        · rw [if_neg hj, if_neg (by omega)]; rfl
    · rw [if_neg hz] at h'
      obtain ⟨l, h1, h2⟩ := put_spec d v D _ _ _ h'
      refine ⟨_, h1, fun j => ?_⟩
      cases j with
      | zero => rw [get_zero, if_neg (by omega)]; rfl
      | succ j =>
        rw [get_succ]
        by_cases hj : j % 2 = 0
        · rw [if_pos hj, if_neg (by omega)]; rfl
        · rw [if_neg hj, h2]
          by_cases e : j / 2 = i / 2
          · rw [if_pos e, if_pos (by omega)]
          · rw [if_neg e, if_neg (by omega)]; rfl
  | D + 1, .node u l r, 0, k, h => ⟨.node v l r, h, fun j => by
      cases j with
      | zero => rfl
      | succ j => rw [get_succ, get_succ, if_neg (show ¬ j + 1 = 0 by omega)]⟩
  | D + 1, .node u l r, i + 1, k, h => by
    have h' : (if i % 2 = 0 then put d v D l (i / 2) (fun l => k (.node u l r)) else put d v D r (i / 2) fun r => k (.node u l r)) = true := by rw [← h, ← brec]; rfl
    by_cases hz : i % 2 = 0
    · rw [if_pos hz] at h'
      obtain ⟨l', h1, h2⟩ := put_spec d v D _ _ _ h'
      refine ⟨_, h1, fun j => ?_⟩
      cases j with
      | zero => rw [get_zero, if_neg (by omega)]; rfl
      | succ j =>
        rw [get_succ, get_succ]
        by_cases hj : j % 2 = 0
        · rw [if_pos hj, h2]
          by_cases e : j / 2 = i / 2
          · rw [if_pos e, if_pos (by omega)]
          · rw [if_neg e, if_neg (by omega), if_pos hj]
        · rw [if_neg hj, if_neg (by omega), if_neg hj]
    · rw [if_neg hz] at h'
      obtain ⟨l', h1, h2⟩ := put_spec d v D _ _ _ h'
      refine ⟨_, h1, fun j => ?_⟩
      cases j with
      | zero => rw [get_zero, if_neg (by omega)]; rfl
      | succ j =>
        rw [get_succ, get_succ]
        by_cases hj : j % 2 = 0
        · rw [if_pos hj, if_neg (by omega), if_pos hj]
        · rw [if_neg hj, h2]
          by_cases e : j / 2 = i / 2
          · rw [if_pos e, if_pos (by omega)]
          · rw [if_neg e, if_neg (by omega), if_neg hj]
end TR
noncomputable def lrest {α : Type} (g : α → (α → Bool) → Bool) (l : List α) : (List α → Bool) → Bool :=
  List.rec (motive := fun _ => (List α → Bool) → Bool) (fun k => k []) (fun x _ ih k => g x fun x => ih fun r => k (x :: r)) l
theorem lrest_eq {α : Type} (g : α → (α → Bool) → Bool) (hg : ∀ x k, g x k = k x) : ∀ (l : List α) (k : List α → Bool), lrest g l k = k l
  | [], k => rfl
  | x :: r, k => by
    have : lrest g (x :: r) k = g x fun x => lrest g r fun r => k (x :: r) := rfl
    rw [this, hg, lrest_eq g hg r]
end Go.AM
/- The kernel's machine, with tries: operations. -/
namespace Go.AM
open Go Go.RowKit
set_option linter.unusedVariables false
set_option linter.unusedSimpArgs false

abbrev FTt := TR AV
abbrev HTt := TR (Option AObj)
noncomputable def hq (t : HTt) (n : Nat) : AHeap := ⟨TR.get none t, n⟩
noncomputable def evT (ft : FTt) (x : Operand) : AV := match x with
  | .tmp t => TR.get (.tup []) ft t
  | .const v => ofValue v
  | .global _ => .unk
  | .func g => .fn g []
def FA (L : Nat) (ft : FTt) (f : Fr) : Prop := f.length = L ∧ ∀ i, TR.get (.tup []) ft i = f.getD i (.tup [])
theorem evT_eq {L : Nat} {ft : FTt} {f : Fr} (h : FA L ft f) : evT ft = evalO f := by
  funext x
  cases x with
  | tmp t => exact h.2 t
  | _ => rfl
noncomputable def putT (L : Nat) (ft : FTt) (o : Option Tmp) (v : AV) (k : FTt → Bool) : Bool := match o with
  | none => k ft
  | some d => match Nat.blt d L with
    | true => TR.put (.tup []) v 20 ft d k
    | false => false
theorem putT_spec {L : Nat} {ft : FTt} {f : Fr} (h : FA L ft f) {o : Option Tmp} {v : AV} {k : FTt → Bool} (H : putT L ft o v k = true) : ∃ ft', k ft' = true ∧ FA L ft' (putO f o v) := by
  unfold putT at H
  split at H
  · exact ⟨ft, H, h⟩
  · rename_i d
    split at H
    · rename_i hd
      have hlt : d < L := Nat.le_of_ble_eq_true hd
      obtain ⟨t', h1, h2⟩ := TR.put_spec _ _ _ _ _ _ H
      refine ⟨t', h1, by simp [putO, h.1], fun i => ?_⟩
      rw [h2]
      simp only [putO, List.getD_eq_getElem?_getD, List.getElem?_set]
      by_cases e : i = d
      · subst e
        rw [if_pos rfl, if_pos rfl, if_pos (by rw [h.1]; exact hlt)]
        rfl
      · rw [if_neg e, if_neg (Ne.symm e), h.2 i, List.getD_eq_getElem?_getD]
    · cases H
/-! ### Values at rest, by recursors -/
noncomputable def r0 (v : AV) (k : AV → Bool) : Bool := match v with
  | .int kd n => restI n fun n => k (.int kd n)
  | .bool b => restB b fun b => k (.bool b)
  | .ptr b g i f => restN b fun b => restN g fun g => restN i fun i => restN f fun f => k (.ptr b g i f)
  | .sl b g i n => restN b fun b => restN g fun g => restN i fun i => restN n fun n => k (.sl b g i n)
  | .str s => lrest restI s fun s => k (.str s)
  | v => k v
theorem r0_eq (v : AV) (k : AV → Bool) : r0 v k = k v := by
  cases v <;> simp [r0, restI_eq, restB_eq, restN_eq, lrest_eq restI restI_eq]
noncomputable def r1 (v : AV) (k : AV → Bool) : Bool := match v with
  | .agg cs => lrest r0 cs fun cs => k (.agg cs)
  | v => r0 v k
theorem r1_eq (v : AV) (k : AV → Bool) : r1 v k = k v := by
  cases v <;> simp [r1, r0_eq, lrest_eq r0 r0_eq]
noncomputable def r2 (v : AV) (k : AV → Bool) : Bool := match v with
  | .tup cs => lrest r1 cs fun cs => k (.tup cs)
  | .fn g cs => lrest r1 cs fun cs => k (.fn g cs)
  | v => r1 v k
theorem r2_eq (v : AV) (k : AV → Bool) : r2 v k = k v := by
  cases v <;> simp [r2, r1_eq, lrest_eq r1 r1_eq]
noncomputable def rE (e : AV × AV) (k : AV × AV → Bool) : Bool := match e with
  | (a, b) => r0 a fun a => r0 b fun b => k (a, b)
theorem rE_eq (e : AV × AV) (k : AV × AV → Bool) : rE e k = k e := by cases e; simp [rE, r0_eq]
noncomputable def spine {α : Type} (l : List α) : (List α → Bool) → Bool :=
  List.rec (motive := fun _ => (List α → Bool) → Bool) (fun k => k []) (fun x _ ih k => ih fun r => k (x :: r)) l
theorem spine_eq {α : Type} : ∀ (l : List α) (k : List α → Bool), spine l k = k l
  | [], k => rfl
  | x :: r, k => by
    have : spine (x :: r) k = spine r fun r => k (x :: r) := rfl
    rw [this, spine_eq r]
noncomputable def rC (cs : List (List AV)) (k : List (List AV) → Bool) : Bool := match cs with
  | [] => k []
  | [e] => lrest r0 e fun e => k [e]
  | a :: b :: r => spine r fun r => k (a :: b :: r)
theorem rC_eq (cs : List (List AV)) (k : List (List AV) → Bool) : rC cs k = k cs := by
  match cs with
  | [] => rfl
  | [e] => simp [rC, lrest_eq r0 r0_eq]
  | a :: b :: r => simp [rC, spine_eq]
noncomputable def rO (o : AObj) (k : AObj → Bool) : Bool := match o with
  | .blk ⟨esz, cells, gen, sgen, ro⟩ => rC cells fun cells => restN gen fun gen => restN sgen fun sgen => k (.blk ⟨esz, cells, gen, sgen, ro⟩)
  | .mp es => lrest rE es fun es => k (.mp es)
theorem rO_eq (o : AObj) (k : AObj → Bool) : rO o k = k o := by
  cases o with
  | blk B => cases B; simp [rO, restN_eq, rC_eq]
  | mp es => simp [rO, lrest_eq rE rE_eq]
/-! ### Operations -/
def qLoad (P : Program) (ev : Operand → AV) (h : AHeap) (t : TypeId) (a : Operand) : Option (AV × AHeap) := match tinfo P t with
  | some i => kLoad i h (ev a)
  | none => none
def qBin (P : Program) (h : AHeap) (op : BinOp) (t : TypeId) (x y : AV) : Option (AV × AHeap) := oBin P [] h op t x y
def qCall (P : Program) (ev : Operand → AV) (h : AHeap) (c : Call) : Option (AV × AHeap) := match c.callee with
  | .builtin b => bltF P h b c.argTypes (c.args.toList.map ev)
  | _ => none
def qop (P : Program) (ev : Operand → AV) (h : AHeap) (op : Op) : Option (AV × AHeap) := match op with
  | .move x => some (ev x, h)
  | .assign x => some (ev x, h)
  | .load t a => qLoad P ev h t a
  | .binOp op t x y _ => qBin P h op t (ev x) (ev y)
  | .extract x j => at_ h (fExtract (ev x) j)
  | .pick c a b => at_ h (fPick (ev c) (ev a) (ev b))
  | .call c => qCall P ev h c
  | op => aopE P ev h op
theorem qop_eq (P : Program) (f : Fr) (h : AHeap) (op : Op) : qop P (evalO f) h op = aopF P f h op := by
  rw [← kop_eq]
  cases op <;> rfl
def qtgt (ev : Operand → AV) (op : Op) : Option Nat := match op with
  | .store _ a _ => slB (ev a)
  | .mapUpdate _ m _ _ => slB (ev m)
  | .call c => match c.args.toList with
    | x :: _ => slB (ev x)
    | [] => none
  | _ => none
theorem qtgt_eq (f : Fr) (op : Op) : qtgt (evalO f) op = tgt f op := rfl
def qcallee (ev : Operand → AV) : Op → Option (FuncId × List AV)
  | .call c => match c.callee with
    | .value x => match ev x with
      | .fn g caps => some (g, c.args.toList.map ev ++ caps)
      | _ => none
    | _ => none
  | _ => none
theorem qcallee_eq (f : Fr) (op : Op) : qcallee (evalO f) op = calleeF f op := by
  cases op <;> rfl
theorem hq_ext {t : HTt} {n : Nat} {h : AHeap} (hn : h.n = n) (hm : ∀ j, TR.get none t j = h.m j) : hq t n = h := by
  cases h with
  | mk m n' => simp only [hq, AHeap.mk.injEq]; exact ⟨funext hm, hn.symm⟩
noncomputable def qsync (t : HTt) (n : Nat) (v : AV) (h' : AHeap) (tg : Option Nat) (k : AV → HTt → Nat → Bool) : Bool :=
  match Nat.beq h'.n n with
  | true => match tg with
    | some b => match h'.m b with
      | some o => rO o fun o => TR.put none (some o) 40 t b fun t => r2 v fun v => k v t n
      | none => false
    | none => r2 v fun v => k v t n
  | false => match h'.m n with
    | some o => rO o fun o => TR.put none (some o) 40 t n fun t => r2 v fun v => k v t (n + 1)
    | none => false
theorem qsync_spec {t : HTt} {n : Nat} {v : AV} {h' : AHeap} {f : Fr} {op : Op} (hmv : Moves f op (hq t n) h') {k : AV → HTt → Nat → Bool} (H : qsync t n v h' (tgt f op) k = true) : ∃ t' n', hq t' n' = h' ∧ k v t' n' = true := by
  unfold qsync at H
  rcases hmv with rfl | ⟨o, rfl⟩ | ⟨b, o, ht, rfl⟩
  · have e : Nat.beq (hq t n).n n = true := Nat.beq_refl n
    rw [e] at H
    simp only at H
    split at H
    · rename_i b hb
      split at H
      · rename_i o ho
        rw [rO_eq] at H
        obtain ⟨t', h1, h2⟩ := TR.put_spec _ _ _ _ _ _ H
        rw [r2_eq] at h1
        refine ⟨t', n, hq_ext rfl (fun j => ?_), h1⟩
        rw [h2]
        split
        · rename_i e; rw [e]; exact ho.symm
        · rfl
      · cases H
    · rw [r2_eq] at H
      exact ⟨t, n, rfl, H⟩
  · have e : Nat.beq ((hq t n).push o).n n = false := by
      cases q : Nat.beq ((hq t n).push o).n n with
      | false => rfl
      | true =>
        have := Nat.eq_of_beq_eq_true q
        simp [hq, AHeap.push] at this
    have e2 : ((hq t n).push o).m n = some o := by simp [hq, AHeap.push]
    rw [e, e2] at H
    simp only [rO_eq] at H
    obtain ⟨t', h1, h2⟩ := TR.put_spec _ _ _ _ _ _ H
    rw [r2_eq] at h1
    exact ⟨t', n + 1, hq_ext rfl (fun j => by rw [h2]; rfl), h1⟩
  · have e : Nat.beq ((hq t n).set b o).n n = true := Nat.beq_refl n
    have e2 : ((hq t n).set b o).m b = some o := set_at ..
    rw [e, ht] at H
    simp only [e2, rO_eq] at H
    obtain ⟨t', h1, h2⟩ := TR.put_spec _ _ _ _ _ _ H
    rw [r2_eq] at h1
    exact ⟨t', n, hq_ext rfl (fun j => by rw [h2]; rfl), h1⟩
abbrev QT := FuncId → List AV → HTt → Nat → (AV → HTt → Nat → Bool) → Bool
noncomputable def qOp (P : Program) (call : QT) (ft : FTt) (t : HTt) (n : Nat) (op : Op) (k : AV → HTt → Nat → Bool) : Bool :=
  match isCallV op with
  | true => match qcallee (evT ft) op with
    | some p => call p.1 p.2 t n k
    | none => false
  | false => match qop P (evT ft) (hq t n) op with
    | some p => qsync t n p.1 p.2 (qtgt (evT ft) op) k
    | none => false
noncomputable def qwant (ops : Array Oper) (ft : FTt) (o : Oper) (yes no : Unit → Bool) : Bool :=
  match o.guard with
  | none => yes ()
  | some (j, want) => match (ops[j]?).bind (·.dst) with
    | some d => (match TR.get (.tup []) ft d with
      | .bool b => (match b == want with
        | true => yes ()
        | false => no ())
      | .tup [] => no ()
      | _ => false)
    | none => no ()
theorem qwant_spec {L : Nat} {ops : Array Oper} {ft : FTt} {f : Fr} (h : FA L ft f) {o : Oper} {yes no : Unit → Bool} (H : qwant ops ft o yes no = true) {Y N : Fr → Prop} (hy : yes () = true → Y f) (hn : no () = true → N f) : wantedA ops f o Y N := by
  refine wantB_spec (yes := yes) (no := no) ?_ hy hn
  unfold qwant at H
  unfold wantB
  simp only [h.2] at H
  exact H
def QTOk (P : Program) (call : QT) : Prop := ∀ g args t n k, call g args t n k = true → SC P g args (hq t n) (fun v h => ∃ t' n', h = hq t' n' ∧ k v t' n' = true)
theorem qOp_spec {P : Program} {call : QT} (hc : QTOk P call) {L : Nat} {ft : FTt} {f : Fr} (hf : FA L ft f) {t : HTt} {n : Nat} {op : Op} {k : AV → HTt → Nat → Bool} (H : qOp P call ft t n op k = true) {K : AV → AHeap → Prop} (hK : ∀ v t n, k v t n = true → K v (hq t n)) :
    aop P (SC P) f (hq t n) op K := by
  unfold qOp at H
  rw [evT_eq hf, qcallee_eq, qop_eq, qtgt_eq] at H
  unfold aop
  split at H
  · rename_i e
    rw [e]
    simp only
    split at H
    · rename_i p hp'
      rw [hp']
      exact SC_mono (hc _ _ _ _ _ H) (fun v h ⟨t', n', e1, e2⟩ => by rw [e1]; exact hK _ _ _ e2)
    · cases H
  · rename_i e
    rw [e]
    simp only
    split at H
    · rename_i p hp'
      rw [hp']
      obtain ⟨t', n', h1, h2⟩ := qsync_spec (aopF_moves hp') H
      unfold bind2
      simp only
      rw [← h1]
      exact hK _ _ _ h2
    · cases H
end Go.AM
/- One dispatch an operation, by the recursor, with closed arms. -/
namespace Go.AM
open Go Go.RowKit
set_option linter.unusedVariables false
set_option linter.unusedSimpArgs false

abbrev OH := Program → QT → FTt → HTt → Nat → (AV → HTt → Nat → Bool) → Bool
/-- Where memory stands as it stood. -/
noncomputable def stay (p : Option (AV × AHeap)) (t : HTt) (n : Nat) (k : AV → HTt → Nat → Bool) : Bool := match p with
  | some p => k p.1 t n
  | none => false
noncomputable def hGen (op : Op) : OH := fun P call ft t n k => match aopE P (evT ft) (hq t n) op with
  | some p => qsync t n p.1 p.2 (qtgt (evT ft) op) k
  | none => false
noncomputable def hMove (x : Operand) : OH := fun P call ft t n k => k (evT ft x) t n
noncomputable def hPick (c a b : Operand) : OH := fun P call ft t n k => match evT ft c with
  | .bool q => Bool.rec (motive := fun _ => Bool) (k (evT ft b) t n) (k (evT ft a) t n) q
  | _ => false
noncomputable def hLoad (ty : TypeId) (a : Operand) : OH := fun P call ft t n k => match qLoad P (evT ft) (hq t n) ty a with
  | some p => k p.1 t n
  | none => false
noncomputable def hBin (op : BinOp) (ty : TypeId) (x y : Operand) : OH := fun P call ft t n k => match qBin P (hq t n) op ty (evT ft x) (evT ft y) with
  | some p => r0 p.1 fun v => k v t n
  | none => false
noncomputable def hExtract (x : Operand) (j : Nat) : OH := fun P call ft t n k => match evT ft x with
  | .tup vs => (match vs[j]? with
    | some v => k v t n
    | none => false)
  | _ => false
noncomputable def hCall (c : Call) : OH := fun P call ft t n k => match c.callee with
  | .builtin b => (match bltF P (hq t n) b c.argTypes (c.args.toList.map (evT ft)) with
    | some p => qsync t n p.1 p.2 (match c.args.toList with
      | x :: _ => slB (evT ft x)
      | [] => none) k
    | none => false)
  | .value x => (match evT ft x with
    | .fn g caps => call g (c.args.toList.map (evT ft) ++ caps) t n k
    | _ => false)
  | .invoke _ _ => false
noncomputable def opR (op : Op) : OH := Op.rec (motive := fun _ => OH)
  (fun x => hMove x) (fun x => hMove x) (fun c a b => hPick c a b) (fun t => hGen (.alloc t)) (fun t v => hGen (.box t v)) (fun t p => hGen (.build t p)) (fun t l p => hGen (.buildSlice t l p)) (fun t m k v => hGen (.insert t m k v))
  (fun t a => hLoad t a) (fun t a v => hGen (.store t a v)) (fun g => hGen (.ready g)) (fun g => hGen (.waits g)) (fun x => hGen (.nilCheck x)) (fun op t x y u => hBin op t x y) (fun op t x => hGen (.unOp op t x))
  (fun s d x => hGen (.convert s d x)) (fun d x => hGen (.sliceToArrayPointer d x)) (fun t x => hGen (.makeInterface t x)) (fun f a c => hGen (.makeFunc f a c)) (fun t r => hGen (.makeMap t r)) (fun t s => hGen (.makeChan t s))
  (fun t l c => hGen (.makeSlice t l c)) (fun t x l h m => hGen (.slice t x l h m)) (fun t x f => hGen (.fieldAddr t x f)) (fun t x f => hGen (.field t x f)) (fun t x i => hGen (.indexAddr t x i)) (fun t x i => hGen (.index t x i))
  (fun t x i o => hGen (.lookup t x i o)) (fun t m k v => hGen (.mapUpdate t m k v)) (fun t m k => hGen (.mapEntry t m k)) (fun t m s v => hGen (.entryStore t m s v)) (fun t x => hGen (.range t x)) (fun i s => hGen (.next i s)) (fun i => hGen (.entry i))
  (fun x t a o => hGen (.typeAssert x t a o)) (fun t i => hExtract t i) (fun c => hCall c) (fun c => hGen (.go c)) (fun c => hGen (.defer c)) (fun x => hGen (.panic x)) (fun c x => hGen (.send c x)) (fun t c o => hGen (.recv t c o)) (fun c b => hGen (.select c b)) op
/-- What an arm must do. -/
def ArmOk (op : Op) (H : OH) : Prop := ∀ {P : Program} {call : QT}, QTOk P call → ∀ {L : Nat} {ft : FTt} {f : Fr}, FA L ft f → ∀ {t : HTt} {n : Nat} {k : AV → HTt → Nat → Bool}, H P call ft t n k = true → ∀ {K : AV → AHeap → Prop}, (∀ v t n, k v t n = true → K v (hq t n)) →
  aop P (SC P) f (hq t n) op K
theorem gen_ok {op : Op} (hv : isCallV op = false) : ArmOk op (hGen op) := by
  intro P call hc L ft f hf t n k H K hK
  unfold hGen at H
  rw [evT_eq hf, qtgt_eq] at H
  unfold aop
  rw [hv]
  simp only
  split at H
  · rename_i p hp
    have hp' : aopF P f (hq t n) op = some p := hp
    rw [hp']
    obtain ⟨t', n', h1, h2⟩ := qsync_spec (aopF_moves hp') H
    unfold bind2
    simp only
    rw [← h1]
    exact hK _ _ _ h2
  · cases H
theorem same_ok {P : Program} {f : Fr} {h : AHeap} {op : Op} (hv : isCallV op = false) {v : AV} (hp : aopF P f h op = some (v, h)) {K : AV → AHeap → Prop} (hK : K v h) : aop P (SC P) f h op K := by
  unfold aop
  rw [hv]
  simp only [hp]
  exact hK
end Go.AM
/- The arms are right. -/
namespace Go.AM
open Go Go.RowKit
set_option linter.unusedVariables false
set_option linter.unusedSimpArgs false

theorem move_ok (x : Operand) : ArmOk (.move x) (hMove x) := by
  intro P call hc L ft f hf t n k H K hK
  unfold hMove at H
  rw [evT_eq hf] at H
  exact same_ok rfl rfl (hK _ _ _ H)
theorem assign_ok (x : Operand) : ArmOk (.assign x) (hMove x) := by
  intro P call hc L ft f hf t n k H K hK
  unfold hMove at H
  rw [evT_eq hf] at H
  exact same_ok rfl rfl (hK _ _ _ H)
theorem pick_ok (c a b : Operand) : ArmOk (.pick c a b) (hPick c a b) := by
  intro P call hc L ft f hf t n k H K hK
  unfold hPick at H
  rw [evT_eq hf] at H
  split at H
  · rename_i q hq'
    have e : aopF P f (hq t n) (.pick c a b) = some (pickV q (evalO f a) (evalO f b), hq t n) := by
      show at_ (hq t n) (fPick (evalO f c) (evalO f a) (evalO f b)) = _
      rw [hq']
      rfl
    refine same_ok rfl e ?_
    cases q with
    | true => rw [pickV_true]; exact hK _ _ _ H
    | false => rw [pickV_false]; exact hK _ _ _ H
  · cases H
theorem load_ok (ty : TypeId) (a : Operand) : ArmOk (.load ty a) (hLoad ty a) := by
  intro P call hc L ft f hf t n k H K hK
  unfold hLoad at H
  rw [evT_eq hf] at H
  split at H
  · rename_i p hp
    have e : aopF P f (hq t n) (.load ty a) = some p := by rw [← qop_eq]; exact hp
    obtain ⟨v, h1⟩ := p
    have := soft_heap (P := P) rfl e
    subst this
    exact same_ok rfl e (hK _ _ _ H)
  · cases H
theorem bin_ok (op : BinOp) (ty u : TypeId) (x y : Operand) : ArmOk (.binOp op ty x y u) (hBin op ty x y) := by
  intro P call hc L ft f hf t n k H K hK
  unfold hBin at H
  rw [evT_eq hf] at H
  split at H
  · rename_i p hp
    have e : aopF P f (hq t n) (.binOp op ty x y u) = some p := by rw [← qop_eq]; exact hp
    rw [r0_eq] at H
    obtain ⟨v, h1⟩ := p
    have := soft_heap (P := P) rfl e
    subst this
    exact same_ok rfl e (hK _ _ _ H)
  · cases H
theorem extract_ok (x : Operand) (j : Nat) : ArmOk (.extract x j) (hExtract x j) := by
  intro P call hc L ft f hf t n k H K hK
  unfold hExtract at H
  rw [evT_eq hf] at H
  split at H
  · rename_i vs hvs
    split at H
    · rename_i v hv
      have e : aopF P f (hq t n) (.extract x j) = some (v, hq t n) := by
        show at_ (hq t n) (fExtract (evalO f x) j) = _
        rw [hvs]
        simp only [fExtract, hv]
        rfl
      exact same_ok rfl e (hK _ _ _ H)
    · cases H
  · cases H
theorem call_ok (c : Call) : ArmOk (.call c) (hCall c) := by
  intro P call hc L ft f hf t n k H K hK
  unfold hCall at H
  rw [evT_eq hf] at H
  cases hce : c.callee with
  | builtin b =>
    rw [hce] at H
    simp only at H
    have hv : isCallV (.call c) = false := by simp [isCallV, hce]
    split at H
    · rename_i p hp
      have hp' : aopF P f (hq t n) (.call c) = some p := by
        simp only [aopF, aopE, hce]
        exact hp
      obtain ⟨t', n', h1, h2⟩ := qsync_spec (f := f) (op := .call c) (aopF_moves hp') H
      unfold aop
      rw [hv]
      simp only [hp']
      unfold bind2
      simp only
      rw [← h1]
      exact hK _ _ _ h2
    · cases H
  | value x =>
    rw [hce] at H
    simp only at H
    have hv : isCallV (.call c) = true := by simp [isCallV, hce]
    split at H
    · rename_i g caps hg
      unfold aop
      rw [hv]
      have e : calleeF f (.call c) = some (g, c.args.toList.map (evalO f) ++ caps) := by simp [calleeF, hce, hg]
      simp only [e]
      exact SC_mono (hc _ _ _ _ _ H) (fun v h ⟨t', n', e1, e2⟩ => by rw [e1]; exact hK _ _ _ e2)
    · cases H
  | invoke r m =>
    rw [hce] at H
    cases H
theorem arm_key (op : Op) (e : opR op = hGen op) (hv : isCallV op = false) : ArmOk op (opR op) := by
  rw [e]
  intro P call hc L ft f hf t n k H K hK
  exact gen_ok hv hc hf H hK
theorem opR_ok (op : Op) : ArmOk op (opR op) := by
  cases op with
  | move x => exact move_ok x
  | assign x => exact assign_ok x
  | pick c a b => exact pick_ok c a b
  | load t a => exact load_ok t a
  | binOp op t x y u => exact bin_ok op t u x y
  | extract x j => exact extract_ok x j
  | call c => exact call_ok c
  | _ => exact arm_key _ rfl rfl
end Go.AM
/- The kernel's machine, with tries: regions, code, calls. -/
namespace Go.AM
open Go Go.RowKit
set_option linter.unusedVariables false
set_option linter.unusedSimpArgs false

noncomputable def qOps (P : Program) (call : QT) (L : Nat) (ops : Array Oper) (l : List Oper) : FTt → HTt → Nat → (FTt → HTt → Nat → Bool) → Bool :=
  List.rec (motive := fun _ => FTt → HTt → Nat → (FTt → HTt → Nat → Bool) → Bool) (fun ft t n k => k ft t n)
    (fun o _ ih ft t n k => qwant ops ft o (fun _ => opR o.op P call ft t n fun v t n => putT L ft o.dst v fun ft => ih ft t n k) (fun _ => putT L ft o.dst (.tup []) fun ft => ih ft t n k)) l
theorem qOps_spec {P : Program} {call : QT} (hc : QTOk P call) {L : Nat} {ops : Array Oper} {k : FTt → HTt → Nat → Bool} {K : Fr → AHeap → Prop} (hK : ∀ ft f t n, FA L ft f → k ft t n = true → K f (hq t n)) : ∀ (l : List Oper) (ft : FTt) (f : Fr) (t : HTt) (n : Nat), FA L ft f → qOps P call L ops l ft t n k = true →
    execOps P (SC P) ops l f (hq t n) K
  | [], ft, f, t, n, hf, H => hK ft f t n hf H
  | o :: rest, ft, f, t, n, hf, H => by
    have H' : qwant ops ft o (fun _ => opR o.op P call ft t n fun v t n => putT L ft o.dst v fun ft => qOps P call L ops rest ft t n k) (fun _ => putT L ft o.dst (.tup []) fun ft => qOps P call L ops rest ft t n k) = true := H
    unfold execOps
    refine qwant_spec hf H' (fun H => ?_) (fun H => ?_)
    · refine opR_ok o.op hc hf H (fun v t n H => ?_)
      obtain ⟨ft', h1, h2⟩ := putT_spec hf H
      exact qOps_spec hc hK rest ft' _ t n h2 h1
    · obtain ⟨ft', h1, h2⟩ := putT_spec hf H
      exact qOps_spec hc hK rest ft' _ t n h2 h1
def qlags (P : Program) (b : Array Nat) (i : Nat) (ev : Operand → AV) (h : AHeap) : Pend → Bool
  | [] => true
  | (j, op, v) :: r => match ordB b j i with
    | true => qlags P b i ev h r
    | false => match qop P ev h op with
      | some p => (match sameV p.1 v with
        | true => qlags P b i ev h r
        | false => false)
      | none => false
theorem qlags_eq {P : Program} {b : Array Nat} {i : Nat} {f : Fr} {h : AHeap} : ∀ {p : Pend}, qlags P b i (evalO f) h p = true → lagsB P b i f h p = true
  | [], _ => rfl
  | (j, op, v) :: r, H => by
    unfold qlags at H
    unfold lagsB
    split at H
    · rename_i e; rw [e]; exact qlags_eq H
    · rename_i e
      rw [e]
      rw [qop_eq] at H
      simp only
      split at H
      · rename_i p hp
        rw [hp]
        simp only
        split at H
        · rename_i q; rw [q]; exact qlags_eq H
        · cases H
      · cases H
noncomputable def qD (P : Program) (call : QT) (L : Nat) (ops : Array Oper) (b : Array Nat) (m : Nat) : Nat → Pend → FTt → HTt → Nat → (FTt → HTt → Nat → Bool) → Bool :=
  Nat.rec (motive := fun _ => Nat → Pend → FTt → HTt → Nat → (FTt → HTt → Nat → Bool) → Bool) (fun _ _ _ _ _ _ => false)
    (fun _ ih C pend ft t n k => match soft P ops C with
    | some i => match ops[i]? with
      | some o => qwant ops ft o
          (fun _ => opR o.op P call ft t n fun v t n => putT L ft o.dst v fun ft => ih (C ||| 2 ^ i) (match steadyOp o.op with | true => pend | false => (i, o.op, v) :: pend) ft t n k)
          (fun _ => putT L ft o.dst (.tup []) fun ft => ih (C ||| 2 ^ i) pend ft t n k)
      | none => false
    | none => match hards ops C with
      | [] => k ft t n
      | l => allB l fun i => match ops[i]? with
        | some o => qwant ops ft o
            (fun _ => opR o.op P call ft t n fun v t n => match qlags P b i (evT ft) (hq t n) pend with
              | true => putT L ft o.dst v fun ft => ih (C ||| 2 ^ i) pend ft t n k
              | false => false)
            (fun _ => putT L ft o.dst (.tup []) fun ft => ih (C ||| 2 ^ i) pend ft t n k)
        | none => false) m
theorem qD_succ (P : Program) (call : QT) (L : Nat) (ops : Array Oper) (b : Array Nat) (m : Nat) (C : Nat) (pend : Pend) (ft : FTt) (t : HTt) (n : Nat) (k : FTt → HTt → Nat → Bool) : qD P call L ops b (m + 1) C pend ft t n k = (match soft P ops C with
    | some i => match ops[i]? with
      | some o => qwant ops ft o
          (fun _ => opR o.op P call ft t n fun v t n => putT L ft o.dst v fun ft => qD P call L ops b m (C ||| 2 ^ i) (match steadyOp o.op with | true => pend | false => (i, o.op, v) :: pend) ft t n k)
          (fun _ => putT L ft o.dst (.tup []) fun ft => qD P call L ops b m (C ||| 2 ^ i) pend ft t n k)
      | none => false
    | none => match hards ops C with
      | [] => k ft t n
      | l => allB l fun i => match ops[i]? with
        | some o => qwant ops ft o
            (fun _ => opR o.op P call ft t n fun v t n => match qlags P b i (evT ft) (hq t n) pend with
              | true => putT L ft o.dst v fun ft => qD P call L ops b m (C ||| 2 ^ i) pend ft t n k
              | false => false)
            (fun _ => putT L ft o.dst (.tup []) fun ft => qD P call L ops b m (C ||| 2 ^ i) pend ft t n k)
        | none => false) := rfl
theorem qD_spec {P : Program} {call : QT} (hc : QTOk P call) {L : Nat} {ops : Array Oper} {b : Array Nat} {k : FTt → HTt → Nat → Bool} {K : Fr → AHeap → Prop} (hK : ∀ ft f t n, FA L ft f → k ft t n = true → K f (hq t n)) : ∀ (m C : Nat) (pend : Pend) (ft : FTt) (f : Fr) (t : HTt) (n : Nat), FA L ft f → (∀ x ∈ pend, solidOp P x.2.1 = false) → qD P call L ops b m C pend ft t n k = true →
    execD P (SC P) ops b m C pend f (hq t n) K
  | 0, _, _, _, _, _, _, _, _, H => by cases H
  | m + 1, C, pend, ft, f, t, n, hf, hs, H => by
    rw [qD_succ] at H
    unfold execD
    split at H
    · rename_i i hi
      rw [hi]
      simp only
      split at H
      · rename_i o ho
        rw [ho]
        simp only
        have hso : solidOp P o.op = false := by
          have := List.find?_some hi
          simp only [softAt, ho, Bool.and_eq_true, Bool.not_eq_true'] at this
          exact this.2
        refine qwant_spec hf H (fun H => ?_) (fun H => ?_)
        · have hv : isCallV o.op = false := by
            cases ho2 : o.op <;> rw [ho2] at hso <;> try rfl
            rename_i c
            simp only [solidOp] at hso
            simp only [isCallV]
            split at hso <;> simp_all
          have h0 := opR_ok o.op hc hf H (K := fun v h' => execD P (SC P) ops b m (C ||| 2 ^ i) (match steadyOp o.op with | true => pend | false => (i, o.op, v) :: pend) (putO f o.dst v) h' K) (fun v t n H => by
            obtain ⟨ft', h1, h2⟩ := putT_spec hf H
            refine qD_spec hc hK m _ _ ft' _ t n h2 ?_ h1
            intro x hx
            split at hx
            · exact hs x hx
            · rcases List.mem_cons.1 hx with rfl | hx
              · exact hso
              · exact hs x hx)
          unfold aop at h0
          rw [hv] at h0
          simp only at h0
          unfold bind2 at h0 ⊢
          split at h0
          · rename_i p hp'
            obtain ⟨v, h1⟩ := p
            have := soft_heap hso hp'
            subst this
            exact h0
          · exact h0.elim
        · obtain ⟨ft', h1, h2⟩ := putT_spec hf H
          exact qD_spec hc hK m _ _ ft' _ t n h2 hs h1
      · cases H
    · rename_i hi
      rw [hi]
      simp only
      split at H
      · rename_i hl
        rw [hl]
        exact hK ft f t n hf H
      · rename_i l hl
        have key : allP (hards ops C) (fun i => match ops[i]? with
            | some o => wantedA ops f o
              (fun f => aop P (SC P) f (hq t n) o.op fun v h' => lagsOk P b i f h' pend ∧ execD P (SC P) ops b m (C ||| 2 ^ i) pend (putO f o.dst v) h' K)
              (fun f => execD P (SC P) ops b m (C ||| 2 ^ i) pend (putO f o.dst (.tup [])) (hq t n) K)
            | none => False) := by
          refine allB_spec (fun i _ H => ?_) H
          split at H
          · rename_i o ho
            refine qwant_spec hf H (fun H => ?_) (fun H => ?_)
            · refine opR_ok o.op hc hf H (fun v t n H => ?_)
              split at H
              · rename_i e
                rw [evT_eq hf] at e
                obtain ⟨ft', h1, h2⟩ := putT_spec hf H
                exact ⟨lagsB_spec hs (qlags_eq e), qD_spec hc hK m _ _ ft' _ t n h2 hs h1⟩
              · cases H
            · obtain ⟨ft', h1, h2⟩ := putT_spec hf H
              exact qD_spec hc hK m _ _ ft' _ t n h2 hs h1
          · cases H
        split
        · rename_i e; exact absurd e hl
        · exact key
/-! ### Code -/
abbrev QK := Ex → FTt → HTt → Nat → Bool
/-- The arguments, in their places. -/
noncomputable def lay (l : List AV) : Nat → FTt → (FTt → Bool) → Bool :=
  List.rec (motive := fun _ => Nat → FTt → (FTt → Bool) → Bool) (fun _ ft k => k ft) (fun v _ ih i ft k => r2 v fun v => TR.put (.tup []) v 20 ft i fun ft => ih (i + 1) ft k) l
theorem lay_spec : ∀ (l : List AV) (i : Nat) (ft : FTt) (k : FTt → Bool), lay l i ft k = true → ∃ ft', k ft' = true ∧ ∀ j, TR.get (.tup []) ft' j = if i ≤ j ∧ j < i + l.length then l.getD (j - i) (.tup []) else TR.get (.tup []) ft j
  | [], i, ft, k, H => ⟨ft, H, fun j => by rw [if_neg (by simp only [List.length_nil]; omega)]⟩
  | v :: l, i, ft, k, H => by
    have H' : r2 v (fun v => TR.put (.tup []) v 20 ft i fun ft => lay l (i + 1) ft k) = true := H
    rw [r2_eq] at H'
    obtain ⟨t', h1, h2⟩ := TR.put_spec _ _ _ _ _ _ H'
    obtain ⟨t'', h3, h4⟩ := lay_spec l (i + 1) t' k h1
    refine ⟨t'', h3, fun j => ?_⟩
    rw [h4, h2]
    by_cases e : j = i
    · subst e
      rw [if_neg (by omega), if_pos rfl, if_pos (by simp), Nat.sub_self]
      rfl
    · rw [if_neg e]
      by_cases e2 : i + 1 ≤ j ∧ j < i + 1 + l.length
      · rw [if_pos e2, if_pos (by simp; omega)]
        obtain ⟨d, hd⟩ : ∃ d, j - i = d + 1 := ⟨j - i - 1, by omega⟩
        rw [hd, show j - (i + 1) = d by omega]
        rfl
      · rw [if_neg e2, if_neg (by simp; omega)]
noncomputable def qRes (P : Program) (fn : Func) (ft : FTt) (t : HTt) (n : Nat) (k : AV → HTt → Nat → Bool) : Bool :=
  match fn.results.toList.mapM (fun r => match r with
    | .tmp t => some (TR.get (.tup []) ft t)
    | .cell a ty => match tinfo P ty with
      | some i => match (hq t n).getA (TR.get (.tup []) ft a) i.sz with
        | some cs => match i.ag, cs with
          | true, cs => some (.agg cs)
          | false, [c] => some c
          | _, _ => none
        | none => none
      | none => none) with
  | some [v] => r2 v fun v => k v t n
  | some vs => r2 (.tup vs) fun v => k v t n
  | none => false
theorem qRes_spec {P : Program} {fn : Func} {L : Nat} {ft : FTt} {f : Fr} (hf : FA L ft f) {t : HTt} {n : Nat} {k : AV → HTt → Nat → Bool} (H : qRes P fn ft t n k = true) : resultsA P fn f (hq t n) (fun v h => ∃ t' n', h = hq t' n' ∧ k v t' n' = true) := by
  unfold qRes at H
  simp only [hf.2] at H
  have e : (fun r : ResultVar => match r with
    | .tmp t => some (f.getD t (.tup []))
    | .cell a ty => match tinfo P ty with
      | some i => match (hq t n).getA (f.getD a (.tup [])) i.sz with
        | some cs => match i.ag, cs with
          | true, cs => some (AV.agg cs)
          | false, [c] => some c
          | _, _ => none
        | none => none
      | none => none) = resOf P f (hq t n) := by
    funext r
    cases r <;> rfl
  unfold resultsA
  erw [e] at H
  split at H
  · rename_i v e
    rw [e]
    rw [r2_eq] at H
    exact ⟨t, n, rfl, H⟩
  · rename_i vs hne e
    rw [e]
    rw [r2_eq] at H
    split
    · rename_i v e2; cases e2; exact (hne v rfl).elim
    · rename_i vs' _ e2; cases e2; exact ⟨t, n, rfl, H⟩
    · rename_i e2; cases e2
  · cases H
end Go.AM
/- The kernel's machine, with tries: code, calls. -/
namespace Go.AM
open Go Go.RowKit
set_option linter.unusedVariables false
set_option linter.unusedSimpArgs false

noncomputable def qCall' (P : Program) (ev : Nat → Code → FTt → HTt → Nat → QK → Bool) : QT := fun g args t n k => match P.funcs[g]? with
  | some fn => (match fn.name == "runtime.NumGoroutine" with
    | true => false
    | false => match fn.body with
      | some c => lay args 0 .nil fun ft => ev (args.length + (fn.ntmps - args.length)) c ft t n fun e ft t n => match e with
        | .exit _ => false
        | _ => qRes P fn ft t n k
      | none => false)
  | none => false
noncomputable def qStep (P : Program) (ih : Nat → Code → FTt → HTt → Nat → QK → Bool) (L : Nat) (c : Code) (ft : FTt) (t : HTt) (n : Nat) (k : QK) : Bool := match c with
    | .skip => k .normal ft t n
    | .label _ => k .normal ft t n
    | .region _ ops draw => (match draw with
      | false => qOps P (qCall' P ih) L ops ops.toList ft t n (k .normal)
      | true => match drawOk P ops (Region.before ops) with
        | true => qD P (qCall' P ih) L ops (Region.before ops) (ops.size + 1) 0 [] ft t n (k .normal)
        | false => false)
    | .seq a b => ih L a ft t n fun e ft t n => match e with
      | .normal => ih L b ft t n k
      | .exit id => k (.exit id) ft t n
      | .ret => k .ret ft t n
    | .cond c a b => (match evT ft c with
      | .bool q => (match q with
        | true => ih L a ft t n k
        | false => ih L b ft t n k)
      | _ => false)
    | .block id a => ih L a ft t n fun e ft t n => match e with
      | .exit id' => (match Nat.beq id' id with
        | true => k .normal ft t n
        | false => k (.exit id') ft t n)
      | .normal => k .normal ft t n
      | .ret => k .ret ft t n
    | .loop a => ih L a ft t n fun e ft t n => match e with
      | .normal => ih L (.loop a) ft t n k
      | .exit id => k (.exit id) ft t n
      | .ret => k .ret ft t n
    | .scope a => ih L a ft t n k
    | .exit id => k (.exit id) ft t n
    | .ret => k .ret ft t n
    | _ => false
noncomputable def qC (P : Program) (N : Nat) : Nat → Code → FTt → HTt → Nat → QK → Bool :=
  Nat.rec (motive := fun _ => Nat → Code → FTt → HTt → Nat → QK → Bool) (fun _ _ _ _ _ _ => false) (fun _ ih => qStep P ih) N
theorem qC_succ (P : Program) (N : Nat) : qC P (N + 1) = qStep P (qC P N) := rfl
theorem qC_spec {P : Program} (hm : P.follows .mixedOrders = true) : ∀ (N L : Nat) (c : Code) (ft : FTt) (f : Fr) (t : HTt) (n : Nat) (k : QK) (K : AK), FA L ft f → qC P N L c ft t n k = true → (∀ e ft f t n, FA L ft f → k e ft t n = true → K e f (hq t n)) → exec P (SC P) noHints c f (hq t n) K
  | 0, _, _, _, _, _, _, _, _, _, H, _ => by cases H
  | N + 1, L, c, ft, f, t, n, k, K, hf, H, hK => by
    have hc : QTOk P (qCall' P (qC P N)) := by
      intro g args t n k H
      unfold qCall' at H
      split at H
      rotate_left
      · cases H
      rename_i fn hfn
      split at H
      · cases H
      rename_i hn
      split at H
      rotate_left
      · cases H
      rename_i c hb
      obtain ⟨ft, h1, h2⟩ := lay_spec _ _ _ _ H
      have hfa : FA (args.length + (fn.ntmps - args.length)) ft (args ++ List.replicate (fn.ntmps - args.length) (.tup [])) := by
        refine ⟨by simp, fun i => ?_⟩
        rw [h2]
        simp only [List.getD_eq_getElem?_getD, Nat.zero_le, true_and, Nat.zero_add, Nat.sub_zero]
        by_cases e : i < args.length
        · rw [if_pos e, List.getElem?_append_left e]
        · rw [if_neg e, List.getElem?_append_right (by omega), List.getElem?_replicate]
          split <;> rfl
      refine SC_of hm hfn hn hb (hints := noHints) (qC_spec hm N _ c ft _ t n _ _ hfa h1 (fun e ft f t n hf H => ?_))
      cases e with
      | exit id => cases H
      | normal => exact qRes_spec hf H
      | ret => exact qRes_spec hf H
    rw [qC_succ] at H
    unfold qStep at H
    cases c with
    | skip => exact hK _ _ _ _ _ hf H
    | label l => exact hK _ _ _ _ _ hf H
    | region id ops draw =>
      unfold exec
      cases draw with
      | false => exact qOps_spec hc (fun ft f t n hf H => hK _ _ _ _ _ hf H) _ _ _ _ _ hf H
      | true =>
        simp only at H ⊢
        split at H
        · rename_i e
          exact ⟨e, qD_spec hc (fun ft f t n hf H => hK _ _ _ _ _ hf H) _ _ _ _ _ _ _ hf (fun x hx => by cases hx) H⟩
        · cases H
    | seq a b =>
      unfold exec
      refine qC_spec hm N L a ft f t n _ _ hf H (fun e ft f t n hf H => ?_)
      cases e with
      | normal =>
        simp only [clr_none]
        exact qC_spec hm N L b ft f t n k K hf H hK
      | exit id => exact hK _ _ _ _ _ hf H
      | ret => exact hK _ _ _ _ _ hf H
    | cond c a b =>
      unfold exec
      simp only at H
      rw [evT_eq hf] at H
      split at H
      rotate_left
      · cases H
      rename_i q hq'
      rw [hq']
      simp only
      have hset : ∀ d, c = .tmp d → f.set d (.bool q) = f := fun d e => by
        subst e
        simp only [evalO, List.getD_eq_getElem?_getD] at hq'
        cases hx : f[d]? with
        | none => rw [hx] at hq'; cases hq'
        | some y =>
          rw [hx] at hq'
          simp only [Option.getD_some] at hq'
          subst hq'
          obtain ⟨hlt, he⟩ := List.getElem?_eq_some_iff.1 hx
          rw [← he]
          exact List.set_getElem_self hlt
      cases q with
      | true =>
        have h1 := qC_spec hm N L a ft f t n k K hf H hK
        split
        · rename_i d; rw [hset d rfl]; exact h1
        · exact h1
      | false =>
        have h1 := qC_spec hm N L b ft f t n k K hf H hK
        split
        · rename_i d; rw [hset d rfl]; exact h1
        · exact h1
    | block id a =>
      unfold exec
      refine qC_spec hm N L a ft f t n _ _ hf H (fun e ft f t n hf H => ?_)
      cases e with
      | normal => exact hK _ _ _ _ _ hf H
      | ret => exact hK _ _ _ _ _ hf H
      | exit id' =>
        simp only at H ⊢
        split at H
        · rename_i q
          rw [if_pos (Nat.eq_of_beq_eq_true q)]
          exact hK _ _ _ _ _ hf H
        · rename_i q
          rw [if_neg (Nat.ne_of_beq_eq_false q)]
          exact hK _ _ _ _ _ hf H
    | loop a =>
      refine loop_fold (SC_callMono P) ?_
      rw [clr_none]
      refine qC_spec hm N L a ft f t n _ _ hf H (fun e ft f t n hf H => ?_)
      cases e with
      | normal => exact qC_spec hm N L (.loop a) ft f t n k K hf H hK
      | exit id => exact hK _ _ _ _ _ hf H
      | ret => exact hK _ _ _ _ _ hf H
    | exit id => exact hK _ _ _ _ _ hf H
    | ret => exact hK _ _ _ _ _ hf H
    | goto l => cases H
    | rangeFunc => cases H
    | scope a =>
      unfold exec
      exact qC_spec hm N L a ft f t n k K hf H hK
    | refuse => cases H
/-- A call, run by the kernel. -/
noncomputable def qRun (P : Program) (N : Nat) : QT := qCall' P (qC P N)
theorem qRun_spec {P : Program} (hm : P.follows .mixedOrders = true) (N : Nat) : QTOk P (qRun P N) := by
  intro g args t n k H
  unfold qRun qCall' at H
  split at H
  rotate_left
  · cases H
  rename_i fn hfn
  split at H
  · cases H
  rename_i hn
  split at H
  rotate_left
  · cases H
  rename_i c hb
  obtain ⟨ft, h1, h2⟩ := lay_spec _ _ _ _ H
  have hfa : FA (args.length + (fn.ntmps - args.length)) ft (args ++ List.replicate (fn.ntmps - args.length) (.tup [])) := by
    refine ⟨by simp, fun i => ?_⟩
    rw [h2]
    simp only [List.getD_eq_getElem?_getD, Nat.zero_le, true_and, Nat.zero_add, Nat.sub_zero]
    by_cases e : i < args.length
    · rw [if_pos e, List.getElem?_append_left e]
    · rw [if_neg e, List.getElem?_append_right (by omega), List.getElem?_replicate]
      split <;> rfl
  refine SC_of hm hfn hn hb (hints := noHints) (qC_spec hm N _ c ft _ t n _ _ hfa h1 (fun e ft f t n hf H => ?_))
  cases e with
  | exit id => cases H
  | normal => exact qRes_spec hf H
  | ret => exact qRes_spec hf H
end Go.AM
