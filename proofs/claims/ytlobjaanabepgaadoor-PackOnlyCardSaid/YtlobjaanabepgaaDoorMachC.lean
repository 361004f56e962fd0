/- Calls told by what they come to; a machine that the kernel can run. -/
import Derived.Test.YtlobjaanabepgaaDoorMachB
namespace Go.AM
open Go Go.RowKit
set_option linter.unusedVariables false
set_option linter.unusedSimpArgs false

/-- A call, told by what it comes to in the model. -/
def SC (P : Program) : FuncId → PT := fun g args h Q => (∃ fn, P.funcs[g]? = some fn ∧ (fn.name == "runtime.NumGoroutine") = false ∧ fn.body.isSome = true) ∧
  ∀ (β : Emb) (w : World) (cargs : Array Value), Rel β h w → RVs β args cargs → Calls P g cargs w (Ends β h w Q)
theorem SC_ok (P : Program) : CallOk P (SC P) := by
  intro g args h Q H β w cargs R F o a next Q' hk
  obtain ⟨⟨fn, hf, hn, hb⟩, H⟩ := H
  obtain ⟨c, hc⟩ := Option.isSome_iff_exists.1 hb
  have run : (callFunc g cargs).run P w = .ok (.enter g cargs) w := by
    have hn' : ¬ fn.name = "runtime.NumGoroutine" := by simpa using hn
    simp [callFunc, program, Sem.run_bind, Sem.run, Result.andThen, hf, hn', hc]
  rw [run, Oper.upon_enter]
  refine Calls.mono (H β w cargs R F) (fun e w' he => ?_)
  cases e with
  | returned cv =>
    obtain ⟨β', v, h', h1, h2, h3, h4⟩ := he
    exact hk β' v h' w' cv h1 h2 h3 h4
  | panicked ch => exact he.elim
  | outgrown => exact he.elim
theorem SC_mono {P : Program} {g : FuncId} {args : List AV} {h : AHeap} {Q Q' : AV → AHeap → Prop} (H : SC P g args h Q) (hq : ∀ v h, Q v h → Q' v h) : SC P g args h Q' :=
  ⟨H.1, fun β w cargs R F => Calls.mono (H.2 β w cargs R F) (fun e w' he => by
    cases e with
    | returned cv =>
      obtain ⟨β', v, h', h1, h2⟩ := he
      exact ⟨β', v, h', hq _ _ h1, h2⟩
    | panicked ch => exact he.elim
    | outgrown => exact he.elim)⟩
/-- What the body's run must come to. -/
def bodyK (P : Program) (fn : Func) (Q : AV → AHeap → Prop) : AK := fun e f h => match e with
  | .exit _ => False
  | _ => resultsA P fn f h Q
theorem SC_of {P : Program} (hm : P.follows .mixedOrders = true) {g : FuncId} {fn : Func} {c : Code} (hf : P.funcs[g]? = some fn) (hn : (fn.name == "runtime.NumGoroutine") = false) (hb : fn.body = some c) {hints : Nat → Option (List Nat)} {args : List AV} {h : AHeap} {Q : AV → AHeap → Prop}
    (H : exec P (SC P) hints c (args ++ List.replicate (fn.ntmps - args.length) (.tup [])) h (bodyK P fn Q)) : SC P g args h Q :=
  ⟨⟨fn, hf, hn, by rw [hb]; rfl⟩, fun β w cargs R F => body_calls (SC_ok P) hm hf hb H R F⟩

/-! ### A memory that the kernel can look into -/
inductive HT where
  | nil
  | node (v : Option AObj) (l r : HT)
def HT.get : HT → Nat → Option AObj
  | .nil, _ => none
  | .node v l r, i => match i with
    | 0 => v
    | j + 1 => match j % 2 with
      | 0 => l.get (j / 2)
      | _ => r.get (j / 2)
/-- The value, put in its place. -/
def HT.put : Nat → HT → Nat → AObj → (HT → Bool) → Bool
  | 0, _, _, _, _ => false
  | d + 1, t, i, o, k => match t with
    | .nil => match i with
      | 0 => k (.node (some o) .nil .nil)
      | j + 1 => match j % 2 with
        | 0 => HT.put d .nil (j / 2) o fun l => k (.node none l .nil)
        | _ => HT.put d .nil (j / 2) o fun r => k (.node none .nil r)
    | .node v l r => match i with
      | 0 => k (.node (some o) l r)
      | j + 1 => match j % 2 with
        | 0 => HT.put d l (j / 2) o fun l => k (.node v l r)
        | _ => HT.put d r (j / 2) o fun r => k (.node v l r)
theorem HT.put_spec : ∀ (d : Nat) (t : HT) (i : Nat) (o : AObj) (k : HT → Bool), HT.put d t i o k = true → ∃ t', k t' = true ∧ ∀ j, t'.get j = if j = i then some o else t.get j
  | 0, _, _, _, _, h => by cases h
  | d + 1, .nil, 0, o, k, h => ⟨_, h, fun j => by
      cases j with
      | zero => rfl
      | succ j => simp only [HT.get]; rw [if_neg (by omega)]; split <;> rfl⟩
  | d + 1, .nil, i + 1, o, k, h => by
    unfold HT.put at h
    simp only at h
    split at h
    · rename_i hz
      obtain ⟨l, h1, h2⟩ := HT.put_spec d _ _ _ _ h
      refine ⟨_, h1, fun j => ?_⟩
      cases j with
      | zero => simp only [HT.get]; rw [if_neg (by omega)]
      | succ j =>
        simp only [HT.get]
        split
        · rename_i hj
          rw [h2]
          by_cases e : j / 2 = i / 2
          · rw [if_pos e, if_pos (by omega)]
          · rw [if_neg e, if_neg (by omega)]; rfl
        · rename_i hj; rw [if_neg (fun e => hj (by omega))]
    · rename_i hz
      obtain ⟨l, h1, h2⟩ := HT.put_spec d _ _ _ _ h
      refine ⟨_, h1, fun j => ?_⟩
      cases j with
      | zero => simp only [HT.get]; rw [if_neg (by omega)]
      | succ j =>
        simp only [HT.get]
        split
        · rename_i hj; rw [if_neg (fun e => hz (by omega))]
        · rename_i hj
          rw [h2]
          have h3 : i % 2 ≠ 0 := fun e => hz e
          have h4 : j % 2 ≠ 0 := fun e => hj e
          by_cases e : j / 2 = i / 2
          · rw [if_pos e, if_pos (by omega)]
          · rw [if_neg e, if_neg (by omega)]; rfl
  | d + 1, .node v l r, 0, o, k, h => ⟨_, h, fun j => by
      cases j with
      | zero => rfl
      | succ j => simp only [HT.get]; rw [if_neg (by omega)]⟩
  | d + 1, .node v l r, i + 1, o, k, h => by
    unfold HT.put at h
    simp only at h
    split at h
    · rename_i hz
      obtain ⟨l', h1, h2⟩ := HT.put_spec d _ _ _ _ h
      refine ⟨_, h1, fun j => ?_⟩
      cases j with
      | zero => simp only [HT.get]; rw [if_neg (by omega)]
      | succ j =>
        simp only [HT.get]
        split
        · rename_i hj
          rw [h2]
          by_cases e : j / 2 = i / 2
          · rw [if_pos e, if_pos (by omega)]
          · rw [if_neg e, if_neg (by omega)]
        · rename_i hj; rw [if_neg (fun e => hj (by omega))]
    · rename_i hz
      obtain ⟨l', h1, h2⟩ := HT.put_spec d _ _ _ _ h
      refine ⟨_, h1, fun j => ?_⟩
      cases j with
      | zero => simp only [HT.get]; rw [if_neg (by omega)]
      | succ j =>
        simp only [HT.get]
        split
        · rename_i hj; rw [if_neg (fun e => hz (by omega))]
        · rename_i hj
          rw [h2]
          have h3 : i % 2 ≠ 0 := fun e => hz e
          have h4 : j % 2 ≠ 0 := fun e => hj e
          by_cases e : j / 2 = i / 2
          · rw [if_pos e, if_pos (by omega)]
          · rw [if_neg e, if_neg (by omega)]
def hp (t : HT) (n : Nat) : AHeap := ⟨t.get, n⟩
/-! ### Values at rest -/
section
def restN (m : Nat) (k : Nat → Bool) : Bool := match m with
  | 0 => k 0
  | p + 1 => k (Nat.succ p)
theorem restN_eq (m : Nat) (k : Nat → Bool) : restN m k = k m := by cases m <;> rfl
def restI (n : Int) (k : Int → Bool) : Bool := match n with
  | .ofNat m => restN m fun m => k (.ofNat m)
  | .negSucc m => restN m fun m => k (.negSucc m)
theorem restI_eq (m : Int) (k : Int → Bool) : restI m k = k m := by cases m <;> simp [restI, restN_eq]
def restB (b : Bool) (k : Bool → Bool) : Bool := match b with
  | true => k true
  | false => k false
theorem restB_eq (m : Bool) (k : Bool → Bool) : restB m k = k m := by cases m <;> rfl
def restL {α : Type} (g : α → (α → Bool) → Bool) : List α → (List α → Bool) → Bool
  | [], k => k []
  | x :: r, k => g x fun x => restL g r fun r => k (x :: r)
theorem restL_eq {α : Type} (g : α → (α → Bool) → Bool) (hg : ∀ x k, g x k = k x) : ∀ (l : List α) (k : List α → Bool), restL g l k = k l
  | [], k => rfl
  | x :: r, k => by simp only [restL, hg, restL_eq g hg r]
def rest0 (v : AV) (k : AV → Bool) : Bool := match v with
  | .int kd n => restI n fun n => k (.int kd n)
  | .bool b => restB b fun b => k (.bool b)
  | .ptr b g i f => restN b fun b => restN g fun g => restN i fun i => restN f fun f => k (.ptr b g i f)
  | .sl b g i n => restN b fun b => restN g fun g => restN i fun i => restN n fun n => k (.sl b g i n)
  | .str s => restL restI s fun s => k (.str s)
  | v => k v
theorem rest0_eq (v : AV) (k : AV → Bool) : rest0 v k = k v := by
  cases v <;> simp [rest0, restI_eq, restB_eq, restN_eq, restL_eq restI restI_eq]
def rest1 (v : AV) (k : AV → Bool) : Bool := match v with
  | .agg cs => restL rest0 cs fun cs => k (.agg cs)
  | v => rest0 v k
theorem rest1_eq (v : AV) (k : AV → Bool) : rest1 v k = k v := by
  cases v <;> simp [rest1, rest0_eq, restL_eq rest0 rest0_eq]
def rest2 (v : AV) (k : AV → Bool) : Bool := match v with
  | .tup cs => restL rest1 cs fun cs => k (.tup cs)
  | .fn g cs => restL rest1 cs fun cs => k (.fn g cs)
  | v => rest1 v k
theorem rest2_eq (v : AV) (k : AV → Bool) : rest2 v k = k v := by
  cases v <;> simp [rest2, rest1_eq, restL_eq rest1 rest1_eq]
def restE (e : AV × AV) (k : AV × AV → Bool) : Bool := match e with
  | (a, b) => rest0 a fun a => rest0 b fun b => k (a, b)
theorem restE_eq (e : AV × AV) (k : AV × AV → Bool) : restE e k = k e := by cases e; simp [restE, rest0_eq]
def restO (o : AObj) (k : AObj → Bool) : Bool := match o with
  | .blk ⟨esz, cells, gen, sgen, ro⟩ => restN esz fun esz => restL (restL rest0) cells fun cells => restN gen fun gen => restN sgen fun sgen => restB ro fun ro => k (.blk ⟨esz, cells, gen, sgen, ro⟩)
  | .mp es => restL restE es fun es => k (.mp es)
theorem restO_eq (o : AObj) (k : AObj → Bool) : restO o k = k o := by
  cases o with
  | blk B => cases B; simp [restO, restN_eq, restB_eq, restL_eq _ (restL_eq rest0 rest0_eq)]
  | mp es => simp [restO, restL_eq restE restE_eq]
def setF : Fr → Nat → AV → (Fr → Bool) → Bool
  | [], _, _, k => k []
  | x :: xs, d, v, k => match d with
    | 0 => k (v :: xs)
    | d + 1 => setF xs d v fun r => k (x :: r)
theorem setF_eq : ∀ (f : Fr) (d : Nat) (v : AV) (k : Fr → Bool), setF f d v k = k (f.set d v)
  | [], _, _, k => rfl
  | x :: xs, 0, v, k => rfl
  | x :: xs, d + 1, v, k => by simp only [setF, setF_eq xs d v]; rfl
def putF (f : Fr) (o : Option Tmp) (v : AV) (k : Fr → Bool) : Bool := match o with
  | some d => setF f d v k
  | none => k f
theorem putF_eq (f : Fr) (o : Option Tmp) (v : AV) (k : Fr → Bool) : putF f o v k = k (putO f o v) := by
  cases o <;> simp [putF, putO, setF_eq]
end
end Go.AM
/- The kernel's machine: the operations that are met most, apart. -/
namespace Go.AM
open Go Go.RowKit
set_option linter.unusedVariables false
set_option linter.unusedSimpArgs false

def kGet (B : Blk) (g i f sz : Nat) : Option (List AV) :=
  match Nat.ble B.sgen g with
  | true => match B.cells[i]? with
    | some e => (match Nat.ble (f + sz) e.length with
      | true => some ((e.drop f).take sz)
      | false => B.get g i f sz)
    | none => none
  | false => none
theorem kGet_eq (B : Blk) (g i f sz : Nat) : kGet B g i f sz = B.get g i f sz := by
  unfold kGet
  split
  · rename_i h1
    split
    · rename_i e he
      split
      · rename_i h2
        unfold Blk.get
        rw [if_pos (Nat.le_of_ble_eq_true h1), he]
        simp only
        rw [if_pos (Nat.le_of_ble_eq_true h2)]
      · rfl
    · rename_i he
      unfold Blk.get
      rw [if_pos (Nat.le_of_ble_eq_true h1), he]
  · rename_i h1
    unfold Blk.get
    rw [if_neg (fun e => by rw [Nat.ble_eq_true_of_le e] at h1; cases h1)]
def kLoad (i : TI) (h : AHeap) (a : AV) : Option (AV × AHeap) :=
  match Nat.ble 1 i.sz, a with
  | true, .ptr b g j f => match h.m b with
    | some (.blk B) => match kGet B g j f i.sz with
      | some cs => (match i.ag, cs with
        | true, cs => some (.agg cs, h)
        | false, [c] => some (c, h)
        | false, _ => none)
      | none => none
    | _ => none
  | _, _ => none
theorem kLoad_eq (i : TI) (h : AHeap) (a : AV) : kLoad i h a = if 0 < i.sz then at_ h (fLoad i.ag i.sz h a) else none := by
  unfold kLoad
  by_cases hp : 0 < i.sz
  · have e : Nat.ble 1 i.sz = true := Nat.ble_eq_true_of_le hp
    rw [e, if_pos hp]
    unfold fLoad AHeap.getA
    cases a <;> try rfl
    simp only [AHeap.get]
    rename_i b g j f
    cases hb : h.m b with
    | none => rfl
    | some o =>
      cases o with
      | mp es => rfl
      | blk B =>
        simp only [kGet_eq]
        cases hg : B.get g j f i.sz with
        | none => rfl
        | some cs =>
          simp only
          cases i.ag with
          | true => rfl
          | false =>
            match cs with
            | [] => rfl
            | [c] => rfl
            | _ :: _ :: _ => rfl
  · have e : Nat.ble 1 i.sz = false := by
      cases hq : Nat.ble 1 i.sz with
      | false => rfl
      | true => exact absurd (Nat.le_of_ble_eq_true hq) hp
    rw [e, if_neg hp]
def oLoad (P : Program) (f : Fr) (h : AHeap) (t : TypeId) (a : Operand) : Option (AV × AHeap) := match tinfo P t with
  | some i => kLoad i h (evalO f a)
  | none => none
def kInt (op : BinOp) (kd : IntKind) (a b : Int) : Option AV :=
  match op with
  | .eql => some (.bool (a == b))
  | .neq => some (.bool (a != b))
  | .lss => (match a, b with
    | .ofNat a, .ofNat b => some (.bool (Nat.ble (a + 1) b))
    | a, b => intBin .lss kd a b)
  | .add => (match a, b with
    | .ofNat a, .ofNat b => (match Nat.ble (a + b) 127 with
      | true => some (.int kd (.ofNat (a + b)))
      | false => intBin .add kd (.ofNat a) (.ofNat b))
    | a, b => intBin .add kd a b)
  | op => intBin op kd a b
theorem wrap_small (kd : IntKind) {n : Nat} (h : n ≤ 127) : kd.wrap (Int.ofNat n) = Int.ofNat n := by
  have e : ∀ b : Nat, 8 ≤ b → (Int.ofNat n) % 2 ^ b = Int.ofNat n := fun b hb => by
    have h2 : (2 : Int) ^ 8 ≤ 2 ^ b := by exact_mod_cast Nat.pow_le_pow_right (by decide) hb
    exact Int.emod_eq_of_lt (Int.natCast_nonneg n) (by show (n : Int) < _; omega)
  have e2 : ∀ b : Nat, 8 ≤ b → ¬ (Int.ofNat n ≥ 2 ^ (b - 1)) := fun b hb => by
    have h2 : (2 : Int) ^ 7 ≤ 2 ^ (b - 1) := by exact_mod_cast Nat.pow_le_pow_right (by decide) (by omega)
    show ¬ ((n : Int) ≥ _)
    omega
  have hb : 8 ≤ kd.bits := by cases kd <;> decide
  unfold IntKind.wrap
  simp only [e _ hb]
  rw [if_neg]
  simp only [Bool.and_eq_true, decide_eq_true_eq, not_and]
  exact fun _ => e2 _ hb
theorem kInt_eq (op : BinOp) (kd : IntKind) (a b : Int) : kInt op kd a b = intBin op kd a b := by
  cases op
  case lss =>
    cases a <;> cases b <;> try rfl
    rename_i a b
    simp only [kInt, intBin]
    congr 2
    rw [Bool.eq_iff_iff, decide_eq_true_eq]
    constructor
    · intro h; exact Int.ofNat_lt.2 (Nat.le_of_ble_eq_true h)
    · intro h; exact Nat.ble_eq_true_of_le (Int.ofNat_lt.1 h)
  case add =>
    cases a <;> cases b <;> try rfl
    rename_i a b
    simp only [kInt]
    split
    · rename_i h
      have := wrap_small kd (Nat.le_of_ble_eq_true h)
      simp only [intBin]
      have e : (Int.ofNat a + Int.ofNat b : Int) = Int.ofNat (a + b) := rfl
      rw [e, this]
    · rfl
  all_goals rfl
def oBin (P : Program) (f : Fr) (h : AHeap) (op : BinOp) (t : TypeId) (x y : AV) : Option (AV × AHeap) :=
  match x, y with
  | .int k a, .int l b => (match k == l with
    | true => at_ h (kInt op k a b)
    | false => at_ h (fBin op (flatN P t) (nilAt P t) (.int k a) (.int l b)))
  | x, y => at_ h (fBin op (flatN P t) (nilAt P t) x y)
theorem oBin_eq (P : Program) (f : Fr) (h : AHeap) (op : BinOp) (t : TypeId) (x y : AV) : oBin P f h op t x y = at_ h (fBin op (flatN P t) (nilAt P t) x y) := by
  unfold oBin
  split
  · split
    · rename_i h1
      have e := eq_of_beq h1
      subst e
      rw [kInt_eq]
      simp only [fBin, true_or, if_true]
    · rfl
  · rfl
def oFA (P : Program) (f : Fr) (h : AHeap) (s : TypeId) (x : Operand) (j : Nat) : Option (AV × AHeap) := aopF P f h (.fieldAddr s x j)
def oIA (P : Program) (f : Fr) (h : AHeap) (t : TypeId) (x i : Operand) : Option (AV × AHeap) := aopF P f h (.indexAddr t x i)
def oSt (P : Program) (f : Fr) (h : AHeap) (t : TypeId) (a x : Operand) : Option (AV × AHeap) := aopF P f h (.store t a x)
def oLen (P : Program) (f : Fr) (h : AHeap) (c : Call) : Option (AV × AHeap) := match c.callee with
  | .builtin b => bltF P h b c.argTypes (c.args.toList.map (evalO f))
  | _ => none
/-- What aopF says, in the kernel's reach. -/
def kop (P : Program) (f : Fr) (h : AHeap) (op : Op) : Option (AV × AHeap) := match op with
  | .move x => some (evalO f x, h)
  | .assign x => some (evalO f x, h)
  | .load t a => oLoad P f h t a
  | .binOp op t x y _ => oBin P f h op t (evalO f x) (evalO f y)
  | .extract x j => at_ h (fExtract (evalO f x) j)
  | .pick c a b => at_ h (fPick (evalO f c) (evalO f a) (evalO f b))
  | .call c => oLen P f h c
  | op => aopF P f h op
theorem kop_eq (P : Program) (f : Fr) (h : AHeap) (op : Op) : kop P f h op = aopF P f h op := by
  cases op <;> try rfl
  case load t a =>
    simp only [kop, oLoad, aopF, aopE]
    cases tinfo P t with
    | none => rfl
    | some i => exact kLoad_eq i h _
  case binOp op t x y u => exact oBin_eq P f h op t _ _
end Go.AM
/- A machine that the kernel can run: what it comes to, the abstract machine comes to. -/
namespace Go.AM
open Go Go.RowKit
set_option linter.unusedVariables false
set_option linter.unusedSimpArgs false

def slB : AV → Option Nat
  | .sl b _ _ _ => some b
  | .ptr b _ _ _ => some b
  | .map r => some r
  | _ => none
/-- The block that an operation may change. -/
def tgt (f : Fr) (op : Op) : Option Nat := match op with
  | .store _ a _ => slB (evalO f a)
  | .mapUpdate _ m _ _ => slB (evalO f m)
  | .call c => match c.args.toList with
    | x :: _ => slB (evalO f x)
    | [] => none
  | _ => none
def Moves (f : Fr) (op : Op) (h h' : AHeap) : Prop := h' = h ∨ (∃ o, h' = h.push o) ∨ ∃ b o, tgt f op = some b ∧ h' = h.set b o
theorem blt_moves {P : Program} {f : Fr} {h : AHeap} {c : Call} {b : Builtin} {p : AV × AHeap} (H : bltF P h b c.argTypes (c.args.toList.map (evalO f)) = some p) : Moves f (.call c) h p.2 := by
  unfold bltF at H
  split at H
  · exact .inl (at_inv H).2
  · rename_i s x hx
    obtain ⟨x', y', h1, rfl, rfl⟩ := map_two hx
    have key : ∀ a l, fAppend a l h (evalO f x') (evalO f y') = some p → Moves f (.call c) h p.2 := fun a l H => by
      unfold fAppend at H
      split at H
      · cases H
      split at H
      · split at H
        · cases H; exact .inl rfl
        · split at H
          · cases H; exact .inr (.inl ⟨_, rfl⟩)
          · cases H
      · rename_i b g i n hs
        split at H
        · cases H; exact .inl rfl
        · split at H
          · split at H
            · cases H; exact .inr (.inr ⟨b, _, by simp [tgt, h1, hs, slB], rfl⟩)
            · cases H
          · cases H
      · cases H
    split at H
    · split at H
      · split at H
        · exact key _ _ H
        · cases H
      · cases H
    · split at H
      · split at H
        · exact key _ _ H
        · cases H
      · cases H
    · cases H
  · rename_i d x hx
    obtain ⟨x', y', h1, rfl, rfl⟩ := map_two hx
    split at H
    · split at H
      · split at H
        · unfold fCopy at H
          split at H
          · cases H; exact .inl rfl
          · rename_i es b g i n _ hs
            split at H
            · split at H
              · cases H; exact .inr (.inr ⟨b, _, by simp [tgt, h1, hs, slB], rfl⟩)
              · cases H
            · cases H
          · cases H
        · cases H
      · cases H
    · cases H
  · exact .inl (at_inv H).2
  · exact .inl (at_inv H).2
  · cases H
theorem aopF_moves {P : Program} {f : Fr} {h : AHeap} {op : Op} {p : AV × AHeap} (H : aopF P f h op = some p) : Moves f op h p.2 := by
  cases op
  case call c =>
    simp only [aopF, aopE] at H
    split at H
    · exact blt_moves H
    · cases H
  case alloc t =>
    simp only [aopF, aopE] at H
    split at H
    · obtain ⟨q, _, rfl⟩ := Option.map_eq_some_iff.1 H
      exact .inr (.inl ⟨_, rfl⟩)
    · cases H
  case box t x =>
    simp only [aopF, aopE] at H
    split at H
    · split at H
      · obtain ⟨q, _, rfl⟩ := Option.map_eq_some_iff.1 H
        exact .inr (.inl ⟨_, rfl⟩)
      · cases H
    · cases H
  case buildSlice t n ps =>
    simp only [aopF, aopE] at H
    split at H
    · split at H
      · split at H
        · obtain ⟨cs, _, h1⟩ := Option.bind_eq_some_iff.1 H
          split at h1
          · cases h1; exact .inr (.inl ⟨_, rfl⟩)
          · cases h1
        · cases H
      · cases H
    · cases H
  case store t a x =>
    simp only [aopF, aopE] at H
    split at H
    · split at H
      · obtain ⟨q, hq, rfl⟩ := Option.map_eq_some_iff.1 H
        unfold fStore at hq
        split at hq
        rotate_left
        · cases hq
        split at hq
        rotate_left
        · cases hq
        rename_i b g i j hs
        split at hq
        rotate_left
        · cases hq
        split at hq
        rotate_left
        · cases hq
        obtain ⟨B', _, rfl⟩ := Option.map_eq_some_iff.1 hq
        exact .inr (.inr ⟨b, _, by simp [tgt, hs, slB], rfl⟩)
      · cases H
    · cases H
  case convert s t x =>
    simp only [aopF, aopE] at H
    split at H
    · exact .inl (at_inv H).2
    · split at H
      · cases H; exact .inl rfl
      · cases H
    · split at H
      · exact .inl (at_inv H).2
      · cases H
    · split at H
      · unfold fBytesOf at H
        split at H
        · cases H; exact .inr (.inl ⟨_, rfl⟩)
        · cases H
      · cases H
    · split at H
      · split at H
        · exact .inl (at_inv H).2
        · cases H
      · cases H
    · cases H
  case makeMap t r =>
    simp only [aopF, aopE] at H
    split at H
    · cases H; exact .inr (.inl ⟨_, rfl⟩)
    · cases H
  case makeSlice t l c =>
    simp only [aopF, aopE] at H
    split at H
    · split at H
      · split at H
        · unfold fMake at H
          split at H
          · split at H
            · cases H; exact .inr (.inl ⟨_, rfl⟩)
            · cases H
          · cases H
        · cases H
      · cases H
    · cases H
  case mapUpdate t m key x =>
    simp only [aopF, aopE] at H
    split at H
    · split at H
      · obtain ⟨q, hq, rfl⟩ := Option.map_eq_some_iff.1 H
        unfold fMapUpdate at hq
        split at hq
        rotate_left
        · cases hq
        rename_i r hr
        split at hq
        rotate_left
        · cases hq
        split at hq
        · cases hq; exact .inr (.inr ⟨r, _, by simp [tgt, hr, slB], rfl⟩)
        · cases hq
      · cases H
    · cases H
  all_goals
    simp only [aopF, aopE] at H
    repeat' split at H
    all_goals first
      | (cases H; done)
      | (cases H; exact .inl rfl)
      | exact .inl (at_inv H).2
/-- The memory behind an operation, brought to rest. -/
def sync (D : Nat) (t : HT) (n : Nat) (v : AV) (h' : AHeap) (tg : Option Nat) (k : AV → HT → Nat → Bool) : Bool :=
  match h'.n == n with
  | true => match tg with
    | some b => match h'.m b with
      | some o => restO o fun o => HT.put D t b o fun t => rest2 v fun v => k v t n
      | none => false
    | none => rest2 v fun v => k v t n
  | false => match h'.m n with
    | some o => restO o fun o => HT.put D t n o fun t => rest2 v fun v => k v t (n + 1)
    | none => false
theorem hp_ext {t : HT} {n : Nat} {h : AHeap} (hn : h.n = n) (hm : ∀ j, t.get j = h.m j) : hp t n = h := by
  cases h with
  | mk m n' => simp only [hp, AHeap.mk.injEq]; exact ⟨funext hm, hn.symm⟩
theorem sync_spec {D : Nat} {t : HT} {n : Nat} {v : AV} {h' : AHeap} {f : Fr} {op : Op} (hmv : Moves f op (hp t n) h') {k : AV → HT → Nat → Bool} (H : sync D t n v h' (tgt f op) k = true) : ∃ t' n', hp t' n' = h' ∧ k v t' n' = true := by
  unfold sync at H
  rcases hmv with rfl | ⟨o, rfl⟩ | ⟨b, o, ht, rfl⟩
  · have e : ((hp t n).n == n) = true := by simp [hp]
    rw [e] at H
    simp only at H
    split at H
    · rename_i b hb
      split at H
      · rename_i o ho
        rw [restO_eq] at H
        obtain ⟨t', h1, h2⟩ := HT.put_spec _ _ _ _ _ H
        rw [rest2_eq] at h1
        refine ⟨t', n, hp_ext rfl (fun j => ?_), h1⟩
        rw [h2]
        split
        · rename_i e; rw [e]; exact ho.symm
        · rfl
      · cases H
    · rw [rest2_eq] at H
      exact ⟨t, n, rfl, H⟩
  · have e : (((hp t n).push o).n == n) = false := by simp [hp, AHeap.push]
    have e2 : ((hp t n).push o).m n = some o := by simp [hp, AHeap.push]
    rw [e, e2] at H
    simp only [restO_eq] at H
    obtain ⟨t', h1, h2⟩ := HT.put_spec _ _ _ _ _ H
    rw [rest2_eq] at h1
    exact ⟨t', n + 1, hp_ext rfl (fun j => by rw [h2]; rfl), h1⟩
  · have e : (((hp t n).set b o).n == n) = true := by simp [hp, AHeap.set]
    have e2 : ((hp t n).set b o).m b = some o := set_at ..
    rw [e, ht] at H
    simp only [e2, restO_eq] at H
    obtain ⟨t', h1, h2⟩ := HT.put_spec _ _ _ _ _ H
    rw [rest2_eq] at h1
    exact ⟨t', n, hp_ext rfl (fun j => by rw [h2]; rfl), h1⟩
abbrev CT := FuncId → List AV → HT → Nat → (AV → HT → Nat → Bool) → Bool
def evOp (P : Program) (call : CT) (D : Nat) (f : Fr) (t : HT) (n : Nat) (op : Op) (k : AV → HT → Nat → Bool) : Bool :=
  match isCallV op with
  | true => match calleeF f op with
    | some p => call p.1 p.2 t n k
    | none => false
  | false => match kop P f (hp t n) op with
    | some p => sync D t n p.1 p.2 (tgt f op) k
    | none => false
def wantB (ops : Array Oper) (f : Fr) (o : Oper) (yes no : Unit → Bool) : Bool :=
  match o.guard with
  | none => yes ()
  | some (j, want) => match (ops[j]?).bind (·.dst) with
    | some d => (match f.getD d (.tup []) with
      | .bool b => (match b == want with
        | true => yes ()
        | false => no ())
      | .tup [] => no ()
      | _ => false)
    | none => no ()
def CTOk (P : Program) (call : CT) : Prop := ∀ g args t n k, call g args t n k = true → SC P g args (hp t n) (fun v h => ∃ t' n', h = hp t' n' ∧ k v t' n' = true)
theorem evOp_spec {P : Program} {call : CT} (hc : CTOk P call) {D : Nat} {f : Fr} {t : HT} {n : Nat} {op : Op} {k : AV → HT → Nat → Bool} (H : evOp P call D f t n op k = true) {K : AV → AHeap → Prop} (hK : ∀ v t n, k v t n = true → K v (hp t n)) :
    aop P (SC P) f (hp t n) op K := by
  unfold evOp at H
  rw [kop_eq] at H
  unfold aop
  split at H
  · rename_i e
    rw [e]
    simp only
    split at H
    · rename_i p hp'
      rw [hp']
      exact SC_mono (hc _ _ _ _ _ H) (fun v h ⟨t', n', e1, e2⟩ => by rw [e1]; exact hK _ _ _ e2)
    · cases H
  · rename_i e
    rw [e]
    simp only
    split at H
    · rename_i p hp'
      rw [hp']
      obtain ⟨t', n', h1, h2⟩ := sync_spec (aopF_moves hp') H
      unfold bind2
      simp only
      rw [← h1]
      exact hK _ _ _ h2
    · cases H
theorem wantB_spec {ops : Array Oper} {f : Fr} {o : Oper} {yes no : Unit → Bool} (H : wantB ops f o yes no = true) {Y N : Fr → Prop} (hy : yes () = true → Y f) (hn : no () = true → N f) : wantedA ops f o Y N := by
  unfold wantB at H
  unfold wantedA
  split at H
  · rename_i e; rw [e]; exact hy H
  · rename_i j want e
    rw [e]
    simp only
    split at H
    · rename_i d hd
      rw [hd]
      simp only
      have hset : ∀ b, f.getD d (.tup []) = .bool b → f.set d (.bool b) = f := fun b hb => by
        rw [List.getD_eq_getElem?_getD] at hb
        cases hx : f[d]? with
        | none => rw [hx] at hb; cases hb
        | some y =>
          rw [hx] at hb
          simp only [Option.getD_some] at hb
          subst hb
          obtain ⟨hlt, he⟩ := List.getElem?_eq_some_iff.1 hx
          rw [← he]
          exact List.set_getElem_self hlt
      split at H
      · rename_i b hb
        rw [hb]
        simp only
        split at H
        · rename_i q
          have := hy H
          cases b <;> cases want <;> simp at q <;> simp only [ifB, hset _ hb] <;> simpa using this
        · rename_i q
          have := hn H
          cases b <;> cases want <;> simp at q <;> simp only [ifB, hset _ hb] <;> simpa using this
      · rename_i hb
        rw [hb]
        exact hn H
      · cases H
    · rename_i hd
      rw [hd]
      exact hn H
end Go.AM
/- A machine that the kernel can run: regions, code, calls. -/
namespace Go.AM
open Go Go.RowKit
set_option linter.unusedVariables false
set_option linter.unusedSimpArgs false

def evOps (P : Program) (call : CT) (D : Nat) (ops : Array Oper) : List Oper → Fr → HT → Nat → (Fr → HT → Nat → Bool) → Bool
  | [], f, t, n, k => k f t n
  | o :: rest, f, t, n, k => wantB ops f o
      (fun _ => evOp P call D f t n o.op fun v t n => putF f o.dst v fun f => evOps P call D ops rest f t n k)
      (fun _ => putF f o.dst (.tup []) fun f => evOps P call D ops rest f t n k)
theorem evOps_spec {P : Program} {call : CT} (hc : CTOk P call) {D : Nat} {ops : Array Oper} {k : Fr → HT → Nat → Bool} {K : Fr → AHeap → Prop} (hK : ∀ f t n, k f t n = true → K f (hp t n)) : ∀ (l : List Oper) (f : Fr) (t : HT) (n : Nat), evOps P call D ops l f t n k = true →
    execOps P (SC P) ops l f (hp t n) K
  | [], f, t, n, H => hK f t n H
  | o :: rest, f, t, n, H => by
    unfold evOps at H
    unfold execOps
    refine wantB_spec H (fun H => ?_) (fun H => ?_)
    · refine evOp_spec hc H (fun v t n H => ?_)
      rw [putF_eq] at H
      exact evOps_spec hc hK rest _ t n H
    · rw [putF_eq] at H
      exact evOps_spec hc hK rest _ t n H
/-- Are what lags behind and memory still at one? Told for what the kernel can tell apart. -/
def sameV : AV → AV → Bool
  | .bool a, .bool b => a == b
  | .int k a, .int l b => k == l && a == b
  | .ptr a b c d, .ptr e f g h => a == e && b == f && c == g && d == h
  | .nilp, .nilp | .nils, .nils | .nilm, .nilm | .nilf, .nilf => true
  | .sl a b c d, .sl e f g h => a == e && b == f && c == g && d == h
  | .map a, .map b => a == b
  | .str a, .str b => a == b
  | .agg a, .agg b => sameL a b
  | .tup a, .tup b => sameL a b
  | _, _ => false
where sameL : List AV → List AV → Bool
  | [], [] => true
  | a :: as, b :: bs => sameV a b && sameL as bs
  | _, _ => false
mutual
theorem sameV_eq : ∀ (a b : AV), sameV a b = true → a = b
  | .bool a, .bool b, h => by simp [sameV] at h; rw [h]
  | .int k a, .int l b, h => by simp [sameV] at h; rw [h.1, h.2]
  | .ptr a b c d, .ptr e f g i, h => by simp [sameV] at h; rw [h.1.1.1, h.1.1.2, h.1.2, h.2]
  | .nilp, .nilp, _ => rfl
  | .nils, .nils, _ => rfl
  | .nilm, .nilm, _ => rfl
  | .nilf, .nilf, _ => rfl
  | .sl a b c d, .sl e f g i, h => by simp [sameV] at h; rw [h.1.1.1, h.1.1.2, h.1.2, h.2]
  | .map a, .map b, h => by simp [sameV] at h; rw [h]
  | .str a, .str b, h => by simp [sameV] at h; rw [h]
  | .agg a, .agg b, h => by simp only [sameV] at h; rw [sameL_eq a b h]
  | .tup a, .tup b, h => by simp only [sameV] at h; rw [sameL_eq a b h]
  | .unk, b, h => by cases b <;> simp [sameV] at h
  | .fn _ _, b, h => by cases b <;> simp [sameV] at h
  | .bool _, .unk, h | .bool _, .int .., h | .bool _, .str _, h | .bool _, .ptr .., h | .bool _, .nilp, h | .bool _, .sl .., h | .bool _, .nils, h | .bool _, .map _, h | .bool _, .nilm, h | .bool _, .fn .., h | .bool _, .nilf, h | .bool _, .agg _, h | .bool _, .tup _, h => by simp [sameV] at h
  | .int .., .unk, h | .int .., .bool _, h | .int .., .str _, h | .int .., .ptr .., h | .int .., .nilp, h | .int .., .sl .., h | .int .., .nils, h | .int .., .map _, h | .int .., .nilm, h | .int .., .fn .., h | .int .., .nilf, h | .int .., .agg _, h | .int .., .tup _, h => by simp [sameV] at h
  | .str .., .unk, h | .str .., .bool _, h | .str .., .int .., h | .str .., .ptr .., h | .str .., .nilp, h | .str .., .sl .., h | .str .., .nils, h | .str .., .map _, h | .str .., .nilm, h | .str .., .fn .., h | .str .., .nilf, h | .str .., .agg _, h | .str .., .tup _, h => by simp [sameV] at h
  | .ptr .., .unk, h | .ptr .., .bool _, h | .ptr .., .int .., h | .ptr .., .str .., h | .ptr .., .nilp, h | .ptr .., .sl .., h | .ptr .., .nils, h | .ptr .., .map _, h | .ptr .., .nilm, h | .ptr .., .fn .., h | .ptr .., .nilf, h | .ptr .., .agg _, h | .ptr .., .tup _, h => by simp [sameV] at h
  | .nilp, .unk, h | .nilp, .bool _, h | .nilp, .int .., h | .nilp, .str .., h | .nilp, .ptr .., h | .nilp, .sl .., h | .nilp, .nils, h | .nilp, .map _, h | .nilp, .nilm, h | .nilp, .fn .., h | .nilp, .nilf, h | .nilp, .agg _, h | .nilp, .tup _, h => by simp [sameV] at h
  | .sl .., .unk, h | .sl .., .bool _, h | .sl .., .int .., h | .sl .., .str .., h | .sl .., .nilp, h | .sl .., .ptr .., h | .sl .., .nils, h | .sl .., .map _, h | .sl .., .nilm, h | .sl .., .fn .., h | .sl .., .nilf, h | .sl .., .agg _, h | .sl .., .tup _, h => by simp [sameV] at h
  | .nils, .unk, h | .nils, .bool _, h | .nils, .int .., h | .nils, .str .., h | .nils, .nilp, h | .nils, .ptr .., h | .nils, .sl .., h | .nils, .map _, h | .nils, .nilm, h | .nils, .fn .., h | .nils, .nilf, h | .nils, .agg _, h | .nils, .tup _, h => by simp [sameV] at h
  | .map _, .unk, h | .map _, .bool _, h | .map _, .int .., h | .map _, .str .., h | .map _, .nilp, h | .map _, .ptr .., h | .map _, .sl .., h | .map _, .nils, h | .map _, .nilm, h | .map _, .fn .., h | .map _, .nilf, h | .map _, .agg _, h | .map _, .tup _, h => by simp [sameV] at h
  | .nilm, .unk, h | .nilm, .bool _, h | .nilm, .int .., h | .nilm, .str .., h | .nilm, .nilp, h | .nilm, .ptr .., h | .nilm, .sl .., h | .nilm, .nils, h | .nilm, .map _, h | .nilm, .fn .., h | .nilm, .nilf, h | .nilm, .agg _, h | .nilm, .tup _, h => by simp [sameV] at h
  | .nilf, .unk, h | .nilf, .bool _, h | .nilf, .int .., h | .nilf, .str .., h | .nilf, .nilp, h | .nilf, .ptr .., h | .nilf, .sl .., h | .nilf, .nils, h | .nilf, .map _, h | .nilf, .fn .., h | .nilf, .nilm, h | .nilf, .agg _, h | .nilf, .tup _, h => by simp [sameV] at h
  | .agg _, .unk, h | .agg _, .bool _, h | .agg _, .int .., h | .agg _, .str .., h | .agg _, .nilp, h | .agg _, .ptr .., h | .agg _, .sl .., h | .agg _, .nils, h | .agg _, .map _, h | .agg _, .fn .., h | .agg _, .nilm, h | .agg _, .nilf, h | .agg _, .tup _, h => by simp [sameV] at h
  | .tup _, .unk, h | .tup _, .bool _, h | .tup _, .int .., h | .tup _, .str .., h | .tup _, .nilp, h | .tup _, .ptr .., h | .tup _, .sl .., h | .tup _, .nils, h | .tup _, .map _, h | .tup _, .fn .., h | .tup _, .nilm, h | .tup _, .nilf, h | .tup _, .agg _, h => by simp [sameV] at h
theorem sameL_eq : ∀ (a b : List AV), sameV.sameL a b = true → a = b
  | [], [], _ => rfl
  | a :: as, b :: bs, h => by
    simp only [sameV.sameL, Bool.and_eq_true] at h
    rw [sameV_eq a b h.1, sameL_eq as bs h.2]
  | [], _ :: _, h => by simp [sameV.sameL] at h
  | _ :: _, [], h => by simp [sameV.sameL] at h
end
def lagsB (P : Program) (b : Array Nat) (i : Nat) (f : Fr) (h : AHeap) : Pend → Bool
  | [] => true
  | (j, op, v) :: r => match ordB b j i with
    | true => lagsB P b i f h r
    | false => match aopF P f h op with
      | some p => (match sameV p.1 v with
        | true => lagsB P b i f h r
        | false => false)
      | none => false
theorem lagsB_spec {P : Program} {b : Array Nat} {i : Nat} {f : Fr} {h : AHeap} : ∀ {p : Pend}, (∀ x ∈ p, solidOp P x.2.1 = false) → lagsB P b i f h p = true → lagsOk P b i f h p
  | [], _, _ => trivial
  | (j, op, v) :: r, hs, H => by
    unfold lagsB at H
    unfold lagsOk
    have hr := fun x hx => hs x (List.mem_cons_of_mem _ hx)
    split at H
    · rename_i e; rw [if_pos e]; exact lagsB_spec hr H
    · rename_i e
      rw [if_neg (by rw [e]; simp)]
      split at H
      · rename_i p hp'
        split at H
        · rename_i q
          obtain ⟨v', h'⟩ := p
          have h1 := soft_heap (hs _ List.mem_cons_self) hp'
          subst h1
          have := sameV_eq _ _ q
          simp only at this
          subst this
          exact ⟨hp', lagsB_spec hr H⟩
        · cases H
      · cases H
def allB : List Nat → (Nat → Bool) → Bool
  | [], _ => true
  | [x], p => p x
  | x :: r, p => match p x with
    | true => allB r p
    | false => false
theorem allB_spec {p : Nat → Bool} {q : Nat → Prop} : ∀ {l : List Nat}, (∀ i ∈ l, p i = true → q i) → allB l p = true → allP l q
  | [], _, _ => trivial
  | [x], h, H => h x List.mem_cons_self H
  | x :: y :: r, h, H => by
    unfold allB at H
    split at H
    · rename_i e
      exact ⟨h x List.mem_cons_self e, allB_spec (fun i hi => h i (List.mem_cons_of_mem _ hi)) H⟩
    · cases H
def evD (P : Program) (call : CT) (D : Nat) (ops : Array Oper) (b : Array Nat) : Nat → Nat → Pend → Fr → HT → Nat → (Fr → HT → Nat → Bool) → Bool
  | 0, _, _, _, _, _, _ => false
  | m + 1, C, pend, f, t, n, k => match soft P ops C with
    | some i => match ops[i]? with
      | some o => wantB ops f o
          (fun _ => match kop P f (hp t n) o.op with
            | some p => rest2 p.1 fun v => putF f o.dst v fun f => evD P call D ops b m (C ||| 2 ^ i) (match steadyOp o.op with | true => pend | false => (i, o.op, v) :: pend) f t n k
            | none => false)
          (fun _ => putF f o.dst (.tup []) fun f => evD P call D ops b m (C ||| 2 ^ i) pend f t n k)
      | none => false
    | none => match hards ops C with
      | [] => k f t n
      | l => allB l fun i => match ops[i]? with
        | some o => wantB ops f o
            (fun _ => evOp P call D f t n o.op fun v t n => match lagsB P b i f (hp t n) pend with
              | true => putF f o.dst v fun f => evD P call D ops b m (C ||| 2 ^ i) pend f t n k
              | false => false)
            (fun _ => putF f o.dst (.tup []) fun f => evD P call D ops b m (C ||| 2 ^ i) pend f t n k)
        | none => false
theorem evD_spec {P : Program} {call : CT} (hc : CTOk P call) {D : Nat} {ops : Array Oper} {b : Array Nat} {k : Fr → HT → Nat → Bool} {K : Fr → AHeap → Prop} (hK : ∀ f t n, k f t n = true → K f (hp t n)) : ∀ (m C : Nat) (pend : Pend) (f : Fr) (t : HT) (n : Nat), (∀ x ∈ pend, solidOp P x.2.1 = false) → evD P call D ops b m C pend f t n k = true →
    execD P (SC P) ops b m C pend f (hp t n) K
  | 0, _, _, _, _, _, _, H => by cases H
  | m + 1, C, pend, f, t, n, hs, H => by
    unfold evD at H
    unfold execD
    split at H
    · rename_i i hi
      rw [hi]
      simp only
      split at H
      · rename_i o ho
        rw [ho]
        simp only
        have hso : solidOp P o.op = false := by
          have := List.find?_some hi
          simp only [softAt, ho, Bool.and_eq_true, Bool.not_eq_true'] at this
          exact this.2
        refine wantB_spec H (fun H => ?_) (fun H => ?_)
        · rw [kop_eq] at H
          split at H
          · rename_i p hp'
            rw [rest2_eq, putF_eq] at H
            rw [hp']
            refine evD_spec hc hK m _ _ _ t n ?_ H
            intro x hx
            split at hx
            · exact hs x hx
            · rcases List.mem_cons.1 hx with rfl | hx
              · exact hso
              · exact hs x hx
          · cases H
        · rw [putF_eq] at H
          exact evD_spec hc hK m _ _ _ t n hs H
      · cases H
    · rename_i hi
      rw [hi]
      simp only
      split at H
      · rename_i hl
        rw [hl]
        exact hK f t n H
      · rename_i l hl
        have key : allP (hards ops C) (fun i => match ops[i]? with
            | some o => wantedA ops f o
              (fun f => aop P (SC P) f (hp t n) o.op fun v h' => lagsOk P b i f h' pend ∧ execD P (SC P) ops b m (C ||| 2 ^ i) pend (putO f o.dst v) h' K)
              (fun f => execD P (SC P) ops b m (C ||| 2 ^ i) pend (putO f o.dst (.tup [])) (hp t n) K)
            | none => False) := by
          refine allB_spec (fun i _ H => ?_) H
          split at H
          · rename_i o ho
            refine wantB_spec H (fun H => ?_) (fun H => ?_)
            · refine evOp_spec hc H (fun v t n H => ?_)
              split at H
              · rename_i e
                rw [putF_eq] at H
                exact ⟨lagsB_spec hs e, evD_spec hc hK m _ _ _ t n hs H⟩
              · cases H
            · rw [putF_eq] at H
              exact evD_spec hc hK m _ _ _ t n hs H
          · cases H
        split
        · rename_i e; exact absurd e hl
        · exact key
end Go.AM
/- A machine that the kernel can run: code, calls. -/
namespace Go.AM
open Go Go.RowKit
set_option linter.unusedVariables false
set_option linter.unusedSimpArgs false

abbrev EK := Ex → Fr → HT → Nat → Bool
def resH (P : Program) (fn : Func) (f : Fr) (t : HT) (n : Nat) (k : AV → HT → Nat → Bool) : Bool :=
  match fn.results.toList.mapM (resOf P f (hp t n)) with
  | some [v] => rest2 v fun v => k v t n
  | some vs => rest2 (.tup vs) fun v => k v t n
  | none => false
def evCall (P : Program) (ev : Code → Fr → HT → Nat → EK → Bool) : CT := fun g args t n k => match P.funcs[g]? with
  | some fn => (match fn.name == "runtime.NumGoroutine" with
    | true => false
    | false => match fn.body with
      | some c => restL rest1 args fun args => ev c (args ++ List.replicate (fn.ntmps - args.length) (.tup [])) t n fun e f t n => match e with
        | .exit _ => false
        | _ => resH P fn f t n k
      | none => false)
  | none => false
def evC (P : Program) (D : Nat) : Nat → Code → Fr → HT → Nat → EK → Bool
  | 0, _, _, _, _, _ => false
  | N + 1, c, f, t, n, k => match c with
    | .skip | .label _ => k .normal f t n
    | .region _ ops draw => match draw with
      | false => evOps P (evCall P (evC P D N)) D ops ops.toList f t n (k .normal)
      | true => match drawOk P ops (Region.before ops) with
        | true => evD P (evCall P (evC P D N)) D ops (Region.before ops) (ops.size + 1) 0 [] f t n (k .normal)
        | false => false
    | .seq a b => evC P D N a f t n fun e f t n => match e with
      | .normal => evC P D N b f t n k
      | .exit id => k (.exit id) f t n
      | .ret => k .ret f t n
    | .cond c a b => match evalO f c with
      | .bool q => (match q with
        | true => evC P D N a f t n k
        | false => evC P D N b f t n k)
      | _ => false
    | .block id a => evC P D N a f t n fun e f t n => match e with
      | .exit id' => (match id' == id with
        | true => k .normal f t n
        | false => k (.exit id') f t n)
      | .normal => k .normal f t n
      | .ret => k .ret f t n
    | .loop a => evC P D N a f t n fun e f t n => match e with
      | .normal => evC P D N (.loop a) f t n k
      | .exit id => k (.exit id) f t n
      | .ret => k .ret f t n
    | .scope a => evC P D N a f t n k
    | .exit id => k (.exit id) f t n
    | .ret => k .ret f t n
    | _ => false
def noHints : Nat → Option (List Nat) := fun _ => none
theorem clr_none (c : Code) (f : Fr) : clr noHints c f = f := by
  unfold clr noHints
  cases firstId c <;> rfl
def CallMono (call : FuncId → PT) : Prop := ∀ g args h Q Q', (∀ v h, Q v h → Q' v h) → call g args h Q → call g args h Q'
section
variable {P : Program} {call : FuncId → PT} (hc : CallMono call)
include hc
theorem aop_mono {f : Fr} {h : AHeap} {op : Op} {k k' : AV → AHeap → Prop} (hk : ∀ v h, k v h → k' v h) (H : aop P call f h op k) : aop P call f h op k' := by
  unfold aop at *
  split
  · rename_i e
    rw [e] at H
    simp only at H
    split
    · rename_i p hp; rw [hp] at H; exact hc _ _ _ _ _ hk H
    · rename_i hp; rw [hp] at H; exact H
  · rename_i e
    rw [e] at H
    simp only at H
    unfold bind2 at *
    split
    · rename_i p hp; rw [hp] at H; exact hk _ _ H
    · rename_i hp; rw [hp] at H; exact H
omit hc in
theorem wantedA_mono {ops : Array Oper} {f : Fr} {o : Oper} {Y N Y' N' : Fr → Prop} (hy : ∀ f, Y f → Y' f) (hn : ∀ f, N f → N' f) (H : wantedA ops f o Y N) : wantedA ops f o Y' N' := by
  unfold wantedA at *
  split
  · rename_i e; rw [e] at H; exact hy _ H
  · rename_i j want e
    rw [e] at H
    simp only at H
    split
    · rename_i d hd
      rw [hd] at H
      simp only at H
      split
      · rename_i b hb
        rw [hb] at H
        cases b <;> cases want <;> simp only [ifB] at H ⊢ <;> simp at H ⊢ <;> first | exact hy _ H | exact hn _ H
      · rename_i hb; rw [hb] at H; exact hn _ H
      · rename_i h1 h2
        split at H
        · rename_i b hb; exact (h1 b hb).elim
        · rename_i hb; exact (h2 hb).elim
        · exact H
    · rename_i hd; rw [hd] at H; exact hn _ H
theorem ops_mono {ops : Array Oper} {k k' : Fr → AHeap → Prop} (hk : ∀ f h, k f h → k' f h) : ∀ (l : List Oper) (f : Fr) (h : AHeap), execOps P call ops l f h k → execOps P call ops l f h k'
  | [], f, h, H => hk f h H
  | o :: r, f, h, H => by
    unfold execOps at *
    exact wantedA_mono (fun f H => aop_mono hc (fun v h H => ops_mono hk r _ h H) H) (fun f H => ops_mono hk r _ h H) H
omit hc in
theorem allP_mono {p q : Nat → Prop} (h : ∀ i, p i → q i) : ∀ {l : List Nat}, allP l p → allP l q
  | [], _ => trivial
  | [x], H => h x H
  | x :: y :: r, H => ⟨h x H.1, allP_mono h H.2⟩
theorem execD_mono {ops : Array Oper} {b : Array Nat} {k k' : Fr → AHeap → Prop} (hk : ∀ f h, k f h → k' f h) : ∀ (m C : Nat) (pend : Pend) (f : Fr) (h : AHeap), execD P call ops b m C pend f h k → execD P call ops b m C pend f h k'
  | 0, _, _, _, _, H => H
  | m + 1, C, pend, f, h, H => by
    unfold execD at *
    split
    · rename_i i hi
      rw [hi] at H
      simp only at H
      split
      · rename_i o ho
        rw [ho] at H
        simp only at H
        refine wantedA_mono (fun f H => ?_) (fun f H => execD_mono hk m _ _ _ h H) H
        unfold bind2 at *
        split
        · rename_i p hp; rw [hp] at H; exact execD_mono hk m _ _ _ h H
        · rename_i hp; rw [hp] at H; exact H
      · rename_i ho; rw [ho] at H; exact H
    · rename_i hi
      rw [hi] at H
      simp only at H
      split
      · rename_i hl; rw [hl] at H; exact hk f h H
      · rename_i l hl
        split at H
        · rename_i e; exact (hl e).elim
        · refine allP_mono (fun i H => ?_) H
          split
          · rename_i o ho
            rw [ho] at H
            simp only at H
            exact wantedA_mono (fun f H => aop_mono hc (fun v h H => ⟨H.1, execD_mono hk m _ _ _ h H.2⟩) H) (fun f H => execD_mono hk m _ _ _ h H) H
          · rename_i ho; rw [ho] at H; exact H
theorem exec_mono {hints : Nat → Option (List Nat)} : ∀ (c : Code) (f : Fr) (h : AHeap) (k k' : AK), (∀ e f h, k e f h → k' e f h) → exec P call hints c f h k → exec P call hints c f h k'
  | .skip, f, h, k, k', hk, H => hk _ _ _ H
  | .label _, f, h, k, k', hk, H => hk _ _ _ H
  | .region _ ops false, f, h, k, k', hk, H => by
    unfold exec at *
    exact ops_mono hc (fun f h H => hk _ _ _ H) _ _ _ H
  | .region _ ops true, f, h, k, k', hk, H => by
    unfold exec at *
    exact ⟨H.1, execD_mono hc (fun f h H => hk _ _ _ H) _ _ _ _ _ H.2⟩
  | .seq a b, f, h, k, k', hk, H => by
    unfold exec at *
    refine exec_mono a f h _ _ (fun e f h H => ?_) H
    cases e with
    | normal => exact exec_mono b _ h k k' hk H
    | exit id => exact hk _ _ _ H
    | ret => exact hk _ _ _ H
  | .cond c a b, f, h, k, k', hk, H => by
    have ha := fun f H => exec_mono (hints := hints) a f h k k' hk H
    have hb := fun f H => exec_mono (hints := hints) b f h k k' hk H
    unfold exec at H ⊢
    split
    · rename_i t ht
      rw [ht] at H
      cases c <;> cases t <;> first | exact ha _ H | exact hb _ H
    · rename_i h1
      split at H
      · rename_i t ht; exact (h1 t ht).elim
      · exact H
  | .block id a, f, h, k, k', hk, H => by
    unfold exec at *
    refine exec_mono a f h _ _ (fun e f h H => ?_) H
    cases e with
    | normal => exact hk _ _ _ H
    | ret => exact hk _ _ _ H
    | exit id' =>
      simp only at H ⊢
      split
      · rename_i q; rw [if_pos q] at H; exact hk _ _ _ H
      · rename_i q; rw [if_neg q] at H; exact hk _ _ _ H
  | .loop a, f, h, k, k', hk, H => by
    unfold exec at *
    intro I hI
    refine H I (fun f h H => hI f h (exec_mono a _ h _ _ (fun e f h H => ?_) H))
    cases e with
    | normal => exact H
    | exit id => exact hk _ _ _ H
    | ret => exact hk _ _ _ H
  | .exit id, f, h, k, k', hk, H => hk _ _ _ H
  | .ret, f, h, k, k', hk, H => hk _ _ _ H
  | .goto _, f, h, k, k', hk, H => by unfold exec at H; exact H.elim
  | .rangeFunc .., f, h, k, k', hk, H => by unfold exec at H; exact H.elim
  | .scope a, f, h, k, k', hk, H => by
    unfold exec at *
    exact exec_mono a f h k k' hk H
  | .refuse .., f, h, k, k', hk, H => by unfold exec at H; exact H.elim
end
theorem SC_callMono (P : Program) : CallMono (SC P) := fun _ _ _ _ _ hq H => SC_mono H hq
/-- One round, and the rest. -/
theorem loop_fold {P : Program} {call : FuncId → PT} (hc : CallMono call) {hints : Nat → Option (List Nat)} {a : Code} {f : Fr} {h : AHeap} {k : AK} (H : exec P call hints a (clr hints a f) h (fun e f h => match e with
    | .normal => exec P call hints (.loop a) f h k
    | e => k e f h)) : exec P call hints (.loop a) f h k := by
  unfold exec
  intro I hI
  refine hI f h (exec_mono hc a _ h _ _ (fun e f h H => ?_) H)
  cases e with
  | normal =>
    simp only at H ⊢
    unfold exec at H
    exact H I hI
  | exit id => exact H
  | ret => exact H
theorem resH_spec {P : Program} {fn : Func} {f : Fr} {t : HT} {n : Nat} {k : AV → HT → Nat → Bool} (H : resH P fn f t n k = true) : resultsA P fn f (hp t n) (fun v h => ∃ t' n', h = hp t' n' ∧ k v t' n' = true) := by
  unfold resH at H
  unfold resultsA
  split at H
  · rename_i v e
    rw [e]
    rw [rest2_eq] at H
    exact ⟨t, n, rfl, H⟩
  · rename_i vs hne e
    rw [e]
    rw [rest2_eq] at H
    split
    · rename_i v e2; cases e2; exact (hne v rfl).elim
    · rename_i vs' _ e2; cases e2; exact ⟨t, n, rfl, H⟩
    · rename_i e2; cases e2
  · cases H
theorem evC_spec {P : Program} (hm : P.follows .mixedOrders = true) {D : Nat} : ∀ (N : Nat) (c : Code) (f : Fr) (t : HT) (n : Nat) (k : EK) (K : AK), evC P D N c f t n k = true → (∀ e f t n, k e f t n = true → K e f (hp t n)) → exec P (SC P) noHints c f (hp t n) K
  | 0, _, _, _, _, _, _, H, _ => by cases H
  | N + 1, c, f, t, n, k, K, H, hK => by
    have hc : CTOk P (evCall P (evC P D N)) := by
      intro g args t n k H
      unfold evCall at H
      split at H
      rotate_left
      · cases H
      rename_i fn hf
      split at H
      · cases H
      rename_i hn
      split at H
      rotate_left
      · cases H
      rename_i c hb
      rw [restL_eq rest1 rest1_eq] at H
      refine SC_of hm hf hn hb (hints := noHints) (evC_spec hm N c _ t n _ _ H (fun e f t n H => ?_))
      cases e with
      | exit id => cases H
      | normal => exact resH_spec H
      | ret => exact resH_spec H
    unfold evC at H
    cases c with
    | skip => exact hK _ _ _ _ H
    | label l => exact hK _ _ _ _ H
    | region id ops draw =>
      unfold exec
      cases draw with
      | false => exact evOps_spec hc (fun f t n H => hK _ _ _ _ H) _ _ _ _ H
      | true =>
        simp only at H ⊢
        split at H
        · rename_i e
          exact ⟨e, evD_spec hc (fun f t n H => hK _ _ _ _ H) _ _ _ _ _ _ (fun x hx => by cases hx) H⟩
        · cases H
    | seq a b =>
      unfold exec
      refine evC_spec hm N a f t n _ _ H (fun e f t n H => ?_)
      cases e with
      | normal =>
        simp only [clr_none]
        exact evC_spec hm N b f t n k K H hK
      | exit id => exact hK _ _ _ _ H
      | ret => exact hK _ _ _ _ H
    | cond c a b =>
      unfold exec
      simp only at H
      split at H
      rotate_left
      · cases H
      rename_i q hq
      rw [hq]
      simp only
      have hset : ∀ d, c = .tmp d → f.set d (.bool q) = f := fun d e => by
        subst e
        simp only [evalO, List.getD_eq_getElem?_getD] at hq
        cases hx : f[d]? with
        | none => rw [hx] at hq; cases hq
        | some y =>
          rw [hx] at hq
          simp only [Option.getD_some] at hq
          subst hq
          obtain ⟨hlt, he⟩ := List.getElem?_eq_some_iff.1 hx
          rw [← he]
          exact List.set_getElem_self hlt
      cases q with
      | true =>
        have h1 := evC_spec hm N a f t n k K H hK
        split
        · rename_i d; rw [hset d rfl]; exact h1
        · exact h1
      | false =>
        have h1 := evC_spec hm N b f t n k K H hK
        split
        · rename_i d; rw [hset d rfl]; exact h1
        · exact h1
    | block id a =>
      unfold exec
      refine evC_spec hm N a f t n _ _ H (fun e f t n H => ?_)
      cases e with
      | normal => exact hK _ _ _ _ H
      | ret => exact hK _ _ _ _ H
      | exit id' =>
        simp only at H ⊢
        split at H
        · rename_i q
          rw [if_pos (by simpa using q)]
          exact hK _ _ _ _ H
        · rename_i q
          rw [if_neg (by simpa using q)]
          exact hK _ _ _ _ H
    | loop a =>
      refine loop_fold (SC_callMono P) ?_
      rw [clr_none]
      refine evC_spec hm N a f t n _ _ H (fun e f t n H => ?_)
      cases e with
      | normal => exact evC_spec hm N (.loop a) f t n k K H hK
      | exit id => exact hK _ _ _ _ H
      | ret => exact hK _ _ _ _ H
    | exit id => exact hK _ _ _ _ H
    | ret => exact hK _ _ _ _ H
    | goto l => cases H
    | rangeFunc => cases H
    | scope a =>
      unfold exec
      exact evC_spec hm N a f t n k K H hK
    | refuse => cases H
end Go.AM
