/- Appends. -/
import Derived.Test.YtlobjaanabepgaaDoorMachA
namespace Go.AM
open Go Go.RowKit
set_option linter.unusedVariables false
set_option linter.unusedSimpArgs false

theorem app_rel {β : Emb} {h : AHeap} {w w' : World} {b : Nat} {B : Blk} {l l' : Loc} (R : Rel β h w) (hB : h.m b = some (.blk B)) (hl : β.bl b B.gen = some l) (hro : B.ro = false) {n : Nat} {es : List (List AV)}
    (hn : n ≤ l.L) (e6 : ∀ e ∈ es, e.length = B.esz) (e7 : ∀ e ∈ es, ∀ v ∈ e, v.isCell = true) (os : w'.os = w.os) (tape : w'.tape = w.tape) (output : w'.output = w.output) (hs : w.heap.size ≤ w'.heap.size)
    (hold : ∀ k, k < w.heap.size → k ≠ l.k → w'.heap[k]? = w.heap[k]?)
    (hkeep : ∃ c t fr c', w.heap[l.k]? = some (.cells c t fr) ∧ w'.heap[l.k]? = some (.cells c' t fr) ∧ c'.size = c.size ∧ ∀ j, j < l.o + n * l.esz → c'[j]? = c[j]?)
    (hk : (l'.k = l.k ∧ l'.o = l.o) ∨ l'.k = w.heap.size) (n1 : l'.esz = B.esz) (n2 : l'.ro = false) (n3 : l'.L = n + es.length) (n4 : l'.k < w'.heap.size)
    (room : ∃ c t fr, w'.heap[l'.k]? = some (.cells c t fr) ∧ l'.o + l'.C * l'.esz ≤ c.size ∧ l'.L ≤ l'.C ∧ Frz c fr)
    (hnew : ∀ (i : Nat) (e : List AV) (f : Nat) (v : AV), (B.cells.take n ++ es)[i]? = some e → e[f]? = some v → ∃ cv, w'.cell? ⟨l'.k, l'.o + (i * l'.esz + f), none⟩ = some cv ∧ RV β v cv) :
    Rel (β.add b (B.gen + 1) l') (h.set b (.blk (B.app n es))) w' ∧ Post β (β.add b (B.gen + 1) l') h (h.set b (.blk (B.app n es))) w w' := by
  have bl := blk_esz R hl hB
  have hL := bl.Leq rfl
  obtain ⟨c, t, fr, c', hc, hc', hcs, hcc⟩ := hkeep
  have hfresh : β.bl b (B.gen + 1) = none := by
    cases e : β.bl b (B.gen + 1) with
    | none => rfl
    | some l2 =>
      have := (blk_esz R e hB).gle
      omega
  have E := Emb.add_ext (l := l') hfresh
  have hcl : (B.app n es).cells = B.cells.take n ++ es := rfl
  have hcm : ∀ z ∈ (B.app n es).cells, z ∈ B.cells ∨ z ∈ es := fun z hz => (List.mem_append.1 hz).imp (fun h1 => List.mem_of_mem_take h1) id
  have hlen : (B.app n es).cells.length = n + es.length := by rw [hcl, List.length_append, List.length_take]; omega
  have hsg : (B.app n es).sgen ≤ B.gen + 1 := by
    simp only [Blk.app]
    have := bl.sle
    split <;> omega
  have len' : ∀ z ∈ (B.app n es).cells, z.length = B.esz := fun z hz => (hcm z hz).elim (bl.len z) (e6 z)
  have isc' : ∀ z ∈ (B.app n es).cells, ∀ v ∈ z, v.isCell = true := fun z hz => (hcm z hz).elim (bl.isc z) (e7 z)
  refine upd1 R hB hl hro os tape output hs hold hk (fun g0 l0 hl0 => ?_) ?_
  · have b0 := blk_esz R hl0 hB
    have hold0 : ∀ o, (l0.k = l.k → o < l.o + n * l.esz) → w'.cell? ⟨l0.k, o, none⟩ = w.cell? ⟨l0.k, o, none⟩ := fun o ho => by
      by_cases q : l0.k = l.k
      · rw [q, cell_cells hc', cell_cells hc]
        exact hcc o (ho q)
      · exact cell_heap (hold _ b0.klt q) _ _
    refine ⟨b0.esz, b0.ro, Nat.le_succ_of_le b0.gle, fun hg => ?_, fun hg => ?_, hsg, b0.pos, len', isc', Nat.lt_of_lt_of_le b0.klt hs, fun hg i e f v hi he hv => ?_, fun hr => ?_⟩
    · simp only [Blk.app] at hg
      split at hg
      · have := b0.Lle hg
        rw [hlen]; omega
      · have := b0.gle; omega
    · have := b0.gle
      simp only [Blk.app] at hg
      omega
    · simp only [Blk.app] at hg
      split at hg
      rotate_left
      · have := b0.gle; omega
      rename_i hnL
      have hi2 := b0.Lle hg
      rw [hcl, List.getElem?_append_left (by rw [List.length_take]; omega), List.getElem?_take, if_pos (by omega)] at he
      obtain ⟨cv, q1, q2⟩ := b0.cell hg i e f v hi he hv
      have hfl : f < B.esz := by
        have q := (List.getElem?_eq_some_iff.1 hv).1
        rw [b0.len e (List.mem_of_getElem? he)] at q
        exact q
      refine ⟨cv, (hold0 _ (fun q => ?_)).trans q1, q2.mono E⟩
      have ho := R.off _ _ _ _ _ hl0 hl q
      rw [ho, b0.esz, bl.esz]
      have q3 : (i + 1) * B.esz ≤ n * B.esz := Nat.mul_le_mul_right _ (by omega)
      rw [Nat.succ_mul] at q3
      omega
    · obtain ⟨c0, t0, fr0, q1, q2⟩ := b0.room hr
      by_cases q : l0.k = l.k
      · rw [q, hc] at q1
        cases q1
        exact ⟨c', t, fr, by rw [q]; exact hc', by rw [hcs]; exact q2.1, q2.2.1, q2.2.2.same hcs⟩
      · exact ⟨c0, t0, fr0, (hold _ b0.klt q).trans q1, q2⟩
  · refine ⟨n1, n2.trans hro.symm, Nat.le_refl _, fun _ => by rw [hlen, n3]; exact Nat.le_refl _, fun _ => by rw [hlen, n3], hsg, bl.pos, len', isc', n4, fun _ i e f v hi he hv => ?_, fun _ => room⟩
    obtain ⟨cv, q1, q2⟩ := hnew i e f v he hv
    exact ⟨cv, q1, q2.mono E⟩
theorem askRoom_run {P : Program} (b : Nat) (w : World) : (askRoom b).run P w = .ok () w := by
  unfold askRoom
  split <;> rfl
theorem choose_run {P : Program} (q : Question) (h : q.forced = false) (w : World) : (choose q).run P w = .ok (q.cut (w.tape w.drawn q)) w.drew := by
  show (if q.forced then _ else _) = _
  rw [if_neg (by simp [h])]
  rfl
/-- What an append comes to where there's no room. -/
theorem grow_run {P : Program} {ts : Array TypeId} {ty t u e : TypeId} {inf : TypeInfo} {z : Value} {d : TypeDesc} (t0 : ts[0]? = some t) (u0 : P.underlying t = some (.slice e)) (t1 : ts[1]? = some u) (u1 : P.underlying u = some d)
    (hd : (∃ e', d = .slice e') ∨ d = .string) (hi : P.info? e = some inf) (hz : inf.zero = some z) {base : Option Addr} {n cap m : Nat} {x : Value} {w : World} (hlen : ∀ w2, (Builtin.lenOf x).run P w2 = .ok m w2)
    (hg : cap < n + m) (hby : 0 < inf.bytes) (hlim : (n + m) * inf.bytes ≤ 140737488355328) {olds news : Array Value} (ho : (Builtin.firstCells inf.size n (.slice base n cap)).run P w.drew = .ok olds w.drew)
    (hn : (Builtin.firstCells inf.size m x).run P w.drew = .ok news w.drew) :
    (Builtin.append_ ts ty #[.slice base n cap, x]).run P w = .ok (.slice (some ⟨w.heap.size, 0, none⟩) (n + m) (grownCap w (n + m) cap e))
      (w.drew.alloc (.cells (olds ++ news ++ Builtin.zeroCells z.cells (grownCap w (n + m) cap e - (n + m))) e)) := by
  have hm : (d matches .int _) = false := by rcases hd with ⟨e', rfl⟩ | rfl <;> rfl
  have hb0 : (inf.bytes = 0) = False := by simp; omega
  have hfit := growslice_fits (bytes := inf.bytes) hg hlim
  have hle : n + m ≤ 140737488355328 := Nat.le_trans (Nat.le_mul_of_pos_right _ hby) hlim
  have k1 : ¬ (n + m ≤ cap) := by omega
  have k2 : ¬ (((n + m : Nat) : Int) > IntKind.i64.max ∧ (false = true ∨ inf.bytes = 0)) := by
    rintro ⟨_, h | h⟩
    · cases h
    · omega
  have k3 : ¬ (Builtin.nextslicecap (n + m) cap * inf.bytes > 2 ^ 48) := by omega
  have szr : ∀ w : World, (sizeOf e).run P w = .ok inf.size w := fun w => by simp [sizeOf, Sem.run_bind, run_typeInfo hi, Result.andThen]
  have hch : ∀ w : World, (choose (.appendCap (n + m) cap e)).run P w = .ok (grownCap w (n + m) cap e) w.drew := fun w => choose_run _ rfl w
  rcases hd with ⟨e', rfl⟩ | rfl <;>
  simp only [Builtin.append_, t0, t1, List.getElem?_toArray, List.getElem?_cons_zero, List.getElem?_cons_succ, Sem.run_bind, run_underlying u0, run_underlying u1, Result.andThen, szr, Sem.run_pure, hlen, Bool.false_eq_true, if_false, Bool.not_false, if_true,
    if_neg k1, run_typeInfo hi, false_or, k3, hch, askRoom_run, ho, hn, run_zeroValue hi hz, run_newRow, hb0, and_false]
  all_goals rfl
end Go.AM
/- Appends: the operation. -/
namespace Go.AM
open Go Go.RowKit
set_option linter.unusedVariables false
set_option linter.unusedSimpArgs false

theorem room_run {P : Program} {ts : Array TypeId} {ty t u e : TypeId} {sz : Nat} {d : TypeDesc} (t0 : ts[0]? = some t) (u0 : P.underlying t = some (.slice e)) (t1 : ts[1]? = some u) (u1 : P.underlying u = some d)
    (hd : (∃ e', d = .slice e') ∨ d = .string) {w w' : World} (hs : (sizeOf e).run P w = .ok sz w) {base : Option Addr} {n cap m : Nat} {x : Value} (hlen : ∀ w2, (Builtin.lenOf x).run P w2 = .ok m w2)
    (hg : n + m ≤ cap) {news : Array Value} (hn : (Builtin.firstCells sz m x).run P w = .ok news w) (hst : ∀ a, base = some a → (storeCells (a.add (n * sz)) news.toList).run P w = .ok () w') (h0 : base = none → w' = w) :
    (Builtin.append_ ts ty #[.slice base n cap, x]).run P w = .ok (.slice base (n + m) cap) w' := by
  cases base with
  | none =>
    rw [h0 rfl]
    rcases hd with ⟨e', rfl⟩ | rfl <;>
    simp only [Builtin.append_, t0, t1, List.getElem?_toArray, List.getElem?_cons_zero, List.getElem?_cons_succ, Sem.run_bind, run_underlying u0, run_underlying u1, Result.andThen, hs, Sem.run_pure, hlen, Bool.false_eq_true, if_false, Bool.not_false, if_true,
      if_pos hg, hn]
  | some a =>
    have := hst a rfl
    rcases hd with ⟨e', rfl⟩ | rfl <;>
    simp only [Builtin.append_, t0, t1, List.getElem?_toArray, List.getElem?_cons_zero, List.getElem?_cons_succ, Sem.run_bind, run_underlying u0, run_underlying u1, Result.andThen, hs, Sem.run_pure, hlen, Bool.false_eq_true, if_false, Bool.not_false, if_true,
      if_pos hg, hn, this]
theorem append_out {P : Program} {o : Oper} {c : Call} {e : TypeId} {d : TypeDesc} {x y : Operand} {f : Fr} {h : AHeap} {i : TI} {p : AV × AHeap} (ho : o.op = .call c) (hb : c.callee = .builtin .append) (ha : c.args.toList = [x, y])
    (h0 : (c.argTypes[0]?).bind P.underlying = some (.slice e)) (h1 : (c.argTypes[1]?).bind P.underlying = some d) (hd : (∃ e', d = .slice e') ∨ d = .string) (ht : tinfo P e = some i) (hpos : 0 < i.sz) (hby : 0 < i.bytes)
    (hzl : i.zero.length = i.sz) (hzk : zeroOk i.zero = true)
    (H : fAppend i.sz (140737488355328 / i.bytes) h (evalO f x) (evalO f y) = some p) : OpOut P o f h p.1 p.2 := by
  obtain ⟨t, t0, u0⟩ := ty_of h0
  obtain ⟨u, t1, u1⟩ := ty_of h1
  refine .val fun β w a R F => ?_
  have hsz := fun w => run_sizeOf (P := P) ht w
  obtain ⟨d', inf, z, k1, k2, k3, rfl⟩ := tinfo_some ht
  have hpos2 : 0 < inf.size := hpos
  have hby2 : 0 < inf.bytes := hby
  have hzs : z.cells.size = inf.size := by
    have := ((ofValue_rv β z).cells (fun e => by simp [e, AV.cells, zeroOk] at hzk)).1
    rw [← this]; exact hzl
  have key : ∀ (b : Builtin) c', (builtin .append c.argTypes o.type c' (c.args.map a.eval)).run P w = ((Builtin.append_ c.argTypes o.type #[a.eval x, a.eval y]).run P w).andThen fun v w => .ok (.value v) w := fun _ _ => by
    rw [args_two ha]
    simp only [builtin, Sem.run_bind]
    rfl
  simp only [bcall_run ho hb, key .append]
  unfold fAppend at H
  split at H
  · cases H
  rename_i es hes
  obtain ⟨q1, q2, q3, q4⟩ := src_run (P := P) R hpos (eval_rv F y) hes
  obtain ⟨vs, r1, r2, r3, r4⟩ := q4 es.length (Nat.le_refl _)
  rw [List.take_length] at r2
  have limit : ∀ n, n + es.length ≤ 140737488355328 / inf.bytes → (n + es.length) * inf.bytes ≤ 140737488355328 := fun n hn => Nat.mul_le_of_le_div _ _ _ hn
  split at H
  · rename_i hx
    have rx := eval_rv F x
    rw [hx] at rx
    rw [nils_inv rx]
    split at H
    · rename_i hz0
      cases H
      have run := room_run (ty := o.type) t0 u0 t1 u1 hd (hsz w) q3 (base := none) (n := 0) (cap := 0) (by omega) (r4 w (fun _ _ => rfl)) (fun a h => by cases h) (fun _ => rfl)
      rw [hz0] at run
      exact ⟨.slice none 0 0, w, β, by rw [run]; rfl, .nils, R, Post.refl ..⟩
    · rename_i hz0
      split at H
      rotate_left
      · cases H
      rename_i hlim
      cases H
      have hg := limit 0 (by simpa using hlim)
      have run := grow_run (ty := o.type) t0 u0 t1 u1 hd k2 k3 (base := none) (n := 0) (cap := 0) (w := w) q3 (by omega) hby2 hg (olds := #[]) (news := vs.toArray) (by simp [Builtin.firstCells]) (r4 w.drew (fun _ _ => rfl))
      have hge := grownCap_ge w (0 + es.length) 0 e
      have al := alloc_rel (β := β) (h := h) (w := w) (w1 := w.drew.alloc (.cells (#[] ++ vs.toArray ++ Builtin.zeroCells z.cells (grownCap w (0 + es.length) 0 e - (0 + es.length))) e)) (esz := inf.size) (C := grownCap w (0 + es.length) 0 e) (cs := es)
        (t := e) (fr := (0, 0)) R hpos2 q1 q2 rfl rfl rfl rfl (by omega) (by
          simp only [Array.size_append, List.size_toArray, List.length_nil, size_zeroCells, hzs, r1]
          rw [Nat.zero_add, Nat.zero_add, ← Nat.add_mul]
          exact Nat.mul_le_mul_right _ (by omega)) (.inl rfl) ⟨vs.toArray, r2, fun j hj => by
          simp only [Array.empty_append]
          rw [Array.getElem?_append_left hj]⟩
      refine ⟨_, _, _, by rw [run]; rfl, ?_, al.1, al.2⟩
      rw [Nat.zero_add]
      rw [Nat.zero_add] at hge
      exact .sl h.n 0 0 es.length ⟨w.heap.size, 0, es.length, _, inf.size, false⟩ _ _ (Emb.add_at ..) (by simp) hge (by simp) (.inr (by simp))
  · rename_i b g j n hx
    have rx := eval_rv F x
    rw [hx] at rx
    obtain ⟨l, ad, cap, hl, c1, c2, c3, c4, c5⟩ := sl_inv rx
    rw [c5]
    split at H
    · rename_i hz0
      cases H
      have hvs : vs = [] := List.length_eq_zero_iff.1 (by rw [r1, hz0, Nat.zero_mul])
      subst hvs
      have run := room_run (ty := o.type) t0 u0 t1 u1 hd (hsz w) q3 (base := some ad) (n := n) (cap := cap) (by omega) (r4 w (fun _ _ => rfl)) (fun a h => rfl) (fun _ => rfl)
      rw [hz0] at run
      exact ⟨.slice (some ad) n cap, w, β, by rw [run]; rfl, by rw [← c5]; exact rx, R, Post.refl ..⟩
    · rename_i hz0
      split at H
      rotate_left
      · cases H
      rename_i B hB
      split at H
      rotate_left
      · cases H
      rename_i hcond
      obtain ⟨rfl, hro, rfl, hez, hlim⟩ := hcond
      cases H
      have bl := blk_esz R hl hB
      have hL := bl.Leq rfl
      have lro : l.ro = false := bl.ro.trans hro
      have hle : l.esz = inf.size := bl.esz.trans hez
      obtain ⟨c0, ct, fr, hc0, hcs, hLC, hfr⟩ := bl.room lro
      have hg := limit n hlim
      have e6 : ∀ z ∈ es, z.length = B.esz := fun z hz => (q1 z hz).trans hez.symm
      have hflen : es.flatten.length = es.length * inf.size := flat_length _ q1
      by_cases hroom : n + es.length ≤ cap
      · have had : ad = ⟨l.k, l.o + 0 * l.esz, none⟩ := c4.resolve_left (by omega)
        subst had
        have hCC : (n + es.length) * l.esz ≤ l.C * l.esz := Nat.mul_le_mul_right _ (by omega)
        rw [Nat.add_mul] at hCC
        have r1' : vs.length = es.length * l.esz := by rw [hle]; exact r1
        obtain ⟨w', c', g1, g2, g3, g4, g5, g6, g7, g8, g9⟩ := storeCells_run P l.k (l.o + n * l.esz) vs 0 w c0 ct fr r3 hc0 (by omega) (fun j q1 q2 => hfr.free (by omega))
        have run := room_run (ty := o.type) (w' := w') t0 u0 t1 u1 hd (hsz w) q3 (base := some ⟨l.k, l.o + 0 * l.esz, none⟩) (n := n) (cap := cap) hroom (r4 w (fun _ _ => rfl)) (fun a h => by
          cases h
          rw [addr_add, Nat.zero_mul, Nat.add_zero, ← hle]
          exact g1) (fun h => by cases h)
        have ar := app_rel (l' := ⟨l.k, l.o, n + es.length, l.C, l.esz, false⟩) R hB hl hro (by omega : n ≤ l.L) e6 q2 g6 g7 g8 (by omega) (fun k _ hk => g5 k hk)
          ⟨c0, ct, fr, c', hc0, g2, g3, fun j hj => by rw [g9]; exact if_neg (by omega)⟩ (.inl ⟨rfl, rfl⟩) bl.esz rfl rfl (by rw [g4]; exact bl.klt)
          ⟨c', ct, fr, g2, by rw [g3]; exact hcs, by simp only; omega, hfr.same g3⟩ (fun i' e' f' v' he' hv' => by
            simp only
            by_cases hi : i' < n
            · rw [List.getElem?_append_left (by rw [List.length_take]; omega), List.getElem?_take, if_pos hi] at he'
              obtain ⟨cv, s1, s2⟩ := bl.cell bl.sle i' e' f' v' (by omega) he' hv'
              have hfl : f' < l.esz := by
                have q := (List.getElem?_eq_some_iff.1 hv').1
                rw [bl.len e' (List.mem_of_getElem? he'), ← bl.esz] at q
                exact q
              have q3 : (i' + 1) * l.esz ≤ n * l.esz := Nat.mul_le_mul_right _ (by omega)
              rw [Nat.succ_mul] at q3
              rw [cell_cells hc0] at s1
              exact ⟨cv, by rw [cell_cells g2, g9, if_neg (by omega)]; exact s1, s2⟩
            · rw [List.getElem?_append_right (by rw [List.length_take]; omega), List.length_take, Nat.min_eq_left (by omega)] at he'
              have hat := flat_at hpos2 q1 he' hv'
              have hlt : (i' - n) * inf.size + f' < vs.length := by
                have := (List.getElem?_eq_some_iff.1 hat).1
                rw [hflen] at this
                rw [r1]; exact this
              refine ⟨vs[(i' - n) * inf.size + f'], ?_, r2.2 _ _ _ hat (by simp [hlt])⟩
              have hii : i' * l.esz = n * l.esz + (i' - n) * l.esz := by rw [← Nat.add_mul]; congr 1; omega
              rw [← hle] at hlt
              rw [cell_cells g2, g9, if_pos (by omega), hii]
              rw [show l.o + (n * l.esz + (i' - n) * l.esz + f') - (l.o + n * l.esz + 0) = (i' - n) * inf.size + f' by rw [← hle]; omega]
              exact List.getElem?_eq_getElem _)
        refine ⟨_, _, _, by rw [run]; rfl, ?_, ar.1, ar.2⟩
        exact .sl b (B.gen + 1) 0 (n + es.length) ⟨l.k, l.o, n + es.length, l.C, l.esz, false⟩ _ cap (Emb.add_at ..) (by simp) hroom (by simp only; omega) (.inr rfl)
      · have hx2 : elems inf.size h (evalO f x) = some ((B.cells.drop 0).take n) := by
          rw [hx]
          simp only [elems, hB]
          rw [if_pos ⟨hez, bl.sle⟩]
        obtain ⟨p1, p2, p3, p4⟩ := src_run (P := P) R hpos2 (eval_rv F x) hx2
        rw [c5] at p3 p4
        have hnl : ((B.cells.drop 0).take n).length = n := by rw [List.length_take, List.length_drop]; omega
        obtain ⟨us, s1, s2, s3, s4⟩ := p4 n (by omega)
        rw [List.take_take, Nat.min_self, List.drop_zero] at s2
        have run := grow_run (ty := o.type) t0 u0 t1 u1 hd k2 k3 (base := some ad) (n := n) (cap := cap) (w := w) q3 (by omega) hby2 hg (olds := us.toArray) (news := vs.toArray) (s4 w.drew (fun _ _ => rfl)) (r4 w.drew (fun _ _ => rfl))
        have hge := grownCap_ge w (n + es.length) cap e
        have hcz : (us.toArray ++ vs.toArray ++ Builtin.zeroCells z.cells (grownCap w (n + es.length) cap e - (n + es.length))).size = grownCap w (n + es.length) cap e * inf.size := by
          simp only [Array.size_append, List.size_toArray, size_zeroCells, hzs, r1, s1]
          rw [← Nat.add_mul, ← Nat.add_mul]
          congr 1
          omega
        have hh : (w.drew.alloc (.cells (us.toArray ++ vs.toArray ++ Builtin.zeroCells z.cells (grownCap w (n + es.length) cap e - (n + es.length))) e)).heap[w.heap.size]? =
            some (.cells (us.toArray ++ vs.toArray ++ Builtin.zeroCells z.cells (grownCap w (n + es.length) cap e - (n + es.length))) e (0, 0)) := heap_alloc_new w.drew _
        have hw : ∀ k, k < w.heap.size → (w.drew.alloc (.cells (us.toArray ++ vs.toArray ++ Builtin.zeroCells z.cells (grownCap w (n + es.length) cap e - (n + es.length))) e)).heap[k]? = w.heap[k]? := fun k hk => heap_alloc_old w.drew _ k hk
        have hsz2 : (w.drew.alloc (.cells (us.toArray ++ vs.toArray ++ Builtin.zeroCells z.cells (grownCap w (n + es.length) cap e - (n + es.length))) e)).heap.size = w.heap.size + 1 := by simp
        have both : RVs β ((B.cells.take n ++ es).flatten) (us.toArray ++ vs.toArray) := by rw [List.flatten_append]; exact s2.append r2
        have hbl : ∀ z ∈ B.cells.take n ++ es, z.length = inf.size := fun z hz => (List.mem_append.1 hz).elim (fun h => (bl.len z (List.mem_of_mem_take h)).trans hez) (q1 z)
        have ar := app_rel (l' := ⟨w.heap.size, 0, n + es.length, grownCap w (n + es.length) cap e, inf.size, false⟩) (w' := w.drew.alloc (.cells (us.toArray ++ vs.toArray ++ Builtin.zeroCells z.cells (grownCap w (n + es.length) cap e - (n + es.length))) e)) R hB hl hro (by omega : n ≤ l.L) e6 q2 rfl rfl rfl (by omega) (fun k hk _ => hw k hk)
          ⟨c0, ct, fr, c0, hc0, (hw _ bl.klt).trans hc0, rfl, fun _ _ => rfl⟩ (.inr rfl) hez.symm rfl rfl (by rw [hsz2]; exact Nat.lt_succ_self _)
          ⟨_, _, _, hh, by rw [hcz]; simp, hge, .inl rfl⟩ (fun i' e' f' v' he' hv' => by
            have hat := flat_at hpos2 hbl he' hv'
            have hlt : i' * inf.size + f' < (us.toArray ++ vs.toArray).size := by
              rw [← both.1]
              exact (List.getElem?_eq_some_iff.1 hat).1
            refine ⟨(us.toArray ++ vs.toArray)[i' * inf.size + f'], ?_, both.2 _ _ _ hat (Array.getElem?_eq_getElem hlt)⟩
            simp only
            rw [cell_cells hh, Nat.zero_add, Array.getElem?_append_left hlt]
            exact Array.getElem?_eq_getElem hlt)
        refine ⟨_, _, _, by rw [run]; rfl, ?_, ar.1, ar.2⟩
        exact .sl b (B.gen + 1) 0 (n + es.length) ⟨w.heap.size, 0, n + es.length, _, inf.size, false⟩ _ _ (Emb.add_at ..) (by simp) hge (by simp) (.inr (by simp))
  · cases H
end Go.AM
/- Bytes of strings, lengths, the least and the greatest, maps. -/
namespace Go.AM
open Go Go.RowKit
set_option linter.unusedVariables false
set_option linter.unusedSimpArgs false

theorem markStringish_run {P : Program} {w : World} {c : Array Value} {t : TypeId} (w0 : World) (h : w = w0.alloc (.cells c t)) : ∃ fr w', (markStringish ⟨w0.heap.size, 0, none⟩).run P w = .ok () w' ∧ w'.heap = w0.heap.push (.cells c t fr) ∧ fr.1 = c.size ∧
    w'.os = w.os ∧ w'.tape = w.tape ∧ w'.output = w.output := by
  subst h
  refine ⟨(c.size, c.size + 1), ((w0.alloc (.cells c t)).freeze { block := w0.heap.size, off := c.size } 1), ?_, ?_, rfl, ?_, ?_, ?_⟩
  · have hs : (w0.alloc (.cells c t)).shape? w0.heap.size = some (t, c.size) := by unfold World.shape?; rw [heap_alloc_new]
    have e : (shape w0.heap.size).run P (w0.alloc (.cells c t)) = .ok (some (t, c.size)) (w0.alloc (.cells c t)) := by
      show Result.ok ((w0.alloc (.cells c t)).shape? w0.heap.size) _ = _
      rw [hs]
    simp only [markStringish, Sem.run_bind, e, Result.andThen]
    rfl
  · simp only [World.freeze, Nat.one_ne_zero, if_false]
    apply Array.ext_getElem?
    intro j
    rw [Array.getElem?_modify]
    by_cases q : w0.heap.size = j
    · subst q
      rw [if_pos rfl, heap_alloc_new, Array.getElem?_push_size]
      rfl
    · rw [if_neg q]
      rcases Nat.lt_or_gt_of_ne q with h1 | h1
      · rw [Array.getElem?_eq_none (by simp; omega), Array.getElem?_eq_none (by simp; omega)]
      · rw [heap_alloc_old _ _ _ h1, Array.getElem?_push_lt h1]
        exact Array.getElem?_eq_getElem h1
  all_goals rfl
theorem bytesOf_out {P : Program} {o : Oper} {s t e : TypeId} {x : Operand} {f : Fr} {h : AHeap} {p : AV × AHeap} (ho : o.op = .convert s t x) (hs : P.underlying s = some .string) (ht : P.underlying t = some (.slice e))
    (he : P.underlying e = some (.int .u8)) (H : fBytesOf h (evalO f x) = some p) : OpOut P o f h p.1 p.2 := by
  unfold fBytesOf at H
  split at H
  rotate_left
  · cases H
  rename_i l hx
  cases H
  refine newSl_out (t := e) (by decide) (fun z hz => by obtain ⟨q, _, rfl⟩ := List.mem_map.1 hz; rfl) (fun z hz v hv => by
    obtain ⟨q, _, rfl⟩ := List.mem_map.1 hz
    rw [List.mem_singleton.1 hv]; rfl) fun β w a R F => ?_
  have rx := eval_rv F x
  rw [hx] at rx
  obtain ⟨b, hb, hl⟩ := str_inv rx
  have hlen : l.length = b.size := by rw [← hl]; simp
  let elems : Array Value := b.data.map fun b => .int .u8 b.toNat
  have hge := grownCap_ge w b.size 0 e
  obtain ⟨fr, w', k1, k2, k3, k4, k5, k6⟩ := markStringish_run (P := P) (c := elems ++ Array.replicate (grownCap w b.size 0 e - b.size) (.int .u8 0)) (t := e) w.drew rfl
  have hes : elems.size = b.size := by simp [elems]
  refine ⟨_, grownCap w b.size 0 e, fr, elems, w', ⟨?_, ?_⟩, fun j hj => Array.getElem?_append_left hj, by simp; omega, by simp [hes]; omega, .inr (by rw [k3]; exact Nat.le_refl _), k2, k4, k5, k6, ?_⟩
  · rw [flat_length (k := 1) _ (fun z hz => by obtain ⟨q, _, rfl⟩ := List.mem_map.1 hz; rfl)]
    simp [hes, hlen]
  · intro i u v hu hv
    have e1 : (l.map fun c => [AV.int .u8 c]).flatten = l.map fun c => AV.int .u8 c := by
      generalize l = r
      induction r with
      | nil => rfl
      | cons q r ih => simp only [List.map_cons, List.flatten_cons, ih]; rfl
    rw [e1, ← hl, List.map_map, List.getElem?_map, Option.map_eq_some_iff] at hu
    simp only [elems, Array.getElem?_map, Option.map_eq_some_iff] at hv
    obtain ⟨b1, hb1, rfl⟩ := hu
    obtain ⟨b2, hb2, rfl⟩ := hv
    rw [Array.getElem?_toList, hb2] at hb1
    cases hb1
    exact .int _ _
  · have hch : (choose (.appendCap b.size 0 e)).run P w = .ok (grownCap w b.size 0 e) w.drew := choose_run _ rfl w
    simp only [execOp, ho, convert, Sem.run_bind, run_underlying hs, run_underlying ht, run_underlying he, Result.andThen, hb, Conv.stringToBytes, hch, run_newRow]
    erw [k1]
    simp [Sem.run_pure, hlen]
theorem set_same {h : AHeap} {b : Nat} {o : AObj} (e : h.m b = some o) : h.set b o = h := by
  cases h with
  | mk m n =>
    simp only [AHeap.set, AHeap.mk.injEq, and_true]
    funext i
    split
    · rename_i q; rw [q]; exact e.symm
    · rfl
theorem mark_out {P : Program} {o : Oper} {t e : TypeId} {x : Operand} {f : Fr} {h : AHeap} {v : AV} (ho : o.op = .convert t t x) (ht : P.underlying t = some (.slice e)) (he : P.underlying e = some (.int .u8))
    (H : fMark h (evalO f x) = some v) : OpOut P o f h v h := by
  unfold fMark at H
  split at H
  rotate_left
  · cases H
  rename_i b g i n hx
  split at H
  rotate_left
  · cases H
  rename_i B hB
  split at H
  rotate_left
  · cases H
  rename_i hc
  obtain ⟨hro, rfl, hn⟩ := hc
  cases H
  refine .val fun β w a R F => ?_
  have rx := eval_rv F x
  rw [hx] at rx
  obtain ⟨l, ad, cap, hl, c1, c2, c3, c4, c5⟩ := sl_inv rx
  have had : ad = ⟨l.k, l.o + i * l.esz, none⟩ := c4.resolve_left (by omega)
  subst had
  have bl := blk_esz R hl hB
  have lro : l.ro = false := bl.ro.trans hro
  obtain ⟨c, ct, fr, hc0, hcs, hLC, hfr⟩ := bl.room lro
  let fr' : Nat × Nat := if fr.1 == fr.2 then (c.size, c.size + 1) else (min fr.1 c.size, max fr.2 (c.size + 1))
  have hfz : Frz c fr' := by
    unfold Frz at hfr ⊢
    simp only [fr']
    split
    · right; exact Nat.le_refl _
    · rename_i q
      rcases hfr with h1 | h1
      · simp [h1] at q
      · right; simp only; omega
  let w' : World := w.freeze { block := l.k, off := c.size } 1
  have hat : w'.heap[l.k]? = some (.cells c ct fr') := by
    simp only [w', World.freeze, Nat.one_ne_zero, if_false, Array.getElem?_modify, if_true, hc0, Option.map_some]
    rfl
  have hne : ∀ k, k ≠ l.k → w'.heap[k]? = w.heap[k]? := fun k hk => by
    simp only [w', World.freeze, Nat.one_ne_zero, if_false, Array.getElem?_modify]
    rw [if_neg (Ne.symm hk)]
  have hsz : w'.heap.size = w.heap.size := by simp [w', World.freeze]
  have up := upd0 (B' := B) (w' := w') R hB hl hro rfl rfl rfl (by rw [hsz]; exact Nat.le_refl _) (fun k _ hk => hne k hk) (fun g0 l0 hl0 => by
    have b0 := blk_esz R hl0 hB
    by_cases q : l0.k = l.k
    · refine ⟨b0.esz, b0.ro, b0.gle, b0.Lle, b0.Leq, b0.sle, b0.pos, b0.len, b0.isc, by rw [hsz]; exact b0.klt, fun x i e' f v h1 h2 h3 => ?_, fun hr => ?_⟩
      · obtain ⟨cv, h4, h5⟩ := b0.cell x i e' f v h1 h2 h3
        rw [q, cell_cells hc0] at h4
        exact ⟨cv, by rw [q, cell_cells hat]; exact h4, h5⟩
      · obtain ⟨c1, t1, f1, k1, k2, k3, k4⟩ := b0.room hr
        rw [q, hc0] at k1
        cases k1
        exact ⟨c, ct, fr', by rw [q]; exact hat, k2, k3, hfz⟩
    · exact b0.keep (.refl β) (hne _ q) (by rw [hsz]; exact Nat.le_refl _))
  rw [set_same hB] at up
  refine ⟨a.eval x, w', β, ?_, by rw [c5]; rw [c5] at rx; exact rx, up.1, up.2⟩
  have hs : w.shape? l.k = some (ct, c.size) := by unfold World.shape?; rw [hc0]
  have e1 : (shape l.k).run P w = .ok (some (ct, c.size)) w := by
    show Result.ok (w.shape? l.k) _ = _
    rw [hs]
  have hm : (markStringish ⟨l.k, l.o + i * l.esz, none⟩).run P w = .ok () w' := by
    simp only [markStringish, Sem.run_bind, e1, Result.andThen]
    rfl
  simp only [execOp, ho, convert, Sem.run_bind, run_underlying ht, run_underlying he, Result.andThen, c5, beq_self_eq_true, hm, Sem.run_pure]
theorem len_out {P : Program} {o : Oper} {c : Call} {x : Operand} {f : Fr} {h : AHeap} {v : AV} (ho : o.op = .call c) (hb : c.callee = .builtin .len) (ha : c.args.toList = [x])
    (H : fLen (lenK ((c.argTypes[0]?).bind P.underlying)) h (evalO f x) = some v) : OpOut P o f h v h := by
  have hargs : ∀ a : Act, c.args.map a.eval = #[a.eval x] := fun a => by
    apply Array.ext'
    rw [Array.toList_map, ha]
    rfl
  refine .pure fun β w a R F => ?_
  have rx := eval_rv F x
  simp only [bcall_run ho hb, hargs]
  cases hd : (c.argTypes[0]?).bind P.underlying with
  | none =>
    rw [hd] at H
    simp [fLen, lenK] at H
  | some d =>
    obtain ⟨t, t0, u0⟩ := ty_of hd
    rw [hd] at H
    have pre : ∀ c' y, (builtin .len c.argTypes o.type c' #[y]).run P w = ((Builtin.len_ c.argTypes o.type #[y]).run P w).andThen fun v w => .ok (.value v) w := fun c' y => by
      simp only [builtin, Sem.run_bind]
      rfl
    simp only [pre]
    unfold fLen at H
    split at H
    · rename_i s hk hx
      cases H
      rw [hx] at rx
      obtain ⟨b, hb, hl⟩ := str_inv rx
      have hlen : s.length = b.size := by rw [← hl]; simp
      have : d = .string := by cases d <;> simp [lenK] at hk <;> rfl
      subst this
      refine ⟨.int .i64 s.length, ?_, .int _ _⟩
      simp only [Builtin.len_, t0, hb, List.getElem?_toArray, List.getElem?_cons_zero, Sem.run_bind, run_underlying u0, Result.andThen, Sem.run_pure, goInt, hlen]
    · rename_i b g i n hk hx
      cases H
      rw [hx] at rx
      obtain ⟨l, ad, cap, _, _, _, _, _, e2⟩ := sl_inv rx
      obtain ⟨e, rfl⟩ : ∃ e, d = .slice e := by cases d <;> simp [lenK] at hk <;> exact ⟨_, rfl⟩
      refine ⟨.int .i64 n, ?_, .int _ _⟩
      simp only [Builtin.len_, t0, e2, List.getElem?_toArray, List.getElem?_cons_zero, Sem.run_bind, run_underlying u0, Result.andThen, Sem.run_pure, goInt]
    · rename_i hk hx
      cases H
      rw [hx] at rx
      obtain ⟨e, rfl⟩ : ∃ e, d = .slice e := by cases d <;> simp [lenK] at hk <;> exact ⟨_, rfl⟩
      refine ⟨.int .i64 0, ?_, .int _ _⟩
      simp only [Builtin.len_, t0, nils_inv rx, List.getElem?_toArray, List.getElem?_cons_zero, Sem.run_bind, run_underlying u0, Result.andThen, Sem.run_pure, goInt]
      rfl
    · rename_i hk hx
      cases H
      rw [hx] at rx
      have e2 : a.eval x = .map none := by
        generalize a.eval x = q at rx
        cases rx
        rfl
      obtain ⟨k, e, rfl⟩ : ∃ k e, d = .map k e := by cases d <;> simp [lenK] at hk <;> exact ⟨_, _, rfl⟩
      refine ⟨.int .i64 0, ?_, .int _ _⟩
      simp only [Builtin.len_, t0, e2, List.getElem?_toArray, List.getElem?_cons_zero, Sem.run_bind, run_underlying u0, Result.andThen, Sem.run_pure, goInt]
    · rename_i r hk hx
      split at H
      rotate_left
      · cases H
      rename_i es hes
      cases H
      rw [hx] at rx
      obtain ⟨k, hkk, e2⟩ : ∃ k, β.mp r = some k ∧ a.eval x = .map (some k) := by
        generalize a.eval x = q at rx
        cases rx with
        | map _ k h => exact ⟨k, h, rfl⟩
      obtain ⟨es2, h1, ents, clock, h2, h3, _⟩ := R.mp r k hkk
      rw [hes] at h1
      cases h1
      obtain ⟨k', e, rfl⟩ : ∃ k e, d = .map k e := by cases d <;> simp [lenK] at hk <;> exact ⟨_, _, rfl⟩
      refine ⟨.int .i64 es.length, ?_, .int _ _⟩
      have hg : (getObj k).run P w = .ok (.map ents clock) w := by simp [getObj, Sem.run, h2]
      simp only [Builtin.len_, t0, e2, List.getElem?_toArray, List.getElem?_cons_zero, Sem.run_bind, run_underlying u0, Result.andThen, Sem.run_pure, goInt, hg, h3]
    · cases H
end Go.AM
/- Maps; the least and the greatest. -/
namespace Go.AM
open Go Go.RowKit
set_option linter.unusedVariables false
set_option linter.unusedSimpArgs false

/-- A block, beside a map that changes. -/
theorem BRel.besides {β β' : Emb} {B : Blk} {g : Nat} {l : Loc} {w w' : World} {k : Nat} {ents : Array MapEntry} {clock : Nat} {o : Obj} (b : BRel β B g l w) (e : Ext β β') (hm : w.heap[k]? = some (.map ents clock))
    (ho : ∀ j, j ≠ k → w'.heap[j]? = w.heap[j]?) (hs : w.heap.size ≤ w'.heap.size) : BRel β' B g l w' := by
  by_cases q : l.k = k
  · have hno : ∀ o, w.cell? ⟨l.k, o, none⟩ = none := fun o => by simp [World.cell?, q, hm]
    refine ⟨b.esz, b.ro, b.gle, b.Lle, b.Leq, b.sle, b.pos, b.len, b.isc, Nat.lt_of_lt_of_le b.klt hs, fun x i e' f v h1 h2 h3 => ?_, fun h => ?_⟩
    · obtain ⟨cv, h4, h5⟩ := b.cell x i e' f v h1 h2 h3
      rw [hno] at h4
      cases h4
    · obtain ⟨c, t, fr, h1, h2⟩ := b.room h
      rw [q, hm] at h1
      cases h1
  · exact b.keep e (ho _ q) hs
theorem map_inv {β : Emb} {r : Nat} {c : Value} (h : RV β (.map r) c) : ∃ k, β.mp r = some k ∧ c = .map (some k) := by
  cases h with
  | map _ k h => exact ⟨k, h, rfl⟩
theorem makeMap_out {P : Program} {o : Oper} {t : TypeId} {f : Fr} {h : AHeap} (ho : o.op = .makeMap t none) : OpOut P o f h (fMakeMap h).1 (fMakeMap h).2 := by
  refine .val fun β w a R F => ?_
  have hfr : β.mp h.n = none := by
    cases e : β.mp h.n with
    | none => rfl
    | some k => exact absurd (R.mdom _ _ e) (Nat.lt_irrefl _)
  let β' : Emb := ⟨β.bl, fun r => if r = h.n then some w.heap.size else β.mp r⟩
  have E : Ext β β' := ⟨fun _ _ _ x => x, fun r k x => by
    simp only [β']
    rw [if_neg (by rintro rfl; rw [hfr] at x; cases x)]
    exact x⟩
  have inv : ∀ r k, β'.mp r = some k → (r = h.n ∧ k = w.heap.size) ∨ (r ≠ h.n ∧ β.mp r = some k) := fun r k x => by
    simp only [β'] at x
    split at x
    · rename_i e; cases x; exact .inl ⟨e, rfl⟩
    · rename_i e; exact .inr ⟨e, x⟩
  have hw : ∀ k, k < w.heap.size → (w.alloc (.map #[] 0)).heap[k]? = w.heap[k]? := fun k hk => heap_alloc_old w _ k hk
  have hsz : (w.alloc (.map #[] 0)).heap.size = w.heap.size + 1 := by simp
  refine ⟨.map (some w.heap.size), w.alloc (.map #[] 0), β', ?_, .map h.n _ (by simp [β']), ⟨fun b g l hl => Nat.lt_succ_of_lt (R.dom b g l hl), fun r k hr => ?_, fun b g l hl => ?_, R.inj, R.off, fun r k hr => ?_, fun r r' k h1 h2 => ?_⟩,
    ⟨E, ⟨rfl, rfl, rfl, by omega, fun k hk _ _ => hw k hk⟩, Nat.le_succ _, fun _ _ _ x => .inl x, fun b g l x => .inl ⟨g, l, x⟩, fun r k hr => ?_⟩⟩
  · simp only [execOp, ho, Instr.makeMap, Option.map_none, Sem.run_bind, Sem.run_pure, Result.andThen]
    rfl
  · rcases inv r k hr with ⟨rfl, _⟩ | ⟨_, h1⟩
    · exact Nat.lt_succ_self _
    · exact Nat.lt_succ_of_lt (R.mdom r k h1)
  · obtain ⟨B, hB, b1⟩ := R.blk b g l hl
    have := R.dom _ _ _ hl
    exact ⟨B, by simp only [fMakeMap, AHeap.push]; rw [if_neg (by omega)]; exact hB, b1.keep E (hw _ b1.klt) (by omega)⟩
  · rcases inv r k hr with ⟨rfl, rfl⟩ | ⟨h0, h1⟩
    · exact ⟨[], by simp [fMakeMap, AHeap.push], #[], 0, heap_alloc_new w _, rfl, fun i key v hi => by simp at hi⟩
    · obtain ⟨es, h2, ents, clock, h3, h4, h5⟩ := R.mp r k h1
      have hk : k < w.heap.size := (Array.getElem?_eq_some_iff.1 h3).1
      refine ⟨es, by simp only [fMakeMap, AHeap.push]; rw [if_neg h0]; exact h2, ents, clock, (hw k hk).trans h3, h4, fun i key v hi => ?_⟩
      obtain ⟨e, q1, q2, q3, q4⟩ := h5 i key v hi
      exact ⟨e, q1, q2, q3.mono E, q4.mono E⟩
  · have lt : ∀ r k, β.mp r = some k → k < w.heap.size := fun r k h1 => by
      obtain ⟨es, h2, ents, clock, h3, _⟩ := R.mp r k h1
      exact (Array.getElem?_eq_some_iff.1 h3).1
    rcases inv r k h1 with ⟨rfl, rfl⟩ | ⟨h0, h1⟩ <;> rcases inv r' _ h2 with ⟨rfl, h3⟩ | ⟨h3, h4⟩
    · rfl
    · have := lt _ _ h4; omega
    · have := lt _ _ h1; omega
    · exact R.minj _ _ _ h1 h4
  · rcases inv r k hr with ⟨rfl, rfl⟩ | ⟨_, h1⟩
    · exact .inr ⟨Nat.le_refl _, Nat.le_refl _, Nat.lt_succ_self _⟩
    · exact .inl h1
/-- The map's entries, in the world. -/
def EntR (β : Emb) (es : List (AV × AV)) (ents : List MapEntry) : Prop := ents.length = es.length ∧ ∀ (i : Nat) (key v : AV), es[i]? = some (key, v) → ∃ e, ents[i]? = some e ∧ isKey key = true ∧ RV β key e.key ∧ RV β v e.val
theorem sameBits_int (n : Nat) (k : IntKind) (a : Int) : Instr.sameBits n (.int k a) (.int k a) = true := by cases n <;> simp [Instr.sameBits]
theorem sameBits_str (n : Nat) (a b : ByteArray) : Instr.sameBits n (.string a) (.string b) = (a == b) := by cases n <;> simp [Instr.sameBits]
theorem same_now {β : Emb} {ks : Bool} {d : TypeDesc} (hd : (ks = false ∧ ∃ k, d = .int k) ∨ (ks = true ∧ d = .string)) {a b : AV} {x y : Value} (ha : RV β a x) (hb : RV β b y) (hk : keyAt ks a = true) {r : Bool} (h : sameCell a b = some r) :
    Instr.sameNow d x y = some r ∧ (r = true → Instr.sameBits 10000 y x = true) := by
  unfold sameCell at h
  split at h
  · split at h
    · rename_i k a k' b e
      cases h
      have hx := int_inv ha
      have hy := int_inv hb
      subst hx; subst hy; subst e
      rcases hd with ⟨rfl, k2, rfl⟩ | ⟨rfl, rfl⟩
      · refine ⟨by simp [Instr.sameNow], fun h => ?_⟩
        simp only [beq_iff_eq] at h
        subst h
        exact sameBits_int _ _ _
      · cases hk
    · cases h
  · rcases hd with ⟨rfl, _⟩ | ⟨rfl, _⟩ <;> cases hk
  · cases h
    obtain ⟨p, rfl, hp⟩ := str_inv ha
    obtain ⟨q, rfl, hq⟩ := str_inv hb
    have hpq : ∀ p q : ByteArray, (p == q) = (p.data.toList.map (fun b => (b.toNat : Int)) == q.data.toList.map (fun b => (b.toNat : Int))) := fun p q => by
      have hb : (p == q) = (p.data == q.data) := by cases p; cases q; rfl
      rw [hb, Bool.eq_iff_iff, beq_iff_eq, beq_iff_eq]
      constructor
      · intro h; rw [h]
      · intro h; exact Array.toList_inj.1 (map_toNat_inj _ _ h)
    rcases hd with ⟨rfl, _⟩ | ⟨rfl, rfl⟩
    · cases hk
    · refine ⟨by simp only [Instr.sameNow, hpq, hp, hq], fun h => ?_⟩
      rw [sameBits_str, hpq, hp, hq]
      rw [beq_iff_eq] at h ⊢
      exact h.symm
  · cases h
/-- The first entry that's alike. -/
theorem find_run {β : Emb} {ks : Bool} {d : TypeDesc} (hd : (ks = false ∧ ∃ k, d = .int k) ∨ (ks = true ∧ d = .string)) {key : AV} {x : Value} (hx : RV β key x) (hk : keyAt ks key = true) :
    ∀ (es : List (AV × AV)) (ents : List MapEntry) (n : Nat), EntR β es ents → sameKinds key es = true →
    ∃ r, Instr.findNow d x ents n = some r ∧ ((r = none ∧ findE key es = none ∧ ∀ v, setE key v es = es ++ [(key, v)]) ∨
      ∃ i e u, r = some (n + i, e.val) ∧ ents[i]? = some e ∧ i < es.length ∧ Instr.sameBits 10000 e.key x = true ∧ findE key es = some u ∧ RV β u e.val ∧ ∀ v, setE key v es = es.set i (key, v))
  | [], [], n, h, hs => ⟨none, rfl, .inl ⟨rfl, rfl, fun _ => rfl⟩⟩
  | [], _ :: _, n, h, hs => by have := h.1; simp at this
  | _ :: _, [], n, h, hs => by have := h.1; simp at this
  | (a, b) :: es, e :: ents, n, h, hs => by
    obtain ⟨e', h1, _, h2, h3⟩ := h.2 0 a b rfl
    cases h1
    simp only [sameKinds, List.all_cons, Bool.and_eq_true] at hs
    obtain ⟨r, hr⟩ := Option.isSome_iff_exists.1 hs.1
    obtain ⟨q1, q2⟩ := same_now hd hx h2 hk hr
    cases r with
    | true =>
      refine ⟨some (n, e.val), by simp only [Instr.findNow, q1], .inr ⟨0, e, b, rfl, rfl, by simp, q2 rfl, by simp only [findE, hr], h3, fun v => by simp only [setE, hr]; rfl⟩⟩
    | false =>
      obtain ⟨r, k1, k2⟩ := find_run hd hx hk es ents (n + 1) ⟨by simpa using h.1, fun i key v hi => by simpa using h.2 (i + 1) key v (by simpa using hi)⟩ hs.2
      refine ⟨r, by simp only [Instr.findNow, q1, k1], ?_⟩
      rcases k2 with ⟨rfl, k3, k4⟩ | ⟨i, e2, u, rfl, k3, k4, k5, k6, k7, k8⟩
      · exact .inl ⟨rfl, by simp only [findE, hr, k3], fun v => by simp only [setE, hr, k4]; rfl⟩
      · exact .inr ⟨i + 1, e2, u, by congr 2; omega, by simpa using k3, by simp; omega, k5, by simp only [findE, hr, k6], k7, fun v => by simp only [setE, hr, k8]; rfl⟩
theorem keyK_inv {P : Program} {t : TypeId} {ks : Bool} (h : keyK P t = some ks) : ∃ d, P.underlying t = some d ∧ ((ks = false ∧ ∃ k, d = .int k) ∨ (ks = true ∧ d = .string)) := by
  unfold keyK at h
  split at h
  · rename_i k e; cases h; exact ⟨_, e, .inl ⟨rfl, k, rfl⟩⟩
  · rename_i e; cases h; exact ⟨_, e, .inr ⟨rfl, rfl⟩⟩
  · cases h
theorem checkKey_run {P : Program} {t : TypeId} {d : TypeDesc} {ks b : Bool} (hd : P.underlying t = some d) (h : (ks = false ∧ ∃ k, d = .int k) ∨ (ks = true ∧ d = .string)) (x : Value) (w : World) :
    (Instr.checkKey b 10000 t x).run P w = .ok () w := by
  have key : ∀ n, (Instr.checkKey b (n + 1) t x).run P w = .ok () w := fun n => by
    rcases h with ⟨_, k, rfl⟩ | ⟨_, rfl⟩ <;> simp only [Instr.checkKey, Sem.run_bind, run_underlying hd, Result.andThen] <;> rfl
  exact key 9999
theorem keyAt_isKey {ks : Bool} {a : AV} (h : keyAt ks a = true) : isKey a = true ∧ a.isCell = true := by
  unfold keyAt at h
  split at h <;> first | exact ⟨rfl, rfl⟩ | cases h
theorem mapUpdate_out {P : Program} {o : Oper} {t kt et : TypeId} {m x y : Operand} {ks : Bool} {f : Fr} {h h' : AHeap} (ho : o.op = .mapUpdate t m x y) (hu : P.underlying t = some (.map kt et)) (hk : keyK P kt = some ks)
    (H : fMapUpdate ks h (evalO f m) (evalO f x) (evalO f y) = some h') : OpOut P o f h (.tup []) h' := by
  obtain ⟨d, hd, hdd⟩ := keyK_inv hk
  unfold fMapUpdate at H
  split at H
  rotate_left
  · cases H
  rename_i r hm
  split at H
  rotate_left
  · cases H
  rename_i es hes
  split at H
  rotate_left
  · cases H
  rename_i hc
  obtain ⟨c1, c2, c3⟩ := hc
  cases H
  refine .skip fun β w a R F => ?_
  have rm := eval_rv F m
  rw [hm] at rm
  obtain ⟨k, hk, e1⟩ := map_inv rm
  obtain ⟨es2, q1, ents, clock, q2, q3, q4⟩ := R.mp r k hk
  rw [hes] at q1
  cases q1
  have rx := eval_rv F x
  have ry := eval_rv F y
  have hklt : k < w.heap.size := (Array.getElem?_eq_some_iff.1 q2).1
  obtain ⟨res, f1, f2⟩ := find_run hdd rx c1 es ents.toList 0 ⟨by simpa using q3, fun i key v hi => by simpa using q4 i key v hi⟩ c3
  have hg : (getObj k).run P w = .ok (.map ents clock) w := by simp [getObj, Sem.run, q2]
  have hset : ∀ o, (setObj k o).run P w = .ok () { w with heap := w.heap.setIfInBounds k o } := fun o => by
    show (match w.heap[k]? with | some (.cells ..) => _ | some _ => _ | none => _) = _
    rw [q2]
    rfl
  -- the end of both ways
  have fin : ∀ (ents' : Array MapEntry) (clock' : Nat), EntR β (setE (evalO f x) (evalO f y) es) ents'.toList → (Instr.mapUpdate t (a.eval m) (a.eval x) (a.eval y)).run P w = .ok () { w with heap := w.heap.setIfInBounds k (.map ents' clock') } →
      ∃ w' β', (execOp a.eval o).run P w = .ok .skip w' ∧ Rel β' (h.set r (.mp (setE (evalO f x) (evalO f y) es))) w' ∧ Post β β' h (h.set r (.mp (setE (evalO f x) (evalO f y) es))) w w' := by
    intro ents' clock' hent run
    have hne : ∀ j, j ≠ k → ({ w with heap := w.heap.setIfInBounds k (.map ents' clock') } : World).heap[j]? = w.heap[j]? := fun j hj => by
      simp only
      rw [Array.getElem?_setIfInBounds_ne (Ne.symm hj)]
    refine ⟨{ w with heap := w.heap.setIfInBounds k (.map ents' clock') }, β, ?_, ⟨R.dom, R.mdom, fun b g l hl => ?_, R.inj, R.off, fun r' k' hr' => ?_, R.minj⟩, ⟨.refl β, ⟨rfl, rfl, rfl, by simp, fun j hj _ hmm => hne j (fun e => hmm r (by rw [e]; exact hk))⟩, Nat.le_refl _, fun _ _ _ x => .inl x, fun b g l x => .inl ⟨g, l, x⟩, fun _ _ x => .inl x⟩⟩
    · simp only [execOp, ho, Sem.run_bind, run, Result.andThen, Sem.run_pure]
    · obtain ⟨B, hB, b1⟩ := R.blk b g l hl
      exact ⟨B, (set_ne _ _ (by rintro rfl; rw [hes] at hB; cases hB)).trans hB, b1.besides (o := .map ents' clock') (.refl β) q2 hne (by simp)⟩
    · by_cases e : r' = r
      · subst e
        rw [hk] at hr'
        cases hr'
        exact ⟨_, set_at .., ents', clock', by simp [hklt], by simpa using hent.1, fun i key v hi => by simpa using hent.2 i key v hi⟩
      · obtain ⟨es3, s1, ents3, clock3, s2, s3, s4⟩ := R.mp r' k' hr'
        exact ⟨es3, (set_ne _ _ e).trans s1, ents3, clock3, (hne _ (fun e2 => e (R.minj _ _ _ hr' (by rw [e2]; exact hk)))).trans s2, s3, s4⟩
  have hky := keyAt_isKey c1
  rcases f2 with ⟨rfl, _, g2⟩ | ⟨i, e, u, rfl, g1, g2, g3, _, _, g5⟩
  · refine fin (ents.push { key := a.eval x, val := a.eval y, born := clock }) (clock + 1) ⟨by rw [g2]; simp [q3], fun i key v hi => ?_⟩ ?_
    · rw [g2] at hi
      by_cases hlt : i < es.length
      · rw [List.getElem?_append_left hlt] at hi
        obtain ⟨e, s1, s2⟩ := q4 i key v hi
        refine ⟨e, ?_, s2⟩
        rw [Array.getElem?_toList, Array.getElem?_push_lt (by omega)]
        rw [← s1]
        exact (Array.getElem?_eq_getElem (by omega)).symm
      · rw [List.getElem?_append_right (by omega)] at hi
        obtain ⟨hi0, hkv⟩ : i = es.length ∧ (evalO f x, evalO f y) = (key, v) := by
          have := (List.getElem?_eq_some_iff.1 hi).1
          simp at this
          have h0 : i - es.length = 0 := by omega
          rw [h0] at hi
          simp at hi
          exact ⟨by omega, by rw [hi.1, hi.2]⟩
        cases hkv
        subst hi0
        refine ⟨{ key := a.eval x, val := a.eval y, born := clock }, ?_, hky.1, rx, ry⟩
        rw [← q3]
        simp
    · simp only [Instr.mapUpdate, Sem.run_bind, run_underlying hu, Result.andThen, e1, hg, checkKey_run hd hdd, Instr.findKey, run_underlying hd, f1, Sem.run_pure]
      exact hset _
  · have hei : ents[i]? = some e := by simpa using g1
    have hil : i < ents.size := (Array.getElem?_eq_some_iff.1 hei).1
    refine fin (ents.modify i fun e => { e with key := a.eval x, val := a.eval y }) clock ⟨by rw [g5]; simp [q3], fun j key v hj => ?_⟩ ?_
    · rw [g5] at hj
      rw [Array.getElem?_toList, Array.getElem?_modify]
      by_cases e2 : i = j
      · subst e2
        rw [List.getElem?_set_self g2] at hj
        cases hj
        rw [if_pos rfl, hei]
        exact ⟨_, rfl, hky.1, rx, ry⟩
      · rw [List.getElem?_set_ne e2] at hj
        rw [if_neg e2]
        exact q4 j key v hj
    · have hstay : (Instr.keyThatStays e.key (a.eval x)).run P w = .ok (a.eval x) w := by
        unfold Instr.keyThatStays
        rw [if_pos g3]
        rfl
      simp only [Instr.mapUpdate, Sem.run_bind, run_underlying hu, Result.andThen, e1, hg, checkKey_run hd hdd, Instr.findKey, run_underlying hd, f1, Sem.run_pure, Nat.zero_add, hei, Option.map_some, Option.getD_some, hstay]
      exact hset _
theorem lookup_out {P : Program} {o : Oper} {t kt et : TypeId} {m x : Operand} {ks ok : Bool} {f : Fr} {h : AHeap} {i : TI} {v : AV} (ho : o.op = .lookup t m x ok) (hu : P.underlying t = some (.map kt et)) (hk : keyK P kt = some ks)
    (ht : tinfo P et = some i) (H : fLookup ks ok i.zv h (evalO f m) (evalO f x) = some v) : OpOut P o f h v h := by
  obtain ⟨d, hd, hdd⟩ := keyK_inv hk
  unfold fLookup at H
  split at H
  rotate_left
  · cases H
  rename_i r hm
  split at H
  rotate_left
  · cases H
  rename_i es hes
  split at H
  rotate_left
  · cases H
  rename_i hc
  obtain ⟨c1, c3⟩ := hc
  refine .pure fun β w a R F => ?_
  have rm := eval_rv F m
  rw [hm] at rm
  obtain ⟨k, hk, e1⟩ := map_inv rm
  obtain ⟨es2, q1, ents, clock, q2, q3, q4⟩ := R.mp r k hk
  rw [hes] at q1
  cases q1
  have rx := eval_rv F x
  obtain ⟨d', inf, zv, h1, h2, h3, rfl⟩ := tinfo_some ht
  have zr : RV β (ofValue zv) zv := ofValue_rv β zv
  obtain ⟨res, f1, f2⟩ := find_run hdd rx c1 es ents.toList 0 ⟨by simpa using q3, fun i key v hi => by simpa using q4 i key v hi⟩ c3
  have hg : (getObj k).run P w = .ok (.map ents clock) w := by simp [getObj, Sem.run, q2]
  rcases f2 with ⟨rfl, g1, _⟩ | ⟨j, e, u, rfl, _, _, _, g1, g2, _⟩
  · rw [g1] at H
    cases ok with
    | true =>
      cases H
      refine ⟨.tuple #[zv, .bool false], ?_, .tup _ _ rfl fun j a v ha hv => ?_⟩
      · simp only [execOp, ho, Instr.lookup, Sem.run_bind, run_underlying hu, Result.andThen, e1, hg, Sem.run_pure, checkKey_run hd hdd, Instr.findKey, run_underlying hd, f1, run_zeroValue h2 h3, if_true]
      · match j with
        | 0 => simp at ha hv; subst ha; subst hv; exact zr
        | 1 => simp at ha hv; subst ha; subst hv; exact .bool _
        | j + 2 => simp at ha
    | false =>
      cases H
      refine ⟨zv, ?_, zr⟩
      simp only [execOp, ho, Instr.lookup, Sem.run_bind, run_underlying hu, Result.andThen, e1, hg, Sem.run_pure, checkKey_run hd hdd, Instr.findKey, run_underlying hd, f1, run_zeroValue h2 h3, Bool.false_eq_true, if_false]
  · rw [g1] at H
    cases ok with
    | true =>
      cases H
      refine ⟨.tuple #[e.val, .bool true], ?_, .tup _ _ rfl fun j a v ha hv => ?_⟩
      · simp only [execOp, ho, Instr.lookup, Sem.run_bind, run_underlying hu, Result.andThen, e1, hg, Sem.run_pure, checkKey_run hd hdd, Instr.findKey, run_underlying hd, f1, if_true]
      · match j with
        | 0 => simp at ha hv; subst ha; subst hv; exact g2
        | 1 => simp at ha hv; subst ha; subst hv; exact .bool _
        | j + 2 => simp at ha
    | false =>
      cases H
      refine ⟨e.val, ?_, g2⟩
      simp only [execOp, ho, Instr.lookup, Sem.run_bind, run_underlying hu, Result.andThen, e1, hg, Sem.run_pure, checkKey_run hd hdd, Instr.findKey, run_underlying hd, f1, Bool.false_eq_true, if_false]
end Go.AM
/- Each operation, at once. -/
namespace Go.AM
open Go Go.RowKit
set_option linter.unusedVariables false
set_option linter.unusedSimpArgs false

theorem fold_run {P : Program} {β : Emb} {f : Fr} {a : Act} (F : RVs β f a.tmps) {g : AV → AV → Option AV} {m2 : Value → Value → Sem Value}
    (hg : ∀ x y z cx cy w, g x y = some z → RV β x cx → RV β y cy → ∃ cz, (m2 cx cy).run P w = .ok cz w ∧ RV β z cz) (w : World) : ∀ (ys : List Operand) (x z : AV) (cx : Value), RV β x cx → fold2 g x (ys.map (evalO f)) = some z →
    ∃ cz, ((ys.map a.eval).foldlM m2 cx).run P w = .ok cz w ∧ RV β z cz
  | [], x, z, cx, hx, H => by
    cases H
    exact ⟨cx, rfl, hx⟩
  | y :: ys, x, z, cx, hx, H => by
    simp only [List.map_cons, fold2] at H
    split at H
    · rename_i u hu
      obtain ⟨cu, h1, h2⟩ := hg _ _ _ _ _ w hu hx (eval_rv F y)
      obtain ⟨cz, h3, h4⟩ := fold_run F hg w ys u z cu h2 H
      exact ⟨cz, by simp only [List.map_cons, List.foldlM_cons, Sem.run_bind, h1, Result.andThen, h3], h4⟩
    · cases H
theorem min_out {P : Program} {o : Oper} {c : Call} {x : Operand} {r : List Operand} {f : Fr} {h : AHeap} {v : AV} (ho : o.op = .call c) (hb : c.callee = .builtin .min) (ha : c.args.toList = x :: r)
    (H : fold2 min2 (evalO f x) (r.map (evalO f)) = some v) : OpOut P o f h v h := by
  refine .pure fun β w a R F => ?_
  obtain ⟨cz, h1, h2⟩ := fold_run (P := P) F (g := min2) (m2 := Builtin.min2) (fun x y z cx cy w h hx hy => by
    unfold min2 at h
    split at h
    · cases h
      rw [int_inv hx, int_inv hy]
      exact ⟨_, rfl, .int _ _⟩
    · cases h) w r _ v _ (eval_rv F x) H
  refine ⟨cz, ?_, h2⟩
  rw [bcall_run ho hb]
  have : (c.args.map a.eval).toList = a.eval x :: r.map a.eval := by rw [Array.toList_map, ha]; rfl
  simp only [builtin, Builtin.min_, this, Sem.run_bind, h1, Result.andThen]
  rfl
theorem max_out {P : Program} {o : Oper} {c : Call} {x : Operand} {r : List Operand} {f : Fr} {h : AHeap} {v : AV} (ho : o.op = .call c) (hb : c.callee = .builtin .max) (ha : c.args.toList = x :: r)
    (H : fold2 max2 (evalO f x) (r.map (evalO f)) = some v) : OpOut P o f h v h := by
  refine .pure fun β w a R F => ?_
  obtain ⟨cz, h1, h2⟩ := fold_run (P := P) F (g := max2) (m2 := Builtin.max2) (fun x y z cx cy w h hx hy => by
    unfold max2 at h
    split at h
    · cases h
      rw [int_inv hx, int_inv hy]
      exact ⟨_, rfl, .int _ _⟩
    · cases h) w r _ v _ (eval_rv F x) H
  refine ⟨cz, ?_, h2⟩
  rw [bcall_run ho hb]
  have : (c.args.map a.eval).toList = a.eval x :: r.map a.eval := by rw [Array.toList_map, ha]; rfl
  simp only [builtin, Builtin.max_, this, Sem.run_bind, h1, Result.andThen]
  rfl
theorem at_inv {h : AHeap} {o : Option AV} {p : AV × AHeap} (H : at_ h o = some p) : o = some p.1 ∧ p.2 = h := by
  unfold at_ at H
  obtain ⟨v, hv, rfl⟩ := Option.map_eq_some_iff.1 H
  exact ⟨hv, rfl⟩
theorem map_two {f : Fr} {c : Call} {a b : AV} (h : c.args.toList.map (evalO f) = [a, b]) : ∃ x y, c.args.toList = [x, y] ∧ a = evalO f x ∧ b = evalO f y := by
  generalize c.args.toList = l at h
  match l, h with
  | [x, y], h => simp at h; exact ⟨x, y, rfl, h.1.symm, h.2.symm⟩
theorem map_one {f : Fr} {c : Call} {a : AV} (h : c.args.toList.map (evalO f) = [a]) : ∃ x, c.args.toList = [x] ∧ a = evalO f x := by
  generalize c.args.toList = l at h
  match l, h with
  | [x], h => simp at h; exact ⟨x, rfl, h.symm⟩
theorem map_cons' {f : Fr} {c : Call} {a : AV} {r : List AV} (h : c.args.toList.map (evalO f) = a :: r) : ∃ x s, c.args.toList = x :: s ∧ a = evalO f x ∧ r = s.map (evalO f) := by
  generalize c.args.toList = l at h
  match l, h with
  | x :: s, h => simp at h; exact ⟨x, s, rfl, h.1.symm, h.2.symm⟩
theorem blt_out {P : Program} {o : Oper} {c : Call} {b : Builtin} {f : Fr} {h : AHeap} {p : AV × AHeap} (ho : o.op = .call c) (hb : c.callee = .builtin b) (H : bltF P h b c.argTypes (c.args.toList.map (evalO f)) = some p) : OpOut P o f h p.1 p.2 := by
  unfold bltF at H
  split at H
  · rename_i x hx
    obtain ⟨x', h1, rfl⟩ := map_one hx
    obtain ⟨h2, h3⟩ := at_inv H
    rw [h3]
    exact len_out ho hb h1 h2
  · rename_i s x hx
    obtain ⟨x', y', h1, rfl, rfl⟩ := map_two hx
    split at H
    · rename_i e e' h0 h2
      split at H
      · rename_i i ht
        split at H
        · rename_i hc
          exact append_out ho hb h1 h0 h2 (.inl ⟨_, rfl⟩) ht hc.1 hc.2.1 hc.2.2.1 hc.2.2.2 H
        · cases H
      · cases H
    · rename_i e h0 h2
      split at H
      · rename_i i ht
        split at H
        · rename_i hc
          exact append_out ho hb h1 h0 h2 (.inr rfl) ht hc.1 hc.2.1 hc.2.2.1 hc.2.2.2 H
        · cases H
      · cases H
    · cases H
  · rename_i d x hx
    obtain ⟨x', y', h1, rfl, rfl⟩ := map_two hx
    split at H
    · rename_i e h0
      split at H
      · rename_i i ht
        split at H
        · rename_i hc
          exact copy_out ho hb h1 h0 ht hc H
        · cases H
      · cases H
    · cases H
  · rename_i x r hx
    obtain ⟨x', s, h1, rfl, rfl⟩ := map_cons' hx
    obtain ⟨h2, h3⟩ := at_inv H
    rw [h3]
    exact min_out ho hb h1 h2
  · rename_i x r hx
    obtain ⟨x', s, h1, rfl, rfl⟩ := map_cons' hx
    obtain ⟨h2, h3⟩ := at_inv H
    rw [h3]
    exact max_out ho hb h1 h2
  · cases H
end Go.AM
/- Each operation that isn't a call, at once. -/
namespace Go.AM
open Go Go.RowKit
set_option linter.unusedVariables false
set_option linter.unusedSimpArgs false

theorem fillA_length {place : Nat → Option (Nat × Nat)} : ∀ (ps : List (Nat × AV)) (cs r : List AV), fillA place cs ps = some r → r.length = cs.length
  | [], cs, r, H => by cases H; rfl
  | (i, v) :: ps, cs, r, H => by
    unfold fillA at H
    split at H
    · cases H
    · split at H
      · rename_i hc
        rw [fillA_length ps _ r H]
        simp only [List.length_append, List.length_take, List.length_drop]
        omega
      · cases H
theorem zeroOk_ne {z : List AV} (h : zeroOk z = true) : z ≠ [.unk] := by
  rintro rfl
  cases h
theorem notfalse {b : Bool} (h : ¬ b = false) : b = true := by cases b <;> simp_all
theorem aopF_out {P : Program} {o : Oper} {f : Fr} {h : AHeap} {op : Op} {p : AV × AHeap} (ho : o.op = op) (H : aopF P f h op = some p) : OpOut P o f h p.1 p.2 := by
  unfold aopF aopE at H
  split at H
  · cases H; exact move_out (.inl ho)
  · cases H; exact move_out (.inr ho)
  · obtain ⟨h1, h2⟩ := at_inv H
    rw [h2]; exact pick_out ho h1
  · split at H
    · rename_i i ht
      obtain ⟨q, hq, rfl⟩ := Option.map_eq_some_iff.1 H
      exact alloc_out ho ht hq
    · cases H
  · split at H
    · split at H
      · obtain ⟨q, hq, rfl⟩ := Option.map_eq_some_iff.1 H
        exact box_out ho hq
      · cases H
    · cases H
  · split at H
    · rename_i i fs ht hu
      split at H
      · cases H
      rename_i hz
      split at H
      · rename_i places hp
        obtain ⟨h1, h2⟩ := at_inv H
        obtain ⟨q, hq, h3⟩ := Option.map_eq_some_iff.1 h1
        rw [h2, ← h3]
        exact build_struct_out ho ht hu hp hq (zeroOk_ne (notfalse hz))
      · cases H
    · rename_i i n e ht hu
      split at H
      · cases H
      rename_i hz
      split at H
      · rename_i ie hie
        obtain ⟨h1, h2⟩ := at_inv H
        obtain ⟨q, hq, h3⟩ := Option.map_eq_some_iff.1 h1
        rw [h2, ← h3]
        exact build_arr_out ho ht hu hie hq (zeroOk_ne (notfalse hz))
      · cases H
    · cases H
  · split at H
    · rename_i e hu
      split at H
      · rename_i i ht
        split at H
        · rename_i hc
          obtain ⟨cs, hf, h1⟩ := Option.bind_eq_some_iff.1 H
          split at h1
          · rename_i hcs
            cases h1
            refine buildSlice_out ho hu ht ⟨hc.1, hc.2.1, hc.2.2.1, zeroOk_ne hc.2.2.2⟩ hf hcs ?_
            rw [fillA_length _ _ _ hf, flat_length (k := i.sz) _ (fun z hz => by rw [(List.mem_replicate.1 hz).2]; exact hc.2.2.1), List.length_replicate]
          · cases h1
        · cases H
      · cases H
    · cases H
  · split at H
    · rename_i i ht
      split at H
      · obtain ⟨h1, h2⟩ := at_inv H
        rw [h2]; exact load_out ho ht h1
      · cases H
    · cases H
  · split at H
    · rename_i i ht
      split at H
      · obtain ⟨q, hq, rfl⟩ := Option.map_eq_some_iff.1 H
        exact store_out ho ht hq
      · cases H
    · cases H
  · obtain ⟨h1, h2⟩ := at_inv H
    rw [h2]; exact nilCheck_out ho h1
  · obtain ⟨h1, h2⟩ := at_inv H
    rw [h2]; exact bin_out ho h1
  · obtain ⟨h1, h2⟩ := at_inv H
    rw [h2]; exact un_out ho h1
  · split at H
    · rename_i k kd hs ht
      obtain ⟨h1, h2⟩ := at_inv H
      rw [h2]; exact convInt_out ho hs ht h1
    · rename_i hs ht
      split at H
      · rename_i s hx
        cases H
        exact convStr_out ho hs ht hx
      · cases H
    · rename_i e hs ht
      split at H
      · rename_i he
        obtain ⟨h1, h2⟩ := at_inv H
        rw [h2]; exact strOf_out ho hs ht he h1
      · cases H
    · rename_i e hs ht
      split at H
      · rename_i he
        exact bytesOf_out ho hs ht he H
      · cases H
    · rename_i e e' hs ht
      split at H
      · rename_i he
        split at H
        · rename_i q
          subst q
          obtain ⟨h1, h2⟩ := at_inv H
          rw [h2]; exact mark_out ho hs he h1
        · cases H
      · cases H
    · cases H
  · obtain ⟨h1, h2⟩ := at_inv H
    unfold fMakeFunc at h1
    split at h1
    · have e := Option.some.inj h1
      rw [h2, ← e]
      exact makeFunc_out ho
    · cases h1
  · split at H
    · cases H
    · rename_i d hn hd
      cases H; exact makeInterface_out ho hd (fun ms e => hn ms (by rw [e]))
    · cases H
  · split at H
    · cases H; exact makeMap_out ho
    · cases H
  · split at H
    · rename_i e hu
      split at H
      · rename_i i ht
        split at H
        · rename_i hc
          exact makeSlice_out ho hu ht hc H
        · cases H
      · cases H
    · cases H
  · split at H
    · rename_i hu
      split at H
      · rename_i hm
        obtain ⟨h1, h2⟩ := at_inv H
        rw [Option.isNone_iff_eq_none.1 hm] at ho
        rw [h2]; exact slice_str_out ho hu h1
      · cases H
    · rename_i e hu
      split at H
      · rename_i i ht
        obtain ⟨h1, h2⟩ := at_inv H
        rw [h2]; exact slice_out ho hu ht h1
      · cases H
    · rename_i n e hu
      split at H
      · rename_i i ht
        split at H
        · rename_i hm
          obtain ⟨h1, h2⟩ := at_inv H
          rw [Option.isNone_iff_eq_none.1 hm] at ho
          rw [h2]; exact slice_arr_out ho hu ht h1
        · cases H
      · cases H
    · cases H
  · split at H
    · rename_i off i hf
      split at H
      · rename_i hp
        obtain ⟨h1, h2⟩ := at_inv H
        rw [h2]; exact fieldAddr_out ho hf hp h1
      · cases H
    · cases H
  · split at H
    · rename_i off i hf
      obtain ⟨h1, h2⟩ := at_inv H
      rw [h2]; exact field_out ho hf h1
    · cases H
  · split at H
    · rename_i e hu
      split at H
      · rename_i i ht
        obtain ⟨h1, h2⟩ := at_inv H
        rw [h2]; exact indexAddr_out ho hu ht h1
      · cases H
    · rename_i n e hu
      split at H
      · rename_i i ht
        obtain ⟨h1, h2⟩ := at_inv H
        rw [h2]; exact indexArr_out ho hu ht h1
      · cases H
    · cases H
  · split at H
    · rename_i hu
      obtain ⟨h1, h2⟩ := at_inv H
      rw [h2]; exact index_str_out ho hu h1
    · rename_i n e hu
      split at H
      · rename_i i ht
        obtain ⟨h1, h2⟩ := at_inv H
        rw [h2]; exact index_arr_out ho hu ht h1
      · cases H
    · cases H
  · split at H
    · rename_i kt e hu
      split at H
      · rename_i ie ks ht hk
        obtain ⟨h1, h2⟩ := at_inv H
        rw [h2]; exact lookup_out ho hu hk ht h1
      · cases H
    · cases H
  · split at H
    · rename_i kt e hu
      split at H
      · rename_i ks hk
        obtain ⟨q, hq, rfl⟩ := Option.map_eq_some_iff.1 H
        exact mapUpdate_out ho hu hk hq
      · cases H
    · cases H
  · obtain ⟨h1, h2⟩ := at_inv H
    rw [h2]; exact extract_out ho h1
  · split at H
    · rename_i b hb
      exact blt_out ho hb H
    · cases H
  · cases H
end Go.AM
/- Calls, and what an operation's outcome hangs on. -/
namespace Go.AM
open Go Go.RowKit
set_option linter.unusedVariables false
set_option linter.unusedSimpArgs false

def CallOk (P : Program) (call : FuncId → PT) : Prop := ∀ g args h Q, call g args h Q → ∀ (β : Emb) (w : World) (cargs : Array Value), Rel β h w → RVs β args cargs →
  ∀ (o : Oper) (a : Act) (next : Act → World → Prop) (Q' : Exit → Act → World → Prop),
    (∀ β' v h' w' cv, Q v h' → RV β' v cv → Rel β' h' w' → Post β β' h h' w w' → next (a.put o.dst cv) w') → o.upon P a next Q' ((callFunc g cargs).run P w)
theorem callV_run {P : Program} {o : Oper} {c : Call} {x : Operand} {g : FuncId} {caps : Array Value} (ho : o.op = .call c) (hb : c.callee = .value x) (a : Act) (hx : a.eval x = .func (.func g) #[] caps) (w : World) :
    (execOp a.eval o).run P w = (callFunc g (c.args.map a.eval ++ caps)).run P w := by
  simp [execOp, ho, resolve, hb, hx, Deferred.ofValue, invoke, Sem.run_bind, Result.andThen]
theorem aop_out {P : Program} {call : FuncId → PT} (hc : CallOk P call) {o : Oper} {op : Op} (ho : o.op = op) {f : Fr} {h : AHeap} {k : AV → AHeap → Prop} (H : aop P call f h op k) {β : Emb} {w : World} {a : Act} (R : Rel β h w) (F : RVs β f a.tmps)
    {next : Act → World → Prop} {Q : Exit → Act → World → Prop} (hk : ∀ β' v h' w' cv, k v h' → RV β' v cv → Rel β' h' w' → Post β β' h h' w w' → next (a.put o.dst cv) w') : o.wp P a w next Q := by
  unfold aop at H
  split at H
  · split at H
    rotate_left
    · exact H.elim
    rename_i p hp
    unfold calleeF at hp
    split at hp
    rotate_left
    · cases hp
    rename_i c hv
    split at hp
    rotate_left
    · cases hp
    rename_i x hx
    split at hp
    rotate_left
    · cases hp
    rename_i g caps hg
    cases hp
    have rx := eval_rv F x
    rw [hg] at rx
    obtain ⟨cvs, e1, e2⟩ := fn_inv rx
    unfold Oper.wp
    rw [callV_run ho hx a e1]
    exact hc _ _ _ _ H β w _ R ((evals_rv F c.args).append e2) o a next Q hk
  · unfold bind2 at H
    split at H
    · rename_i p hp
      exact aopF_out ho hp β w a R F next Q (fun β' w' cv h1 h2 h3 => hk β' _ _ w' cv H h1 h2 h3)
    · exact H.elim
/-! ### What it hangs on -/
theorem map_congr {f g : Fr} {xs : List Operand} (h : ∀ x ∈ xs, evalO f x = evalO g x) : xs.map (evalO f) = xs.map (evalO g) := List.map_congr_left h
theorem aopF_congr {P : Program} {f g : Fr} {h : AHeap} {op : Op} (H : ∀ x ∈ op.operands.toList, evalO f x = evalO g x) : aopF P f h op = aopF P g h op := by
  cases op
  case build t ps =>
    have e : ps.toList.map (fun p => (p.1, evalO f p.2)) = ps.toList.map (fun p => (p.1, evalO g p.2)) := List.map_congr_left fun p hp => by rw [H p.2 (by simp only [Op.operands]; exact List.mem_map.2 ⟨p, hp, rfl⟩)]
    simp only [aopF, aopE, e]
  case buildSlice t n ps =>
    have e : ps.toList.map (fun p => (p.1, evalO f p.2)) = ps.toList.map (fun p => (p.1, evalO g p.2)) := List.map_congr_left fun p hp => by rw [H p.2 (by simp only [Op.operands]; exact List.mem_map.2 ⟨p, hp, rfl⟩)]
    simp only [aopF, aopE, e]
  case makeFunc fn first captured =>
    have e : captured.toList.map (evalO f) = captured.toList.map (evalO g) := map_congr fun x hx => H x (by simp only [Op.operands, Array.toList_append]; exact List.mem_append_right _ hx)
    simp only [aopF, aopE, e]
  case call c =>
    have e : c.args.toList.map (evalO f) = c.args.toList.map (evalO g) := map_congr fun x hx => H x (by
      simp only [Op.operands, Call.operands]
      cases c.callee <;> simp only [Array.toList_append] <;> first | exact List.mem_append_right _ hx | exact hx | (simp; simpa using hx))
    simp only [aopF, aopE, e]
  case slice t x lo hi mx =>
    have h1 : evalO f x = evalO g x := H x (by simp [Op.operands])
    have h2 : lo.map (evalO f) = lo.map (evalO g) := by
      cases lo with
      | none => rfl
      | some y => simp only [Option.map_some, Option.some.injEq]; exact H y (by simp [Op.operands])
    have h3 : hi.map (evalO f) = hi.map (evalO g) := by
      cases hi with
      | none => rfl
      | some y => simp only [Option.map_some, Option.some.injEq]; exact H y (by simp [Op.operands])
    have h4 : mx.map (evalO f) = mx.map (evalO g) := by
      cases mx with
      | none => rfl
      | some y => simp only [Option.map_some, Option.some.injEq]; exact H y (by simp [Op.operands])
    simp only [aopF, aopE, h1, h2, h3, h4]
  all_goals
    simp only [Op.operands] at H
    first
      | rfl
      | (have H2 := fun x hx => H x hx
         simp only [aopF, aopE]
         simp only [List.mem_cons, List.not_mem_nil, or_false, forall_eq_or_imp, forall_eq] at H2
         simp only [H2])
theorem calleeF_congr {f g : Fr} {op : Op} (H : ∀ x ∈ op.operands.toList, evalO f x = evalO g x) : calleeF f op = calleeF g op := by
  cases op
  case call c =>
    simp only [calleeF]
    cases hc : c.callee with
    | value x =>
      have e : c.args.toList.map (evalO f) = c.args.toList.map (evalO g) := map_congr fun y hy => H y (by simp only [Op.operands, Call.operands, hc]; simp; exact .inr (by simpa using hy))
      have e2 : evalO f x = evalO g x := H x (by simp [Op.operands, Call.operands, hc])
      simp only [e, e2]
    | invoke r m => rfl
    | builtin b => rfl
  all_goals rfl
theorem aop_congr {P : Program} {call : FuncId → PT} {f g : Fr} {h : AHeap} {op : Op} {k : AV → AHeap → Prop} (H : ∀ x ∈ op.operands.toList, evalO f x = evalO g x) : aop P call f h op k = aop P call g h op k := by
  simp only [aop, calleeF_congr H, aopF_congr H]
theorem soft_heap {P : Program} {f : Fr} {h : AHeap} {op : Op} {v : AV} {h1 : AHeap} (hs : solidOp P op = false) (H : aopF P f h op = some (v, h1)) : h1 = h := by
  cases op
  case convert s t x =>
    simp only [solidOp] at hs
    simp only [aopF, aopE] at H
    split at H <;> first | (rename_i e1 e2; simp [e2] at hs; done) | exact (at_inv H).2 | (cases H; done)
  case call c =>
    simp only [solidOp] at hs
    simp only [aopF, aopE] at H
    split at H
    rotate_left
    · cases H
    rename_i b hb
    rw [hb] at hs
    unfold bltF at H
    split at H
    · exact (at_inv H).2
    · cases hs
    · cases hs
    · exact (at_inv H).2
    · exact (at_inv H).2
    · cases H
  all_goals first
    | (simp only [solidOp, Bool.true_eq_false] at hs; done)
    | (simp only [aopF, aopE] at H
       repeat' split at H
       all_goals first | (cases H; done) | (cases H; rfl) | exact (at_inv H).2)
theorem steady_heap {P : Program} {f : Fr} {h h' : AHeap} {op : Op} {v : AV} (hs : solidOp P op = false) (hy : steadyOp op = true) (H : aopF P f h op = some (v, h)) : aopF P f h' op = some (v, h') := by
  have key : ∀ o : Option AV, at_ h o = some (v, h) → at_ h' o = some (v, h') := fun o e => by
    have := (at_inv e).1
    rw [this]; rfl
  cases op
  case convert s t x =>
    simp only [solidOp] at hs
    simp only [aopF, aopE] at H ⊢
    split at H <;> first | (rename_i e1 e2; simp [e2] at hs; done) | (cases H; done) | exact key _ H | (rename_i e1 e2; simp only [e1, e2]; exact key _ H)
  all_goals first
    | (simp only [solidOp, Bool.true_eq_false] at hs; done)
    | (simp only [steadyOp, Bool.false_eq_true] at hy; done)
    | (simp only [aopF, aopE] at H ⊢
       repeat' split at H
       all_goals first | exact key _ H | (cases H; done) | (cases H; rfl) | (simp_all; done) | (simp only [*]; exact key _ (by assumption)))
end Go.AM
/- Regions whose order is open. -/
namespace Go.AM
open Go Go.RowKit
set_option linter.unusedVariables false
set_option linter.unusedSimpArgs false

/-! ### Masks -/
theorem mask_bit (l : List Edge) (s j : Nat) : (l.foldl (fun s e => if Region.binds .any e then s ||| 2 ^ e.on else s) s).testBit j = true ↔ s.testBit j = true ∨ ∃ e ∈ l, Region.binds .any e = true ∧ e.on = j := by
  induction l generalizing s with
  | nil => simp
  | cons e l ih =>
    rw [List.foldl_cons, ih]
    by_cases hb : Region.binds .any e = true
    · rw [if_pos hb, Nat.testBit_or, Bool.or_eq_true, Nat.testBit_two_pow, decide_eq_true_eq]
      simp only [List.mem_cons, exists_eq_or_imp, hb, true_and]
      constructor
      · rintro ((h | h) | h)
        · exact .inl h
        · exact .inr (.inl h)
        · exact .inr (.inr h)
      · rintro (h | h | h)
        · exact .inl (.inl h)
        · exact .inl (.inr h)
        · exact .inr h
    · rw [if_neg hb]
      simp only [List.mem_cons, exists_eq_or_imp, hb, false_and, false_or, Bool.false_eq_true]
theorem and_eq_iff (m C : Nat) : (m &&& C == m) = true ↔ ∀ j, m.testBit j = true → C.testBit j = true := by
  rw [beq_iff_eq]
  constructor
  · intro h j hj
    rw [← h, Nat.testBit_and, Bool.and_eq_true] at hj
    exact hj.2
  · intro h
    apply Nat.eq_of_testBit_eq
    intro j
    rw [Nat.testBit_and]
    cases hm : m.testBit j
    · rfl
    · rw [h j hm]; rfl
def PredsIn (ops : Array Oper) (D : Nat → Prop) (j : Nat) : Prop := ∀ o, ops[j]? = some o → ∀ e ∈ o.after, Region.binds .any e = true → D e.on
def Down (ops : Array Oper) (D : Nat → Prop) : Prop := ∀ j, D j → PredsIn ops D j
theorem avail_iff {ops : Array Oper} {C i : Nat} : availB ops C i = true ↔ C.testBit i = false ∧ (∃ o, ops[i]? = some o) ∧ PredsIn ops (fun j => C.testBit j = true) i := by
  unfold availB PredsIn
  cases ho : ops[i]? with
  | none => simp
  | some o =>
    simp only [Bool.and_eq_true, Bool.not_eq_true', and_eq_iff, Option.some.injEq, exists_eq', true_and, forall_eq']
    refine and_congr_right fun _ => ?_
    unfold maskOf
    constructor
    · intro h e he hb
      exact h e.on ((mask_bit _ _ _).2 (.inr ⟨e, by simpa using he, hb, rfl⟩))
    · intro h j hj
      rcases (mask_bit _ _ _).1 hj with h1 | ⟨e, he, hb, rfl⟩
      · simp at h1
      · exact h e (by simpa using he) hb
theorem bit_or (C i j : Nat) : (C ||| 2 ^ i).testBit j = true ↔ C.testBit j = true ∨ i = j := by
  rw [Nat.testBit_or, Bool.or_eq_true, Nat.testBit_two_pow, decide_eq_true_eq]
/-! ### What stands ahead of what -/
def bfF (acc : Array Nat) (o : Oper) : Nat := o.after.foldl (fun s e => if Region.binds .any e then s ||| 2 ^ e.on ||| acc.getD e.on 0 else s) 0
theorem bf_bit (acc : Array Nat) (o : Oper) (i : Nat) (h : (bfF acc o).testBit i = true) : ∃ e ∈ o.after, Region.binds .any e = true ∧ (e.on = i ∨ (acc.getD e.on 0).testBit i = true) := by
  unfold bfF at h
  rw [← Array.foldl_toList] at h
  have key : ∀ (l : List Edge) (s : Nat), (l.foldl (fun s e => if Region.binds .any e then s ||| 2 ^ e.on ||| acc.getD e.on 0 else s) s).testBit i = true → s.testBit i = true ∨ ∃ e ∈ l, Region.binds .any e = true ∧ (e.on = i ∨ (acc.getD e.on 0).testBit i = true) := by
    intro l
    induction l with
    | nil => intro s h; exact .inl h
    | cons e l ih =>
      intro s h
      rw [List.foldl_cons] at h
      rcases ih _ h with h1 | ⟨e', he', h1⟩
      · by_cases hb : Region.binds .any e = true
        · rw [if_pos hb, Nat.testBit_or, Nat.testBit_or, Bool.or_eq_true, Bool.or_eq_true, Nat.testBit_two_pow, decide_eq_true_eq] at h1
          rcases h1 with (h1 | h1) | h1
          · exact .inl h1
          · exact .inr ⟨e, List.mem_cons_self, hb, .inl h1⟩
          · exact .inr ⟨e, List.mem_cons_self, hb, .inr h1⟩
        · rw [if_neg hb] at h1
          exact .inl h1
      · exact .inr ⟨e', List.mem_cons_of_mem _ he', h1⟩
  rcases key _ _ h with h1 | ⟨e, he, h1⟩
  · simp at h1
  · exact ⟨e, by simpa using he, h1⟩
theorem bf_spec : ∀ (l : List Oper) (acc : Array Nat), (∀ j, j < acc.size → (l.foldl (fun acc o => acc.push (bfF acc o)) acc)[j]? = acc[j]?) ∧
    (l.foldl (fun acc o => acc.push (bfF acc o)) acc).size = acc.size + l.length ∧
    ∀ k o, l[k]? = some o → ∃ acc' : Array Nat, acc'.size = acc.size + k ∧ (∀ j, j < acc.size + k → acc'[j]? = (l.foldl (fun acc o => acc.push (bfF acc o)) acc)[j]?) ∧
      (l.foldl (fun acc o => acc.push (bfF acc o)) acc)[acc.size + k]? = some (bfF acc' o)
  | [], acc => ⟨fun _ _ => rfl, by simp, fun k o h => by simp at h⟩
  | o :: l, acc => by
    obtain ⟨h1, h2, h3⟩ := bf_spec l (acc.push (bfF acc o))
    simp only [List.foldl_cons]
    have hold : ∀ j, j < acc.size → (l.foldl (fun acc o => acc.push (bfF acc o)) (acc.push (bfF acc o)))[j]? = acc[j]? := fun j hj => by
      rw [h1 j (by simp; omega), Array.getElem?_push_lt hj]
      exact (Array.getElem?_eq_getElem hj).symm
    refine ⟨hold, by rw [h2]; simp; omega, fun k o' hk => ?_⟩
    cases k with
    | zero =>
      simp at hk
      subst hk
      refine ⟨acc, rfl, fun j hj => (hold j (by simpa using hj)).symm, ?_⟩
      rw [h1 _ (by simp)]
      simp
    | succ k =>
      obtain ⟨acc', q1, q2, q3⟩ := h3 k o' (by simpa using hk)
      simp only [Array.size_push] at q1 q2 q3
      exact ⟨acc', by omega, fun j hj => q2 j (by omega), by rw [← q3]; congr 1; omega⟩
theorem ord_closed {ops : Array Oper} {D : Nat → Prop} (hD : Down ops D) (i : Nat) : ∀ j, PredsIn ops D j → ordB (Region.before ops) i j = true → D i := by
  have hb : Region.before ops = ops.toList.foldl (fun acc o => acc.push (bfF acc o)) #[] := by
    unfold Region.before
    rw [← Array.foldl_toList]
    rfl
  obtain ⟨_, h2, h3⟩ := bf_spec ops.toList #[]
  rw [← hb] at h2 h3
  intro j
  induction j using Nat.strongRecOn with
  | ind j ih =>
    intro hp hij
    unfold ordB at hij
    cases ho : ops[j]? with
    | none =>
      have hlt : ops.size ≤ j := Array.getElem?_eq_none_iff.1 ho
      have : (Region.before ops)[j]? = none := Array.getElem?_eq_none_iff.2 (by rw [h2]; simpa using hlt)
      simp [Array.getD_eq_getD_getElem?, this] at hij
    | some o =>
      obtain ⟨acc', q1, q2, q3⟩ := h3 j o (by simpa using ho)
      simp only [List.size_toArray, List.length_nil, Nat.zero_add] at q1 q2 q3
      rw [Array.getD_eq_getD_getElem?, q3, Option.getD_some] at hij
      obtain ⟨e, he, hb, h4⟩ := bf_bit _ _ _ hij
      have hde := hp o ho e he hb
      rcases h4 with rfl | h4
      · exact hde
      · by_cases hlt : e.on < j
        · refine ih e.on hlt (hD _ hde) ?_
          unfold ordB
          rw [Array.getD_eq_getD_getElem?, ← q2 _ (by simpa using hlt), ← Array.getD_eq_getD_getElem?]
          exact h4
        · have : acc'[e.on]? = none := Array.getElem?_eq_none_iff.2 (by omega)
          simp [Array.getD_eq_getD_getElem?, this] at h4
/-! ### What is wanted -/
def wantR (ops : Array Oper) (f : Fr) (o : Oper) (r : Bool) : Prop :=
  match o.guard with
  | none => r = true
  | some (j, want) => match (ops[j]?).bind (·.dst) with
    | some d => (∃ b, f.getD d (.tup []) = .bool b ∧ r = (b == want)) ∨ (f.getD d (.tup []) = .tup [] ∧ r = false)
    | none => r = false
theorem wantedA_inv {ops : Array Oper} {f : Fr} {o : Oper} {yes no : Fr → Prop} (h : wantedA ops f o yes no) : ∃ r, wantR ops f o r ∧ (match r with | true => yes f | false => no f) := by
  unfold wantedA at h
  split at h
  · rename_i hg
    exact ⟨true, by simp only [wantR, hg], h⟩
  · rename_i j want hg
    split at h
    · rename_i d hd
      have hset : ∀ b, f.getD d (.tup []) = .bool b → f.set d (.bool b) = f := fun b hb => by
        rw [List.getD_eq_getElem?_getD] at hb
        cases hx : f[d]? with
        | none => rw [hx] at hb; cases hb
        | some y =>
          rw [hx] at hb
          simp only [Option.getD_some] at hb
          subst hb
          obtain ⟨hlt, he⟩ := List.getElem?_eq_some_iff.1 hx
          rw [← he]
          exact List.set_getElem_self hlt
      split at h
      · rename_i b hb
        refine ⟨b == want, by simp only [wantR, hg, hd]; exact .inl ⟨b, hb, rfl⟩, ?_⟩
        cases b <;> cases want <;> simp only [ifB, hset _ hb] at h <;> simpa using h
      · rename_i hb
        exact ⟨false, by simp only [wantR, hg, hd, hb]; simp, h⟩
      · exact h.elim
    · rename_i hd
      exact ⟨false, by simp only [wantR, hg, hd], h⟩
theorem want_real {ops : Array Oper} {f : Fr} {o : Oper} {r : Bool} {β : Emb} {tmps : Array Value} (hl : f.length = tmps.size) (h : wantR ops f o r)
    (hrv : ∀ j want d, o.guard = some (j, want) → (ops[j]?).bind (·.dst) = some d → ∀ a v, f[d]? = some a → tmps[d]? = some v → RV β a v) : Region.wanted o (yielded ops tmps) = r := by
  unfold wantR at h
  unfold Region.wanted
  split at h
  · rename_i hg; rw [hg]; exact h.symm
  · rename_i j want hg
    rw [hg]
    simp only
    unfold yielded
    split at h
    · rename_i d hd
      rw [hd]
      simp only [Option.bind_some]
      cases hx : f[d]? with
      | none =>
        have hn : tmps[d]? = none := by
          rw [Array.getElem?_eq_none_iff]
          have := List.getElem?_eq_none_iff.1 hx
          omega
        rw [hn]
        rw [List.getD_eq_getElem?_getD, hx] at h
        rcases h with ⟨b, h1, _⟩ | ⟨_, h1⟩
        · cases h1
        · rw [h1]; rfl
      | some y =>
        have hlt : d < tmps.size := by
          obtain ⟨hlt0, _⟩ := List.getElem?_eq_some_iff.1 hx
          rw [← hl]
          exact hlt0
        have rv := hrv j want d hg hd y _ hx (Array.getElem?_eq_getElem hlt)
        rw [Array.getElem?_eq_getElem hlt]
        rw [List.getD_eq_getElem?_getD, hx, Option.getD_some] at h
        rcases h with ⟨b, h1, h2⟩ | ⟨h1, h2⟩
        · rw [h1] at rv
          rw [bool_inv rv, h2]
          cases b <;> cases want <;> rfl
        · rw [h1] at rv
          obtain ⟨cvs, e, _⟩ := tup_inv rv
          rw [e, h2]
          rfl
    · rename_i hd
      rw [hd, h]
      rfl
theorem wantR_congr {ops : Array Oper} {f f' : Fr} {o : Oper} {r : Bool} (h : wantR ops f o r) (hf : ∀ j want d, o.guard = some (j, want) → (ops[j]?).bind (·.dst) = some d → f'[d]? = f[d]?) : wantR ops f' o r := by
  unfold wantR at *
  split
  · rename_i hg; simpa [hg] using h
  · rename_i j want hg
    simp only [hg] at h
    split
    · rename_i d hd
      simp only [hd] at h
      rw [List.getD_eq_getElem?_getD, hf j want d hg hd, ← List.getD_eq_getElem?_getD]
      exact h
    · rename_i hd
      simp only [hd] at h
      exact h
end Go.AM
/- Regions whose order is open: every order comes to the same. -/
namespace Go.AM
open Go Go.RowKit
set_option linter.unusedVariables false
set_option linter.unusedSimpArgs false

def RVx (β : Emb) (X : Nat → Prop) (f : Fr) (tmps : Array Value) : Prop := f.length = tmps.size ∧ ∀ (t : Nat) (a : AV) (v : Value), ¬ X t → f[t]? = some a → tmps[t]? = some v → RV β a v
open Classical in
noncomputable def veil (X : Nat → Prop) (f : Fr) : Fr := f.mapIdx fun t v => if X t then .unk else v
theorem RVx.veil {β : Emb} {X : Nat → Prop} {f : Fr} {tmps : Array Value} (h : RVx β X f tmps) : RVs β (veil X f) tmps := by
  refine ⟨by simp [AM.veil, h.1], fun t a v ha hv => ?_⟩
  simp only [AM.veil, List.getElem?_mapIdx, Option.map_eq_some_iff] at ha
  obtain ⟨b, hb, rfl⟩ := ha
  split
  · exact .unk _
  · rename_i hx; exact h.2 t b v hx hb hv
theorem veil_eval {X : Nat → Prop} {f : Fr} {x : Operand} (h : ∀ t, x = .tmp t → ¬ X t) : evalO f x = evalO (veil X f) x := by
  cases x with
  | tmp t =>
    simp only [evalO, List.getD_eq_getElem?_getD, veil, List.getElem?_mapIdx]
    cases f[t]? with
    | none => rfl
    | some y => simp only [Option.map_some, if_neg (h t rfl)]
  | _ => rfl
theorem set_get {f : Fr} {d t : Nat} {v : AV} : (f.set d v)[t]? = if d = t then (if d < f.length then some v else none) else f[t]? := by
  rw [List.getElem?_set]
theorem put_get {f : Fr} {o : Option Tmp} {t : Nat} {v : AV} (h : o ≠ some t) : (putO f o v)[t]? = f[t]? := by
  unfold putO
  split
  · rename_i d
    rw [set_get, if_neg (fun e => h (by rw [e]))]
  · rfl
theorem put_len {f : Fr} {o : Option Tmp} {v : AV} : (putO f o v).length = f.length := by
  unfold putO
  split <;> simp
theorem eval_eq {f g : Fr} {x : Operand} (h : ∀ t, x = .tmp t → g[t]? = f[t]?) : evalO f x = evalO g x := by
  cases x with
  | tmp t => simp only [evalO, List.getD_eq_getElem?_getD, h t rfl]
  | _ => rfl
theorem reads_op {ops : Array Oper} {o : Oper} {x : Operand} {t : Nat} (hx : x ∈ o.op.operands.toList) (e : x = .tmp t) : t ∈ readsT ops o := by
  subst e
  exact List.mem_append_left _ (List.mem_filterMap.2 ⟨_, hx, rfl⟩)
theorem reads_guard {ops : Array Oper} {o : Oper} {j : Nat} {want : Bool} {d : Nat} (hg : o.guard = some (j, want)) (hd : (ops[j]?).bind (·.dst) = some d) : d ∈ readsT ops o := by
  refine List.mem_append_right _ ?_
  rw [hg]
  simp only [hd]
  simp
/-- What the check says. -/
theorem drawOk_spec {P : Program} {ops : Array Oper} {b : Array Nat} (h : drawOk P ops b = true) {j : Nat} {o : Oper} (ho : ops[j]? = some o) :
    (∀ e ∈ o.after, Region.binds .any e = true → e.on < j) ∧
    ∀ i q d, ops[i]? = some q → q.dst = some d → if i = j then (d ∈ readsT ops o → solidOp P o.op = true) else
      ((d ∈ readsT ops o → ordB b i j = true ∨ (ordB b j i = true ∧ solidOp P q.op = true)) ∧ (o.dst = some d → solidOp P q.op = true ∧ solidOp P o.op = true)) := by
  unfold drawOk at h
  have hz : ∀ {i q}, ops[i]? = some q → (q, i) ∈ ops.toList.zipIdx := fun {i q} hq => by
    rw [List.mk_mem_zipIdx_iff_getElem?]
    simpa using hq
  have h1 := List.all_eq_true.1 h _ (hz ho)
  simp only [Bool.and_eq_true] at h1
  refine ⟨fun e he hb => ?_, fun i q d hq hd => ?_⟩
  · have h2 := List.all_eq_true.1 h1.1 e (by simpa using he)
    simpa [hb] using h2
  · have h2 := List.all_eq_true.1 h1.2 _ (hz hq)
    simp only [hd] at h2
    split
    · rename_i e
      rw [if_pos e] at h2
      intro hm
      simpa [hm] using h2
    · rename_i e
      rw [if_neg e] at h2
      simp only [Bool.and_eq_true, Bool.or_eq_true, Bool.not_eq_true', bne_iff_ne] at h2
      refine ⟨fun hm => ?_, fun hm => ?_⟩
      · rcases h2.1 with (h3 | h3) | h3
        · simp [hm] at h3
        · exact .inl h3
        · exact .inr h3
      · exact h2.2.resolve_left (fun h3 => h3 hm)
theorem lagsOk_mem {P : Program} {b : Array Nat} {i : Nat} {f : Fr} {h : AHeap} : ∀ {p : Pend}, lagsOk P b i f h p → ∀ {j op v}, (j, op, v) ∈ p → ordB b j i = true ∨ aopF P f h op = some (v, h)
  | (j', op', v') :: r, H, j, op, v, hm => by
    unfold lagsOk at H
    split at H
    · rename_i e
      rcases List.mem_cons.1 hm with h1 | h1
      · cases h1; exact .inl e
      · exact lagsOk_mem H h1
    · rcases List.mem_cons.1 hm with h1 | h1
      · cases h1; exact .inr H.1
      · exact lagsOk_mem H.2 h1
theorem allP_mem {p : Nat → Prop} : ∀ {l : List Nat}, allP l p → ∀ i ∈ l, p i
  | [x], h, i, hi => by rw [List.mem_singleton.1 hi]; exact h
  | x :: y :: r, h, i, hi => by
    rcases List.mem_cons.1 hi with rfl | h1
    · exact h.1
    · exact allP_mem h.2 i h1
  | [], h, i, hi => by cases hi
def dn (listed : Array Bool) (i : Nat) : Prop := listed.getD i false = true
def LagOK (P : Program) (ops : Array Oper) (pend : Pend) (f : Fr) (h : AHeap) (i : Nat) (o : Oper) : Prop :=
  ∃ r, wantR ops f o r ∧ match r with
    | true => ∃ v, aopF P f h o.op = some (v, h) ∧ (∀ d, o.dst = some d → d < f.length → f[d]? = some v) ∧ (steadyOp o.op = true ∨ (i, o.op, v) ∈ pend)
    | false => ∀ d, o.dst = some d → d < f.length → f[d]? = some (.tup [])
def XX (ops : Array Oper) (listed : Array Bool) (C : Nat) (t : Nat) : Prop := ∃ i o, C.testBit i = true ∧ ¬ dn listed i ∧ ops[i]? = some o ∧ o.dst = some t
structure DInv (P : Program) (ops : Array Oper) (β0 : Emb) (h0 : AHeap) (w0 : World) (listed : Array Bool) (C : Nat) (pend : Pend) (f : Fr) (h : AHeap) (β : Emb) (tmps : Array Value) (w : World) : Prop where
  lsz : listed.size = ops.size
  sC : ∀ i, dn listed i → C.testBit i = true
  dS : Down ops (dn listed)
  dC : Down ops (fun i => C.testBit i = true)
  soft : ∀ i o, C.testBit i = true → ¬ dn listed i → ops[i]? = some o → solidOp P o.op = false
  lag : ∀ i o, C.testBit i = true → ¬ dn listed i → ops[i]? = some o → LagOK P ops pend f h i o
  rel : Rel β h w
  post : Post β0 β h0 h w0 w
  fr : RVx β (XX ops listed C) f tmps
theorem dn_lt {ops : Array Oper} {listed : Array Bool} (hl : listed.size = ops.size) {i : Nat} (h : dn listed i) : i < ops.size := by
  unfold dn at h
  rcases Nat.lt_or_ge i listed.size with h' | h'
  · omega
  · simp [Array.getElem?_eq_none h'] at h
theorem dn_set {listed : Array Bool} {i j : Nat} (hi : i < listed.size) : dn (listed.setIfInBounds i true) j ↔ dn listed j ∨ j = i := by
  unfold dn
  by_cases e : j = i
  · subst e; simp [hi]
  · rw [getD_set_ne false (Ne.symm e)]; simp [e]
/-- A lagging operation isn't touched by another's end. -/
theorem lag_put {P : Program} {ops : Array Oper} {pend pend' : Pend} {f f' : Fr} {h : AHeap} {q : Nat} {o : Oper} (H : LagOK P ops pend f h q o) (hr : ∀ t, t ∈ readsT ops o → f'[t]? = f[t]?) (hd : ∀ d, o.dst = some d → f'[d]? = f[d]?)
    (hl : f'.length = f.length) (hp : ∀ x ∈ pend, x ∈ pend') : LagOK P ops pend' f' h q o := by
  obtain ⟨r, h1, h2⟩ := H
  refine ⟨r, wantR_congr h1 (fun j want d hg hdd => hr d (reads_guard hg hdd)), ?_⟩
  cases r with
  | true =>
    obtain ⟨v, h3, h4, h5⟩ := h2
    refine ⟨v, ?_, fun d e hlt => by rw [hd d e]; exact h4 d e (by rw [← hl]; exact hlt), h5.imp id (hp _)⟩
    rw [← aopF_congr (f := f) (g := f')]
    · exact h3
    · exact fun x hx => eval_eq fun t e => hr t (reads_op hx e)
  | false => exact fun d e hlt => by rw [hd d e]; exact h2 d e (by rw [← hl]; exact hlt)
section
variable {P : Program} {ops : Array Oper} {β0 : Emb} {h0 : AHeap} {w0 : World}
theorem soft_none {C : Nat} (h : AM.soft P ops C = none) {i : Nat} {o : Oper} (ho : ops[i]? = some o) (ha : availB ops C i = true) : solidOp P o.op = true := by
  have := List.find?_eq_none.1 h i (List.mem_range.2 (Array.getElem?_eq_some_iff.1 ho).1)
  simp only [ha, softAt, ho, Bool.true_and, Bool.not_eq_true', Bool.not_eq_false] at this
  simpa using this
/-- What the checks come to, for an operation that's run while another lags. -/
theorem apart {D : Nat → Prop} (hok : drawOk P ops (Region.before ops) = true) (hD : Down ops D) {q i : Nat} {oq oi : Oper} (hq : ops[q]? = some oq) (hi : ops[i]? = some oi) (hqi : q ≠ i) (hsq : solidOp P oq.op = false)
    (hDq : PredsIn ops D q) (hDi : ¬ D i) (hor : ordB (Region.before ops) q i = true → solidOp P oi.op = true → False) : (∀ d, oi.dst = some d → d ∉ readsT ops oq) ∧ (∀ d, oi.dst = some d → oq.dst ≠ some d) := by
  have sp := (drawOk_spec hok hq).2 i oi
  refine ⟨fun d hd hm => ?_, fun d hd hm => ?_⟩
  · have := sp d hi hd
    rw [if_neg (Ne.symm hqi)] at this
    rcases this.1 hm with h1 | h1
    · exact hDi (ord_closed hD i q hDq h1)
    · exact hor h1.1 h1.2
  · have := sp d hi hd
    rw [if_neg (Ne.symm hqi)] at this
    have := (this.2 hm).2
    rw [hsq] at this
    cases this
/-- The abstract run goes on, over operations that change nothing. -/
theorem adv {call : FuncId → PT} (hok : drawOk P ops (Region.before ops) = true) {k : Fr → AHeap → Prop} {listed : Array Bool} {h : AHeap} {β : Emb} {tmps : Array Value} {w : World} : ∀ (n C : Nat) (pend : Pend) (f : Fr),
    DInv P ops β0 h0 w0 listed C pend f h β tmps w → execD P call ops (Region.before ops) n C pend f h k →
    ∃ n' C' pend' f', DInv P ops β0 h0 w0 listed C' pend' f' h β tmps w ∧ execD P call ops (Region.before ops) n' C' pend' f' h k ∧ AM.soft P ops C' = none := by
  intro n
  induction n with
  | zero => intro C pend f I H; exact H.elim
  | succ n ih =>
    intro C pend f I H
    cases hs : AM.soft P ops C with
    | none => exact ⟨n + 1, C, pend, f, I, H, hs⟩
    | some i =>
      unfold execD at H
      simp only [hs] at H
      have hfi := List.find?_some hs
      simp only [Bool.and_eq_true] at hfi
      obtain ⟨ha, hsoft⟩ := hfi
      obtain ⟨hni, ⟨o, ho⟩, hpre⟩ := avail_iff.1 ha
      have hso : solidOp P o.op = false := by simpa [softAt, ho] using hsoft
      simp only [ho] at H
      obtain ⟨r, hw, H⟩ := wantedA_inv H
      have hnd : ¬ dn listed i := fun e => by rw [I.sC i e] at hni; cases hni
      have hself : ∀ d, o.dst = some d → d ∉ readsT ops o := fun d hd hm => by
        have := (drawOk_spec hok ho).2 i o d ho hd
        rw [if_pos rfl] at this
        rw [this hm] at hso
        cases hso
      -- both ways come to this
      have fin : ∀ (u : AV) (pend' : Pend), (∀ x ∈ pend, x ∈ pend') → LagOK P ops pend' (putO f o.dst u) h i o → DInv P ops β0 h0 w0 listed (C ||| 2 ^ i) pend' (putO f o.dst u) h β tmps w := by
        intro u pend' hp hlag
        refine ⟨I.lsz, fun j hj => (bit_or _ _ _).2 (.inl (I.sC j hj)), I.dS, fun j hj => ?_, fun j oj hj hdj hoj => ?_, fun j oj hj hdj hoj => ?_, I.rel, I.post, ⟨put_len.trans I.fr.1, fun t a v hx ht hv => ?_⟩⟩
        · rcases (bit_or _ _ _).1 hj with h1 | rfl
          · exact fun oj hoj e he hb => (bit_or _ _ _).2 (.inl (I.dC j h1 oj hoj e he hb))
          · exact fun oj hoj e he hb => (bit_or _ _ _).2 (.inl (hpre oj hoj e he hb))
        · rcases (bit_or _ _ _).1 hj with h1 | rfl
          · exact I.soft j oj h1 hdj hoj
          · rw [ho] at hoj; cases hoj; exact hso
        · rcases (bit_or _ _ _).1 hj with h1 | rfl
          · have hne : j ≠ i := fun e => by subst e; rw [h1] at hni; cases hni
            obtain ⟨a1, a2⟩ := apart hok I.dC hoj ho hne (I.soft j oj h1 hdj hoj) (I.dC j h1) (by rw [hni]; simp) (fun _ h3 => by rw [hso] at h3; cases h3)
            exact lag_put (I.lag j oj h1 hdj hoj) (fun t ht => put_get (fun e => a1 t e ht)) (fun d e => put_get (fun e2 => a2 d e2 e)) put_len hp
          · rw [ho] at hoj; cases hoj; exact hlag
        · have hne : o.dst ≠ some t := fun e => hx ⟨i, o, (bit_or _ _ _).2 (.inr rfl), hnd, ho, e⟩
          rw [put_get hne] at ht
          exact I.fr.2 t a v (fun ⟨j, oj, h1, h2, h3, h4⟩ => hx ⟨j, oj, (bit_or _ _ _).2 (.inl h1), h2, h3, h4⟩) ht hv
      have hrd : ∀ u t, t ∈ readsT ops o → (putO f o.dst u)[t]? = f[t]? := fun u t ht => put_get (fun e => hself t e ht)
      have hdst : ∀ u d, o.dst = some d → d < (putO f o.dst u).length → (putO f o.dst u)[d]? = some u := fun u d e hlt => by
        rw [e] at hlt ⊢
        simp only [putO, List.length_set] at hlt ⊢
        rw [set_get, if_pos rfl, if_pos hlt]
      cases r with
      | true =>
        simp only at H
        unfold bind2 at H
        split at H
        rotate_left
        · exact H.elim
        rename_i p hp
        have hph := soft_heap hso hp
        obtain ⟨v, h1⟩ := p
        simp only at hph H
        subst hph
        refine ih _ _ _ (fin v _ ?_ ?_) H
        · intro x hx
          split
          · exact hx
          · exact List.mem_cons_of_mem _ hx
        · refine ⟨true, wantR_congr hw (fun j want d hg hd => hrd v d (reads_guard hg hd)), v, ?_, hdst v, ?_⟩
          · rw [← aopF_congr (f := f)]
            · exact hp
            · exact fun x hx => eval_eq fun t e => hrd v t (reads_op hx e)
          · cases hst : steadyOp o.op with
            | true => exact .inl rfl
            | false => exact .inr List.mem_cons_self
      | false =>
        exact ih _ _ _ (fin (.tup []) pend (fun _ hx => hx) ⟨false, wantR_congr hw (fun j want d hg hd => hrd _ d (reads_guard hg hd)), hdst _⟩) H
end
end Go.AM
/- Regions whose order is open: every order comes to the same, in the end. -/
namespace Go.AM
open Go Go.RowKit
set_option linter.unusedVariables false
set_option linter.unusedSimpArgs false

section
variable {P : Program} {ops : Array Oper} {β0 : Emb} {h0 : AHeap} {w0 : World}
theorem all_listed {listed : Array Bool} (hl : listed.size = ops.size) (hlow : ∀ j o, ops[j]? = some o → ∀ e ∈ o.after, Region.binds .any e = true → e.on < j) (h : Region.ready .any ops listed = []) : ∀ i, i < ops.size → dn listed i := by
  intro i
  induction i using Nat.strongRecOn with
  | ind i ih =>
    intro hi
    by_cases hd : dn listed i
    · exact hd
    · exfalso
      have : i ∈ Region.ready .any ops listed := by
        rw [mem_ready]
        refine ⟨?_, ops[i], Array.getElem?_eq_getElem hi, fun e he hb => ?_⟩
        · unfold dn at hd
          have hlt : i < listed.size := by omega
          simp [hlt] at hd ⊢
          exact hd
        · have := hlow i _ (Array.getElem?_eq_getElem hi) e he hb
          exact ih e.on this (by omega)
      rw [h] at this
      cases this
def unl (ops : Array Oper) (listed : Array Bool) : List Nat := (List.range ops.size).filter fun i => !listed.getD i false
theorem unl_lt {listed : Array Bool} (hl : listed.size = ops.size) {i : Nat} (hi : i < ops.size) (hd : ¬ dn listed i) : (unl ops (listed.setIfInBounds i true)).length < (unl ops listed).length := by
  have e : unl ops (listed.setIfInBounds i true) = (unl ops listed).filter fun j => !(listed.setIfInBounds i true).getD j false := by
    unfold unl
    rw [List.filter_filter]
    apply List.filter_congr
    intro j _
    by_cases hj : i = j
    · subst hj; simp [show i < listed.size by omega]
    · rw [getD_set_ne false hj]; simp
  rw [e]
  apply List.length_filter_lt_length_iff_exists.2
  refine ⟨i, List.mem_filter.2 ⟨List.mem_range.2 hi, by unfold dn at hd; simpa using hd⟩, ?_⟩
  simp [show i < listed.size by omega]
theorem rvx_put {β β' : Emb} {X X' : Nat → Prop} {f f' : Fr} {a : Act} {o : Oper} {v : AV} {cv : Value} (E : Ext β β') (F : RVx β X f a.tmps) (hv : RV β' v cv) (hl : f'.length = f.length) (hX : ∀ t, o.dst ≠ some t → ¬ X' t → ¬ X t)
    (hf : ∀ t, o.dst ≠ some t → f'[t]? = f[t]?) (hd : ∀ d, o.dst = some d → d < f.length → f'[d]? = some v) : RVx β' X' f' (a.put o.dst cv).tmps := by
  refine ⟨?_, fun t x y hx h1 h2 => ?_⟩
  · rw [hl, F.1]
    unfold Act.put
    split <;> simp
  · by_cases e : o.dst = some t
    · rw [e] at h2
      simp only [Act.put] at h2
      have hlt : t < f.length := by
        rw [← hl]
        exact (List.getElem?_eq_some_iff.1 h1).1
      have hlt2 : t < a.tmps.size := by rw [← F.1]; exact hlt
      rw [hd t e hlt] at h1
      cases h1
      rw [Array.getElem?_setIfInBounds_self_of_lt hlt2] at h2
      cases h2
      exact hv
    · rw [hf t e] at h1
      have h3 : a.tmps[t]? = some y := by
        unfold Act.put at h2
        split at h2
        · rename_i d hd'
          simp only at h2
          rw [Array.getElem?_setIfInBounds_ne (fun e2 => e (by rw [hd', e2]))] at h2
          exact h2
        · exact h2
      exact (F.2 t x y (hX t e hx) h1 h3).mono E
theorem put_defers {a : Act} {o : Option Tmp} {v : Value} : (a.put o v).defers = a.defers := by
  unfold Act.put
  split <;> rfl
theorem draw_sound {call : FuncId → PT} (hc : CallOk P call) (hok : drawOk P ops (Region.before ops) = true) {k : Fr → AHeap → Prop} {Q : Exit → Act → World → Prop} {d0 : List Deferred}
    (hQ : ∀ β f h a w, k f h → RVs β f a.tmps → Rel β h w → Post β0 β h0 h w0 w → a.defers = d0 → Q .normal a w) :
    ∀ (m : Nat) (listed : Array Bool) (n C : Nat) (pend : Pend) (f : Fr) (h : AHeap) (β : Emb) (a : Act) (w : World), a.defers = d0 → (unl ops listed).length ≤ m →
      DInv P ops β0 h0 w0 listed C pend f h β a.tmps w → execD P call ops (Region.before ops) n C pend f h k → AM.soft P ops C = none → wpAny P .any ops Q m listed a w := by
  have hlow : ∀ j o, ops[j]? = some o → ∀ e ∈ o.after, Region.binds .any e = true → e.on < j := fun j o ho => (drawOk_spec hok ho).1
  -- the end
  have done : ∀ (listed : Array Bool) (n C : Nat) (pend : Pend) (f : Fr) (h : AHeap) (β : Emb) (a : Act) (w : World), a.defers = d0 → DInv P ops β0 h0 w0 listed C pend f h β a.tmps w → execD P call ops (Region.before ops) n C pend f h k → AM.soft P ops C = none →
      (∀ i, i < ops.size → dn listed i) → Q .normal a w := by
    intro listed n C pend f h β a w hdf I H hs hall
    cases n with
    | zero => exact H.elim
    | succ n =>
      unfold execD at H
      simp only [hs] at H
      have hh : hards ops C = [] := by
        rw [hards, List.filter_eq_nil_iff]
        intro i hi ha
        have := (avail_iff.1 ha).1
        rw [I.sC i (hall i (List.mem_range.1 hi))] at this
        cases this
      rw [hh] at H
      refine hQ β f h a w H ⟨I.fr.1, fun t x y h1 h2 => I.fr.2 t x y ?_ h1 h2⟩ I.rel I.post hdf
      rintro ⟨i, o, _, h3, h4, _⟩
      exact h3 (hall i (Array.getElem?_eq_some_iff.1 h4).1)
  intro m
  induction m with
  | zero =>
    intro listed n C pend f h β a w hdf hm I H hs
    have hall : ∀ i, i < ops.size → dn listed i := fun i hi => by
      by_cases hd : dn listed i
      · exact hd
      · have := unl_lt I.lsz hi hd
        omega
    refine ⟨?_, done listed n C pend f h β a w hdf I H hs hall⟩
    cases hr : Region.ready .any ops listed with
    | nil => rfl
    | cons i r =>
      exfalso
      have : i ∈ Region.ready .any ops listed := by rw [hr]; exact List.mem_cons_self
      rw [mem_ready] at this
      obtain ⟨h1, o, h2, _⟩ := this
      have h3 := hall i (Array.getElem?_eq_some_iff.1 h2).1
      unfold dn at h3
      have hlt := dn_lt I.lsz h3
      have hlt2 : i < listed.size := by rw [I.lsz]; exact hlt
      simp [hlt2] at h1 h3
      rw [h3] at h1
      cases h1
  | succ m ih =>
    intro listed n C pend f h β a w hdf hm I H hs
    refine ⟨fun hr => done listed n C pend f h β a w hdf I H hs (all_listed I.lsz hlow hr), fun i hi => ?_⟩
    rw [mem_ready] at hi
    obtain ⟨h1, o, ho, hpre⟩ := hi
    have hlt : i < ops.size := (Array.getElem?_eq_some_iff.1 ho).1
    have hll : i < listed.size := by rw [I.lsz]; exact hlt
    have hnd : ¬ dn listed i := fun e => by
      unfold dn at e
      simp [hll] at h1 e
      rw [e] at h1
      cases h1
    have hpS : PredsIn ops (dn listed) i := fun o' ho' e he hb => by
      rw [ho] at ho'; cases ho'
      exact hpre e he hb
    have hm' : (unl ops (listed.setIfInBounds i true)).length ≤ m := by
      have := unl_lt I.lsz hlt hnd
      omega
    have hdn : ∀ j, dn (listed.setIfInBounds i true) j ↔ dn listed j ∨ j = i := fun j => dn_set hll
    have hS' : Down ops (dn (listed.setIfInBounds i true)) := fun j hj => by
      rcases (hdn j).1 hj with h2 | rfl
      · exact fun o' ho' e he hb => (hdn _).2 (.inl (I.dS j h2 o' ho' e he hb))
      · exact fun o' ho' e he hb => (hdn _).2 (.inl (hpS o' ho' e he hb))
    -- what it reads isn't behind
    have hread : (C.testBit i = true → solidOp P o.op = false) → ∀ t, t ∈ readsT ops o → ¬ XX ops listed C t := by
      rintro hsf t ht ⟨q, oq, q1, q2, q3, q4⟩
      have sp := (drawOk_spec hok ho).2 q oq t q3 q4
      by_cases e : q = i
      · subst e
        rw [if_pos rfl] at sp
        have := sp ht
        rw [hsf q1] at this
        cases this
      · rw [if_neg e] at sp
        rcases sp.1 ht with h2 | h2
        · exact q2 (ord_closed I.dS q i hpS h2)
        · rw [I.soft q oq q1 q2 q3] at h2
          exact absurd h2.2 (by simp)
    have hwant : ∀ r, (C.testBit i = true → solidOp P o.op = false) → wantR ops f o r → Region.wanted o (yielded ops a.tmps) = r := fun r hsf hw =>
      want_real I.fr.1 hw (fun j want d hg hd x y hx hy => I.fr.2 d x y (hread hsf d (reads_guard hg hd)) hx hy)
    have hveil : (C.testBit i = true → solidOp P o.op = false) → ∀ x ∈ o.op.operands.toList, evalO f x = evalO (veil (XX ops listed C) f) x := fun hsf x hx => veil_eval fun t e => hread hsf t (reads_op hx e)
    unfold wpOp
    simp only [ho]
    cases hCi : C.testBit i with
    | true =>
      have hsf := I.soft i o hCi hnd ho
      obtain ⟨r, hw, hr⟩ := I.lag i o hCi hnd ho
      rw [hwant r (fun _ => hsf) hw]
      -- behind it
      have fin : ∀ (β' : Emb) (u : AV) (cv : Value) (w' : World), (∀ d, o.dst = some d → d < f.length → f[d]? = some u) → RV β' u cv → Rel β' h w' → Post β β' h h w w' → wpAny P .any ops Q m (listed.setIfInBounds i true) (a.put o.dst cv) w' := by
        intro β' u cv w' hdst hv hrel hpost
        refine ih _ n C pend f h β' _ w' (put_defers.trans hdf) hm' ⟨by simp [I.lsz], fun j hj => ?_, hS', I.dC, fun j oj hj hd hoj => I.soft j oj hj (fun e => hd ((hdn j).2 (.inl e))) hoj, fun j oj hj hd hoj => I.lag j oj hj (fun e => hd ((hdn j).2 (.inl e))) hoj, hrel, I.post.trans I.rel hpost, ?_⟩ H hs
        · rcases (hdn j).1 hj with h2 | rfl
          · exact I.sC j h2
          · exact hCi
        · refine rvx_put hpost.ext I.fr hv rfl (fun t ht hx => ?_) (fun _ _ => rfl) hdst
          rintro ⟨q, oq, q1, q2, q3, q4⟩
          refine hx ⟨q, oq, q1, fun e => ?_, q3, q4⟩
          rcases (hdn q).1 e with h2 | rfl
          · exact q2 h2
          · rw [ho] at q3; cases q3; exact ht q4
      cases r with
      | true =>
        simp only [if_true]
        obtain ⟨v, h2, h3, _⟩ := hr
        rw [aopF_congr (hveil fun _ => hsf)] at h2
        exact .inl (aopF_out rfl h2 β w a I.rel I.fr.veil _ Q (fun β' w' cv hv hrel hpost => fin β' v cv w' h3 hv hrel hpost))
      | false =>
        simp only [Bool.false_eq_true, if_false]
        exact fin β (.tup []) undef w hr (RV.undef _) I.rel (Post.refl ..)
    | false =>
      have ha : availB ops C i = true := avail_iff.2 ⟨hCi, ⟨o, ho⟩, fun o' ho' e he hb => I.sC _ (hpS o' ho' e he hb)⟩
      have hso := soft_none hs ho ha
      cases n with
      | zero => exact H.elim
      | succ n =>
        unfold execD at H
        simp only [hs] at H
        have hmem : i ∈ hards ops C := List.mem_filter.2 ⟨List.mem_range.2 hlt, ha⟩
        split at H
        · rename_i e
          rw [e] at hmem
          cases hmem
        have H := allP_mem H i hmem
        simp only [ho] at H
        obtain ⟨r, hw, H⟩ := wantedA_inv H
        have hnc : C.testBit i = true → solidOp P o.op = false := fun e => by rw [hCi] at e; cases e
        rw [hwant r hnc hw]
        -- behind it
        have fin : ∀ (β' : Emb) (u : AV) (cv : Value) (h' : AHeap) (w' : World), (∀ q oq v, C.testBit q = true → ¬ dn listed q → ops[q]? = some oq → q ≠ i → (steadyOp oq.op = true ∨ (q, oq.op, v) ∈ pend) → aopF P f h oq.op = some (v, h) → aopF P f h' oq.op = some (v, h')) →
            RV β' u cv → Rel β' h' w' → Post β β' h h' w w' → execD P call ops (Region.before ops) n (C ||| 2 ^ i) pend (putO f o.dst u) h' k → wpAny P .any ops Q m (listed.setIfInBounds i true) (a.put o.dst cv) w' := by
          intro β' u cv h' w' hlag hv hrel hpost H
          have I' : DInv P ops β0 h0 w0 (listed.setIfInBounds i true) (C ||| 2 ^ i) pend (putO f o.dst u) h' β' (a.put o.dst cv).tmps w' := by
            refine ⟨by simp [I.lsz], fun j hj => ?_, hS', fun j hj => ?_, fun j oj hj hd hoj => ?_, fun j oj hj hd hoj => ?_, hrel, I.post.trans I.rel hpost, ?_⟩
            · rcases (hdn j).1 hj with h2 | rfl
              · exact (bit_or _ _ _).2 (.inl (I.sC j h2))
              · exact (bit_or _ _ _).2 (.inr rfl)
            · rcases (bit_or _ _ _).1 hj with h2 | rfl
              · exact fun oj hoj e he hb => (bit_or _ _ _).2 (.inl (I.dC j h2 oj hoj e he hb))
              · exact fun oj hoj e he hb => (bit_or _ _ _).2 (.inl (I.sC _ (hpS oj hoj e he hb)))
            · have hji : i ≠ j := fun e => hd ((hdn j).2 (.inr e.symm))
              exact I.soft j oj (((bit_or _ _ _).1 hj).resolve_right hji) (fun e => hd ((hdn j).2 (.inl e))) hoj
            · have hji : i ≠ j := fun e => hd ((hdn j).2 (.inr e.symm))
              have hjC := ((bit_or _ _ _).1 hj).resolve_right hji
              have hjd : ¬ dn listed j := fun e => hd ((hdn j).2 (.inl e))
              have hsj := I.soft j oj hjC hjd hoj
              obtain ⟨a1, a2⟩ := apart hok I.dC hoj ho (Ne.symm hji) hsj (I.dC j hjC) (by rw [hCi]; simp) (fun h2 _ => hjd (ord_closed I.dS j i hpS h2))
              have hlg := I.lag j oj hjC hjd hoj
              have hlg' : LagOK P ops pend f h' j oj := by
                obtain ⟨r, b1, b2⟩ := hlg
                refine ⟨r, b1, ?_⟩
                cases r with
                | true =>
                  obtain ⟨v, b3, b4, b5⟩ := b2
                  exact ⟨v, hlag j oj v hjC hjd hoj (Ne.symm hji) b5 b3, b4, b5⟩
                | false => exact b2
              exact lag_put hlg' (fun t ht => put_get (fun e => a1 t e ht)) (fun d e => put_get (fun e2 => a2 d e2 e)) put_len (fun _ hx => hx)
            · refine rvx_put hpost.ext I.fr hv put_len (fun t ht hx => ?_) (fun t ht => put_get ht) (fun d e hlt => ?_)
              · rintro ⟨q, oq, q1, q2, q3, q4⟩
                refine hx ⟨q, oq, (bit_or _ _ _).2 (.inl q1), fun e => ?_, q3, q4⟩
                rcases (hdn q).1 e with h2 | rfl
                · exact q2 h2
                · rw [ho] at q3; cases q3; exact ht q4
              · rw [e]
                simp only [putO]
                rw [set_get, if_pos rfl, if_pos hlt]
          obtain ⟨n', C', pend', f', I2, H2, hs2⟩ := adv hok n _ _ _ I' H
          exact ih _ n' C' pend' f' h' β' _ w' (put_defers.trans hdf) hm' I2 H2 hs2
        cases r with
        | true =>
          simp only [if_true]
          simp only at H
          rw [aop_congr (hveil hnc)] at H
          refine .inl (aop_out hc rfl H I.rel I.fr.veil (fun β' v h' w' cv hk hv hrel hpost => fin β' v cv h' w' ?_ hv hrel hpost hk.2))
          intro q oq v' hqC hqd hoq hqi hst haq
          rcases hst with h2 | h2
          · exact steady_heap (I.soft q oq hqC hqd hoq) h2 haq
          · rcases lagsOk_mem hk.1 h2 with h3 | h3
            · exact absurd (ord_closed I.dS q i hpS h3) hqd
            · exact h3
        | false =>
          simp only [Bool.false_eq_true, if_false]
          exact fin β (.tup []) undef h w (fun q oq v _ _ _ _ _ haq => haq) (RV.undef _) I.rel (Post.refl ..) H
end
end Go.AM
/- Code, and calls: the abstract machine speaks for the model. -/
namespace Go.AM
open Go Go.RowKit
set_option linter.unusedVariables false
set_option linter.unusedSimpArgs false

theorem Rel.world {β : Emb} {h : AHeap} {w w' : World} (R : Rel β h w) (hh : w'.heap = w.heap) : Rel β h w' := by
  refine ⟨R.dom, R.mdom, fun b g l hl => ?_, R.inj, R.off, fun r k hr => ?_, R.minj⟩
  · obtain ⟨B, hB, b1⟩ := R.blk b g l hl
    exact ⟨B, hB, b1.keep (.refl β) (by rw [hh]) (by rw [hh]; exact Nat.le_refl _)⟩
  · obtain ⟨es, h1, ents, clock, h2, h3⟩ := R.mp r k hr
    exact ⟨es, h1, ents, clock, by rw [hh]; exact h2, h3⟩
theorem Post.world {β : Emb} {h : AHeap} {w : World} : Post β β h h w { w with drawn := w.drawn + 1 } :=
  ⟨.refl β, ⟨rfl, rfl, rfl, Nat.le_refl _, fun _ _ _ _ => rfl⟩, Nat.le_refl _, fun _ _ _ x => .inl x, fun b g l x => .inl ⟨g, l, x⟩, fun _ _ x => .inl x⟩
section
variable {P : Program} {β0 : Emb} {h0 : AHeap} {w0 : World} {d0 : List Deferred}
theorem ops_sound {call : FuncId → PT} (hc : CallOk P call) {ops : Array Oper} {k : Fr → AHeap → Prop} {Q : Exit → Act → World → Prop}
    (hQ : ∀ β f h a w, k f h → RVs β f a.tmps → Rel β h w → Post β0 β h0 h w0 w → a.defers = d0 → Q .normal a w) :
    ∀ (l : List Oper) (j : Nat) (β : Emb) (f : Fr) (h : AHeap) (a : Act) (w : World), ops.toList.drop j = l → RVs β f a.tmps → Rel β h w → Post β0 β h0 h w0 w → a.defers = d0 → execOps P call ops l f h k →
      wpOps P ops Q (List.range' j l.length) a w
  | [], j, β, f, h, a, w, hl, F, R, hp, hd, H => hQ β f h a w H F R hp hd
  | o :: l, j, β, f, h, a, w, hl, F, R, hp, hd, H => by
    have ho : ops[j]? = some o := by
      have : (ops.toList.drop j)[0]? = some o := by rw [hl]; rfl
      simpa using this
    have hl' : ops.toList.drop (j + 1) = l := by
      have : (ops.toList.drop j).drop 1 = l := by rw [hl]; rfl
      rw [List.drop_drop] at this
      exact this
    simp only [List.length_cons, List.range'_succ]
    unfold wpOps
    simp only [ho]
    unfold execOps at H
    obtain ⟨r, hw, H⟩ := wantedA_inv H
    rw [want_real F.1 hw (fun _ _ d _ _ x y hx hy => F.2 d x y hx hy)]
    cases r with
    | true =>
      simp only [if_true]
      exact .inl (aop_out hc rfl H R F (fun β' v h' w' cv hk hv hr hpp => ops_sound hc hQ l (j + 1) β' _ h' _ w' hl' (put_rv (⟨F.1, fun i x y hx hy => (F.2 i x y hx hy).mono hpp.ext⟩) o.dst hv) hr (hp.trans R hpp) (put_defers.trans hd) hk))
    | false =>
      simp only [Bool.false_eq_true, if_false]
      exact ops_sound hc hQ l (j + 1) β _ h _ w hl' (put_rv F o.dst (RV.undef _)) R hp (put_defers.trans hd) H
theorem keep_rv {β : Emb} {f : Fr} {tmps : Array Value} (F : RVs β f tmps) (l : List Nat) : RVs β (keep l f) tmps := by
  refine ⟨by simp [keep, F.1], fun i x y hx hy => ?_⟩
  simp only [keep, List.getElem?_mapIdx, Option.map_eq_some_iff] at hx
  obtain ⟨b, hb, rfl⟩ := hx
  split
  · exact F.2 i b y hb hy
  · exact .unk _
theorem clr_rv {β : Emb} {f : Fr} {tmps : Array Value} (F : RVs β f tmps) (hints : Nat → Option (List Nat)) (c : Code) : RVs β (clr hints c f) tmps := by
  unfold clr
  split
  · exact keep_rv F _
  · exact F
def exOf : Ex → Exit
  | .normal => .normal
  | .exit id => .exit id
  | .ret => .ret
/-- A loop, behind its first step. -/
def LoopIn (P : Program) (c : Code) (Q : Exit → Act → World → Prop) (a : Act) (w : World) : Prop := ∀ (b : Frame) (k : List Item) (cs : List Frame),
  ∃ e a' w', Q e a' w' ∧ Arrives P (lone (b.at a (.code c :: .inLoop c :: k)) cs w) b k cs e a' w'
theorem LoopIn.wp {Q : Exit → Act → World → Prop} {c : Code} {a : Act} {w : World} (h : LoopIn P c Q a w) : (Code.loop c).wp P Q a w := by
  intro b k cs
  obtain ⟨e, a', w', hq, harr⟩ := h b k cs
  exact ⟨e, a', w', hq, .of_steps (.one step_loop) harr⟩
theorem LoopIn.step {Q : Exit → Act → World → Prop} {c : Code} {a : Act} {w : World} (h : c.wp P (Exit.then (LoopIn P c Q) Q) a w) : LoopIn P c Q a w := by
  intro b k cs
  obtain ⟨e, a₁, w₁, hq, harr⟩ := h b (.inLoop c :: k) cs
  cases e with
  | normal =>
    obtain ⟨e₂, a₂, w₂, hq₂, harr₂⟩ := hq b k cs
    exact ⟨e₂, a₂, w₂, hq₂, .of_steps (Steps.trans harr (.one step_inLoop)) harr₂⟩
  | exit id => exact ⟨_, a₁, w₁, hq, .pass (x := .inLoop c) rfl (fun _ _ => .inl (by simp)) harr⟩
  | goto l => exact ⟨_, a₁, w₁, hq, .pass (x := .inLoop c) rfl (fun _ _ => .inl (by simp)) harr⟩
  | ret => exact ⟨_, a₁, w₁, hq, .pass (x := .inLoop c) rfl (fun _ _ => .inl (by simp)) harr⟩
  | panic ch => exact ⟨_, a₁, w₁, hq, .pass (x := .inLoop c) rfl (fun _ _ => .inl (by simp)) harr⟩
  | outgrown => exact ⟨_, a₁, w₁, hq, .pass (x := .inLoop c) rfl (fun _ _ => .inl (by simp)) harr⟩
/-- A state of the model's that an abstract one stands for. -/
def St (β0 : Emb) (h0 : AHeap) (w0 : World) (d0 : List Deferred) (f : Fr) (h : AHeap) (a : Act) (w : World) : Prop := ∃ β, RVs β f a.tmps ∧ Rel β h w ∧ Post β0 β h0 h w0 w ∧ a.defers = d0
theorem exec_sound {call : FuncId → PT} (hc : CallOk P call) (hm : P.follows .mixedOrders = true) (hints : Nat → Option (List Nat)) : ∀ (c : Code) (f : Fr) (h : AHeap) (k : AK) (a : Act) (w : World) (Q : Exit → Act → World → Prop),
    exec P call hints c f h k → St β0 h0 w0 d0 f h a w → (∀ e f h a w, k e f h → St β0 h0 w0 d0 f h a w → Q (exOf e) a w) → c.wp P Q a w
  | .skip, f, h, k, a, w, Q, H, S, hQ => wp_skip (hQ .normal f h a w H S)
  | .label _, f, h, k, a, w, Q, H, S, hQ => wp_label (hQ .normal f h a w H S)
  | .region id ops false, f, h, k, a, w, Q, H, ⟨β, F, R, hp, hd⟩, hQ => by
    refine wp_region ?_
    unfold exec at H
    simp only at H
    have := ops_sound hc (fun β f h a w hk F R hp hd => hQ .normal f h a w hk ⟨β, F, R, hp, hd⟩) ops.toList 0 β f h a w rfl F R hp hd H
    rw [List.range_eq_range']
    simpa using this
  | .region id ops true, f, h, k, a, w, Q, H, ⟨β, F, R, hp, hd⟩, hQ => by
    refine wp_region_any hm ?_
    unfold exec at H
    simp only at H
    obtain ⟨hok, H⟩ := H
    have hdn : ∀ i, ¬ dn (Array.replicate ops.size false) i := fun i e => by
      unfold dn at e
      by_cases hi : i < ops.size
      · simp [hi] at e
      · simp [Array.getElem?_eq_none (show (Array.replicate ops.size false).size ≤ i by simp; omega)] at e
    have R' : Rel β h { w with drawn := w.drawn + 1 } := R.world rfl
    have I : DInv P ops β0 h0 w0 (Array.replicate ops.size false) 0 [] f h β a.tmps { w with drawn := w.drawn + 1 } :=
      ⟨by simp, fun i e => (hdn i e).elim, fun i e => (hdn i e).elim, fun i e => by simp at e, fun i o e => by simp at e, fun i o e => by simp at e, R', hp.trans R Post.world, ⟨F.1, fun t x y _ hx hy => F.2 t x y hx hy⟩⟩
    obtain ⟨n', C', pend', f', I2, H2, hs2⟩ := adv hok _ _ _ _ I H
    refine draw_sound hc hok (fun β f h a w hk F R hp hd => hQ .normal f h a w hk ⟨β, F, R, hp, hd⟩) ops.size _ n' C' pend' f' h β a _ hd ?_ I2 H2 hs2
    unfold unl
    exact Nat.le_trans (List.length_filter_le _ _) (by simp)
  | .seq x y, f, h, k, a, w, Q, H, S, hQ => by
    refine wp_seq ?_
    unfold exec at H
    refine exec_sound hc hm hints x f h _ a w _ H S (fun e f h a w hk S => ?_)
    cases e with
    | normal =>
      obtain ⟨β, F, R, hp, hd⟩ := S
      exact exec_sound hc hm hints y _ h k a w Q hk ⟨β, clr_rv F hints y, R, hp, hd⟩ hQ
    | exit id => exact hQ (.exit id) f h a w hk S
    | ret => exact hQ .ret f h a w hk S
  | .cond c x y, f, h, k, a, w, Q, H, S, hQ => by
    unfold exec at H
    split at H
    rotate_left
    · exact H.elim
    rename_i t ht
    obtain ⟨β, F, R, hp, hd⟩ := S
    have hc' : a.eval c = .bool t := bool_inv (by rw [← ht]; exact eval_rv F c)
    refine wp_cond hc' ?_
    split at H
    · rename_i d
      have hset : f.set d (.bool t) = f := by
        simp only [evalO, List.getD_eq_getElem?_getD] at ht
        cases hx : f[d]? with
        | none => rw [hx] at ht; cases ht
        | some y =>
          rw [hx] at ht
          simp only [Option.getD_some] at ht
          subst ht
          obtain ⟨hlt, he⟩ := List.getElem?_eq_some_iff.1 hx
          rw [← he]
          exact List.set_getElem_self hlt
      cases t with
      | true => simp only [ifB, hset] at H; exact exec_sound hc hm hints x f h k a w Q H ⟨β, F, R, hp, hd⟩ hQ
      | false => simp only [ifB, hset] at H; exact exec_sound hc hm hints y f h k a w Q H ⟨β, F, R, hp, hd⟩ hQ
    · cases t with
      | true => exact exec_sound hc hm hints x f h k a w Q H ⟨β, F, R, hp, hd⟩ hQ
      | false => exact exec_sound hc hm hints y f h k a w Q H ⟨β, F, R, hp, hd⟩ hQ
  | .block id x, f, h, k, a, w, Q, H, S, hQ => by
    refine wp_block ?_
    unfold exec at H
    refine exec_sound hc hm hints x f h _ a w _ H S (fun e f h a w hk S => ?_)
    cases e with
    | normal => exact hQ .normal f h a w hk S
    | ret => exact hQ .ret f h a w hk S
    | exit id' =>
      simp only at hk
      simp only [exOf, Exit.inBlock]
      split
      · rename_i e; rw [if_pos e] at hk; exact hQ .normal f h a w hk S
      · rename_i e; rw [if_neg e] at hk; exact hQ (.exit id') f h a w hk S
  | .loop x, f, h, k, a, w, Q, H, S, hQ => by
    unfold exec at H
    refine LoopIn.wp (H (fun f h => ∀ a w, St β0 h0 w0 d0 f h a w → LoopIn P x Q a w) (fun f h h1 a w S => ?_) a w S)
    obtain ⟨β, F, R, hp, hd⟩ := S
    refine LoopIn.step (exec_sound hc hm hints x _ h _ a w _ h1 ⟨β, clr_rv F hints x, R, hp, hd⟩ (fun e f h a w hk S => ?_))
    cases e with
    | normal => exact hk a w S
    | exit id => exact hQ (.exit id) f h a w hk S
    | ret => exact hQ .ret f h a w hk S
  | .scope x, f, h, k, a, w, Q, H, S, hQ => by
    refine wp_scope_straight ?_
    unfold exec at H
    refine exec_sound hc hm hints x f h k a w _ H S (fun e f h a w hk S => ?_)
    cases e with
    | normal => exact hQ .normal f h a w hk S
    | exit id => exact hQ (.exit id) f h a w hk S
    | ret => exact hQ .ret f h a w hk S
  | .exit id, f, h, k, a, w, Q, H, S, hQ => wp_exit (hQ (.exit id) f h a w H S)
  | .ret, f, h, k, a, w, Q, H, S, hQ => wp_ret (hQ .ret f h a w H S)
  | .goto _, f, h, k, a, w, Q, H, S, hQ => by unfold exec at H; exact H.elim
end

end Go.AM
/- Calls: the abstract machine speaks for the model. -/
namespace Go.AM
open Go Go.RowKit
set_option linter.unusedVariables false
set_option linter.unusedSimpArgs false

def resRun (tmps : Array Value) : ResultVar → Sem Value
  | .tmp t => pure (tmps.getD t undef)
  | .cell a t => do loadVar t (← asAddr (tmps.getD a undef))
theorem results_eq (fn : Func) (tmps : Array Value) : results fn tmps = (do
    let vs ← fn.results.mapM (resRun tmps)
    pure (if h : vs.size = 1 then vs[0] else .tuple vs)) := by
  unfold results
  congr 1
theorem res_one {P : Program} {β : Emb} {f : Fr} {h : AHeap} {tmps : Array Value} {w : World} (F : RVs β f tmps) (R : Rel β h w) {x : ResultVar} {v : AV} (H : resOf P f h x = some v) : ∃ cv, (resRun tmps x).run P w = .ok cv w ∧ RV β v cv := by
  cases x with
  | tmp t =>
    cases H
    exact ⟨_, rfl, getD_rv F t⟩
  | cell a t =>
    simp only [resOf] at H
    split at H
    rotate_left
    · cases H
    rename_i i ht
    split at H
    rotate_left
    · cases H
    rename_i cs hg
    obtain ⟨b, g, j, q, B, he, hB, hget⟩ := getA_inv hg
    have hx := getD_rv F a
    rw [he] at hx
    obtain ⟨l, hl, hi, hc⟩ := ptr_inv hx
    obtain ⟨B2, hB2, bl⟩ := R.blk _ _ _ hl
    rw [hB] at hB2
    cases hB2
    obtain ⟨hcl, vs, hvl, hvs, hrv⟩ := get_cells bl hi hget
    have hone : i.ag = false → i.sz = 1 := fun e => by
      rw [e] at H
      split at H
      · rename_i e2; cases e2
      · simpa using hcl.symm
      · cases H
    have run := run_loadVar (P := P) ht hvl hvs hone
    refine ⟨if i.ag = true then .agg vs.toArray else vs.headD Go.undef, ?_, ?_⟩
    · simp only [resRun, hc, asAddr, Sem.run_bind, Sem.run_pure, Result.andThen, run]
    · cases hag : i.ag with
      | true =>
        rw [hag] at H
        cases H
        simp only [if_true]
        exact .agg _ _ hrv.1 hrv.2
      | false =>
        rw [hag] at H
        split at H
        · rename_i e; cases e
        · rename_i c
          cases H
          match vs, hvl, hrv with
          | [u], _, hrv => exact hrv.2 0 _ _ rfl rfl
          | [], hvl, _ => simp at hvl; simp at hcl; omega
          | u :: u' :: r, hvl, _ => simp at hvl; simp at hcl; omega
        · cases H
theorem res_all {P : Program} {β : Emb} {f : Fr} {h : AHeap} {tmps : Array Value} {w : World} (F : RVs β f tmps) (R : Rel β h w) : ∀ (l : List ResultVar) (vs : List AV), l.mapM (resOf P f h) = some vs →
    ∃ cvs : List Value, (l.mapM (resRun tmps)).run P w = .ok cvs w ∧ RVs β vs cvs.toArray
  | [], vs, H => by
    simp at H
    subst H
    exact ⟨[], by simp, by simp [RVs]⟩
  | x :: l, vs, H => by
    rw [List.mapM_cons] at H
    cases hx : resOf P f h x with
    | none => rw [hx] at H; cases H
    | some v =>
      cases hl : l.mapM (resOf P f h) with
      | none => rw [hx, hl] at H; cases H
      | some us =>
        rw [hx, hl] at H
        cases H
        obtain ⟨cv, h1, h2⟩ := res_one F R hx
        obtain ⟨cvs, h3, h4⟩ := res_all F R l us hl
        refine ⟨cv :: cvs, by rw [List.mapM_cons]; simp only [Sem.run_bind, h1, h3, Result.andThen, Sem.run_pure], by have := h4.1; simp at this ⊢; exact this, fun i a v ha hv => ?_⟩
        cases i with
        | zero => simp at ha hv; subst ha; subst hv; exact h2
        | succ i => exact h4.2 i a v (by simpa using ha) (by simpa using hv)
theorem results_sound {P : Program} {β : Emb} {fn : Func} {f : Fr} {h : AHeap} {tmps : Array Value} {w : World} {Q : AV → AHeap → Prop} (F : RVs β f tmps) (R : Rel β h w) (H : resultsA P fn f h Q) :
    ∃ v cv, (results fn tmps).run P w = .ok cv w ∧ RV β v cv ∧ Q v h := by
  unfold resultsA at H
  rw [results_eq]
  split at H
  · rename_i v hv
    obtain ⟨cvs, h1, h2⟩ := res_all (w := w) F R _ _ hv
    have hl : cvs.length = 1 := by have := h2.1; simpa using this.symm
    match cvs, hl, h1, h2 with
    | [cv], _, h1, h2 =>
      refine ⟨v, cv, ?_, h2.2 0 v cv rfl (by simp), H⟩
      rw [Array.mapM_eq_mapM_toList]
      simp [Sem.run_bind, h1, Result.andThen]
  · rename_i vs hne hv
    obtain ⟨cvs, h1, h2⟩ := res_all (w := w) F R _ _ hv
    have hl : cvs.length ≠ 1 := fun e => by
      have h3 : vs.length = 1 := by have := h2.1; simp at this; omega
      match vs, h3 with
      | [v], _ => exact hne v rfl
    refine ⟨.tup vs, .tuple cvs.toArray, ?_, .tup _ _ h2.1 h2.2, H⟩
    rw [Array.mapM_eq_mapM_toList]
    simp [Sem.run_bind, h1, Result.andThen, hl]
  · exact H.elim
/-- What a function of another proof must do. -/
def ExtOk (P : Program) (g : FuncId) (F : PT) : Prop := ∀ args h Q, F args h Q → ∀ (β : Emb) (w : World) (cargs : Array Value), Rel β h w → RVs β args cargs →
  ∀ (o : Oper) (a : Act) (next : Act → World → Prop) (Q' : Exit → Act → World → Prop),
    (∀ β' v h' w' cv, Q v h' → RV β' v cv → Rel β' h' w' → Post β β' h h' w w' → next (a.put o.dst cv) w') → o.upon P a next Q' ((callFunc g cargs).run P w)
structure EnvOk (E : Env) : Prop where
  mixed : E.P.follows .mixedOrders = true
  ext : ∀ g F, E.ext g = some F → ExtOk E.P g F
/-- What a call comes to, in the model's world. -/
def Ends (β : Emb) (h : AHeap) (w : World) (Q : AV → AHeap → Prop) : Ending → World → Prop
  | .returned cv, w' => ∃ β' v h', Q v h' ∧ RV β' v cv ∧ Rel β' h' w' ∧ Post β β' h h' w w'
  | _, _ => False
theorem body_calls {P : Program} {call : FuncId → PT} (hc : CallOk P call) (hm : P.follows .mixedOrders = true) {hints : Nat → Option (List Nat)} {g : FuncId} {fn : Func} {c : Code} (hf : P.funcs[g]? = some fn) (hb : fn.body = some c) {args : List AV} {h : AHeap} {Q : AV → AHeap → Prop}
    (H : exec P call hints c (args ++ List.replicate (fn.ntmps - args.length) (.tup [])) h fun e f h => match e with
          | .exit _ => False
          | _ => resultsA P fn f h Q) {β : Emb} {w : World} {cargs : Array Value} (R : Rel β h w) (F : RVs β args cargs) : Calls P g cargs w (Ends β h w Q) := by
  refine calls_of_wp hf hb (exec_sound (β0 := β) (h0 := h) (w0 := w) (d0 := []) hc hm hints c _ h _ _ w _ H ⟨β, ?_, R, Post.refl .., rfl⟩ ?_)
  · refine F.append ?_
    rw [F.1]
    refine ⟨by simp, fun i a v ha hv => ?_⟩
    simp only [List.getElem?_replicate, Array.getElem?_replicate] at ha hv
    split at ha
    · rename_i hlt
      rw [if_pos hlt] at hv
      cases ha; cases hv
      exact RV.undef _
    · cases ha
  · intro e f h' a w' hk ⟨β', F', R', hp, hd⟩
    cases e with
    | exit id => exact hk.elim
    | normal =>
      obtain ⟨v, cv, h1, h2, h3⟩ := results_sound F' R' hk
      exact ⟨hd, cv, h1, β', v, h', h3, h2, R', hp⟩
    | ret =>
      obtain ⟨v, cv, h1, h2, h3⟩ := results_sound F' R' hk
      exact ⟨hd, cv, h1, β', v, h', h3, h2, R', hp⟩
theorem W_sound {E : Env} (hE : EnvOk E) : ∀ n, CallOk E.P (W E n)
  | 0 => fun g args h Q H => H.elim
  | n + 1 => by
    intro g args h Q H β w cargs R F o a next Q' hk
    unfold W at H
    split at H
    · rename_i G hG
      exact hE.ext g G hG args h Q H β w cargs R F o a next Q' hk
    · split at H
      rotate_left
      · exact H.elim
      rename_i fn hf
      obtain ⟨hn, H⟩ := H
      split at H
      rotate_left
      · exact H.elim
      rename_i c hb
      have run : (callFunc g cargs).run E.P w = .ok (.enter g cargs) w := by
        have hn' : ¬ fn.name = "runtime.NumGoroutine" := by simpa using hn
        simp [callFunc, program, Sem.run_bind, Sem.run, Result.andThen, hf, hn', hb]
      rw [run, Oper.upon_enter]
      refine Calls.mono (body_calls (W_sound hE n) hE.mixed hf hb H R F) (fun e w' he => ?_)
      cases e with
      | returned cv =>
        obtain ⟨β', v, h', h1, h2, h3, h4⟩ := he
        exact hk β' v h' w' cv h1 h2 h3 h4
      | panicked ch => exact he.elim
      | outgrown => exact he.elim
theorem run_calls {E : Env} (hE : EnvOk E) {g : FuncId} (hg : E.ext g = none) {args : List AV} {h : AHeap} {Q : AV → AHeap → Prop} (H : Run E g args h Q) {β : Emb} {w : World} {cargs : Array Value} (R : Rel β h w) (F : RVs β args cargs) :
    Calls E.P g cargs w (Ends β h w Q) := by
  obtain ⟨n, H⟩ := H
  cases n with
  | zero => exact H.elim
  | succ n =>
    unfold W at H
    split at H
    · rename_i G hG; rw [hg] at hG; cases hG
    · split at H
      rotate_left
      · exact H.elim
      rename_i fn hf
      obtain ⟨hn, H⟩ := H
      split at H
      rotate_left
      · exact H.elim
      rename_i c hb
      exact body_calls (W_sound hE n) hE.mixed hf hb H R F
end Go.AM
