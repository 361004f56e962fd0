/- A slice of whole numbers that comes in. -/
import Derived.Test.YtlobjaanabepgaaDoorStep
import Derived.ChangeSlices
namespace Go.AM
open Go Go.RowKit
set_option linter.unusedVariables false
set_option linter.unusedSimpArgs false
theorem in_ints {w : World} (hw : 0 < w.heap.size) {k : IntKind} {a : Addr} {len cap : Nat} {zs : List Int} (hl : len ≤ cap) (hz : zs.length = cap) (hcell : ∀ i, i < zs.length → w.cell? (a.add i) = some (.int k (zs.getD i 0))) :
    ∃ β h v, Rel β h w ∧ RV β v (.slice (some a) len cap) ∧ Sl1 (AV.int k) h v (zs.take len) ∧ (∀ b g l, β.bl b g = some l → l.ro = true) ∧ (∀ r, β.mp r = none) := by
  have hspot : cap ≠ 0 → a.spot = none ∧ a.block < w.heap.size := fun hc => by
    have h0 := hcell 0 (by omega)
    have e0 : a.add 0 = a := by simp [Addr.add]
    rw [e0] at h0
    unfold World.cell? at h0
    split at h0
    · rename_i c t f hb
      split at h0
      · cases h0
      · rename_i hs
        exact ⟨by simpa using hs, (Array.getElem?_eq_some_iff.1 hb).1⟩
    · cases h0
  have hadd : cap ≠ 0 → ∀ i, a.add i = ⟨a.block, a.off + i, none⟩ := fun hc i => by
    obtain ⟨h1, _⟩ := hspot hc
    unfold Addr.add
    split
    · rename_i e; subst e; cases a; simp_all
    · cases a; simp_all
  let l : Loc := ⟨if cap = 0 then 0 else a.block, a.off, len, cap, 1, true⟩
  let β : Emb := ⟨fun b g => if b = 0 ∧ g = 0 then some l else none, fun _ => none⟩
  let B : Blk := ⟨1, (zs.take len).map fun a => [AV.int k a], 0, 0, true⟩
  let h : AHeap := ⟨fun i => if i = 0 then some (.blk B) else none, 1⟩
  have hbl : ∀ b g l', β.bl b g = some l' → b = 0 ∧ g = 0 ∧ l' = l := fun b g l' h => by
    simp only [β] at h
    split at h
    · rename_i e; cases h; exact ⟨e.1, e.2, rfl⟩
    · cases h
  have hlen : (zs.take len).length = len := by simp; omega
  refine ⟨β, h, .sl 0 0 0 len, ?_, ?_, ?_, fun b g l' hl' => by rw [(hbl b g l' hl').2.2], fun _ => rfl⟩
  · refine ⟨fun b g l' h => by rw [(hbl b g l' h).1]; exact Nat.zero_lt_one, fun _ _ e => (by cases e), fun b g l' h => ?_, fun b g l' b' g' l'' h h' _ hro => ?_, fun b g l' g' l'' h h' _ => ?_, fun _ _ e => (by cases e), fun _ _ _ e => (by cases e)⟩
    · obtain ⟨rfl, rfl, rfl⟩ := hbl b g l' h
      refine ⟨B, rfl, rfl, rfl, Nat.le_refl _, fun _ => by simp [B, l]; omega, fun _ => by simp [B, l]; omega, Nat.le_refl _, Nat.zero_lt_one, fun e he => ?_, fun e he v hv => ?_, ?_, fun _ i e f v hi he hv => ?_, fun h => (by cases h)⟩
      · obtain ⟨x, _, rfl⟩ := List.mem_map.1 he; rfl
      · obtain ⟨x, _, rfl⟩ := List.mem_map.1 he
        simp only [List.mem_singleton] at hv; subst hv; rfl
      · simp only [l]; split
        · exact hw
        · exact (hspot ‹_›).2
      · simp only [B, List.getElem?_map] at he
        have hi' : i < len := hi
        have hc0 : cap ≠ 0 := by omega
        cases hx : (zs.take len)[i]? with
        | none => rw [hx] at he; cases he
        | some x =>
          rw [hx] at he
          cases he
          have hf : f = 0 := by
            have := (List.getElem?_eq_some_iff.1 hv).1
            simpa using this
          subst hf
          simp only [List.getElem?_cons_zero, Option.some.injEq] at hv
          subst hv
          refine ⟨.int k x, ?_, .int k x⟩
          have h2 := hcell i (by omega)
          rw [hadd hc0] at h2
          have e1 : zs.getD i 0 = x := by
            rw [List.getElem?_take, if_pos hi'] at hx
            simp [List.getD_eq_getElem?_getD, hx]
          rw [e1] at h2
          simp only [l, if_neg hc0, Nat.mul_one, Nat.add_zero]
          exact h2
    · rw [(hbl b g l' h).1, (hbl b' g' l'' h').1]
    · obtain ⟨_, rfl, rfl⟩ := hbl b g l' h
      obtain ⟨_, rfl, rfl⟩ := hbl b g' l'' h'
      rfl
  · refine .sl 0 0 0 len l a cap (by simp [β]) (by simp [l]) hl (by simp [l]) ?_
    by_cases hc : cap = 0
    · exact .inl hc
    · right
      have := (hspot hc).1
      simp only [l, if_neg hc, Nat.zero_mul, Nat.add_zero]
      cases a; simp_all
  · refine .inr ⟨0, 0, 0, B, by rw [List.length_map, hlen], rfl, Nat.zero_lt_one, Nat.le_refl _, rfl, ?_⟩
    simp only [List.drop_zero, B]
    rw [List.take_of_length_le (Nat.le_refl _)]
/-- A call of plain input that is only read. -/
theorem ends_bool {P : Program} {g : FuncId} {args : List AV} {β : Emb} {h : AHeap} {w : World} {cargs : Array Value} (H : SC P g args h (fun x _ => x = .bool true)) (R : Rel β h w) (F : RVs β args cargs) (hro : ∀ b g l, β.bl b g = some l → l.ro = true) (hmp : ∀ r, β.mp r = none) :
    Calls P g cargs w fun e w' => e = .returned (.bool true) ∧ Below w.heap.size w w' := by
  refine Calls.mono (H.2 β w cargs R F) (fun e w' he => ?_)
  cases e with
  | returned cv =>
    obtain ⟨β', v, h', rfl, h2, h3, h4⟩ := he
    cases h2
    exact ⟨rfl, h4.fc.os, h4.fc.tape, h4.fc.output, h4.fc.size, fun k hk => h4.fc.block k hk (fun b g l hl _ => hro b g l hl) (fun r e => by rw [hmp] at e; cases e)⟩
  | panicked ch => exact he.elim
  | outgrown => exact he.elim
end Go.AM
