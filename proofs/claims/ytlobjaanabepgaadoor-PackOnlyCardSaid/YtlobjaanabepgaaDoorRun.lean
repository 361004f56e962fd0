/- The table of no choices, run by the kernel. -/
import Derived.Test.YtlobjaanabepgaaDoorEval
import Derived.Test.YtlobjaanabepgaaDoorStep
import Derived.Test.YtlobjaanabepgaaDoorKinds
namespace Go.Proofs.YtlobjaanabepgaaDoor
open Go Go.AM
set_option maxRecDepth 1000000
/-- Does it lie at lo, or behind it? -/
def newV (lo : Nat) : AV → Bool
  | .sl b _ _ _ => Nat.ble lo b
  | _ => true
noncomputable def chkT (lo : Nat) (h : AHeap) (v : AV) : Bool := match v with
  | .agg [c, n, t] => (match readI .u8 h c, readV h n, readI .i64 h t with
    | some cl, some [w], some tl => newV lo c && (newV lo n && (newV lo t && (newV lo w && (cl == List.replicate 256 0) && ((tl == [-1]) && (match readI .i64 h w with
      | some r => r == [-1]
      | none => false)))))
    | _, _, _ => false)
  | _ => false
/-- Is the first block as it was? -/
noncomputable def fstOk (h : AHeap) : Bool := match h.m 0 with
  | some (.blk B) => Nat.beq B.gen 0
  | _ => false
def b0 : List Int := [71, 67, 1, 0, 1, 255, 0, 1, 0, 0, 0, 1, 0, 0, 61, 239, 134, 22]
theorem table_run : qRun P 4000 8 [.nils, .int .u8 0, .nils, .nils] .nil 0 (fun v t n => chkT 0 (hq t n) v) = true := by kernel_rfl
/-- The answer of Decode: a table, none wrong. -/
noncomputable def chkD (h : AHeap) (v : AV) : Bool := match v with
  | .tup [t, .int .u16 n] => chkT 1 h t && (n == 0 && fstOk h)
  | _ => false
theorem decode_run : qRun P 4000 5 [.sl 0 0 0 18] (.node (some (.blk ⟨1, b0.map fun c => [.int .u8 c], 0, 0, true⟩)) .nil .nil) 1 (fun v t n => chkD (hq t n) v) = true := by kernel_rfl
end Go.Proofs.YtlobjaanabepgaaDoor
