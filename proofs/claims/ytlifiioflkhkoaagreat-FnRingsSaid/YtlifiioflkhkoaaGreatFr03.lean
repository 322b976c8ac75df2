/- A Hinter: its datum, how it lies in memory, the laws' own functions on it. Conditions: as each states. -/
import Derived.OneCell
import Derived.Test.YtlifiioflkhkoaaGreatFr02
namespace Go.Proofs.YtlifiioflkhkoaaGreat
open Go.RowKit
set_option linter.unusedVariables false
set_option maxRecDepth 100000

structure HinterD where
  size : Int
  orig : List (Int × Int)
  now : List (Int × Int)
  tx : List (Bool)
  ty : List (Bool)
  ends : List (Int)
  values : List (Int)
  stack : List (Int)
  axisY : Bool
  ref : Int
  state : Int
  cut : Int
  least : Int
  deriving DecidableEq

structure HinterH where
  orig : Hd
  now : Hd
  tx : Hd
  ty : Hd
  ends : Hd
  values : Hd
  stack : Hd

def HinterRd (w : World) (lo hi : Nat) (d : HinterD) (h : HinterH) : Prop := RdS 2 (FlatR ptC) w lo hi h.orig.A h.orig.n d.orig ∧ RdS 2 (FlatR ptC) w lo hi h.now.A h.now.n d.now ∧ RdS 1 (FlatR boolC) w lo hi h.tx.A h.tx.n d.tx ∧ RdS 1 (FlatR boolC) w lo hi h.ty.A h.ty.n d.ty ∧ RdS 1 (FlatR intC) w lo hi h.ends.A h.ends.n d.ends ∧ RdS 1 (FlatR intC) w lo hi h.values.A h.values.n d.values ∧ RdS 1 (FlatR intC) w lo hi h.stack.A h.stack.n d.stack
theorem HinterRd.frame {w w' : World} {lo hi : Nat} {d : HinterD} {h : HinterH} (r : HinterRd w lo hi d h) (s : SameB lo hi w w') : HinterRd w' lo hi d h := by
  obtain ⟨r0, r1, r2, r3, r4, r5, r6⟩ := r
  exact ⟨r0.frame (good_flat _) s, r1.frame (good_flat _) s, r2.frame (good_flat _) s, r3.frame (good_flat _) s, r4.frame (good_flat _) s, r5.frame (good_flat _) s, r6.frame (good_flat _) s⟩
theorem HinterRd.wide {w : World} {lo hi lo' hi' : Nat} {d : HinterD} {h : HinterH} (r : HinterRd w lo hi d h) (h1 : lo' ≤ lo) (h2 : hi ≤ hi') : HinterRd w lo' hi' d h := by
  obtain ⟨r0, r1, r2, r3, r4, r5, r6⟩ := r
  exact ⟨r0.wide (good_flat _) h1 h2, r1.wide (good_flat _) h1 h2, r2.wide (good_flat _) h1 h2, r3.wide (good_flat _) h1 h2, r4.wide (good_flat _) h1 h2, r5.wide (good_flat _) h1 h2, r6.wide (good_flat _) h1 h2⟩
def HinterH.small (h : HinterH) (b : Nat) : Prop := h.orig.n ≤ b ∧ h.now.n ≤ b ∧ h.tx.n ≤ b ∧ h.ty.n ≤ b ∧ h.ends.n ≤ b ∧ h.values.n ≤ b ∧ h.stack.n ≤ b

theorem HinterH.small.mono {h : HinterH} {a b : Nat} (r : h.small a) (hab : a ≤ b) : h.small b := by
  obtain ⟨r0, r1, r2, r3, r4, r5, r6⟩ := r
  exact ⟨Nat.le_trans r0 hab, Nat.le_trans r1 hab, Nat.le_trans r2 hab, Nat.le_trans r3 hab, Nat.le_trans r4 hab, Nat.le_trans r5 hab, Nat.le_trans r6 hab⟩

theorem heap_new2 (w : World) (a b : Obj) : ((w.alloc a).alloc b).heap[w.heap.size]? = some a ∧ ((w.alloc a).alloc b).heap[w.heap.size + 1]? = some b := by
  have h1 := heap_alloc_new w a
  have h2 := heap_alloc_new (w.alloc a) b
  have s1 : (w.alloc a).heap.size = w.heap.size + 1 := by simp
  rw [s1] at h2
  exact ⟨(Below.heap_alloc _ b _ (by omega)).trans h1, h2⟩
end Go.Proofs.YtlifiioflkhkoaaGreat

