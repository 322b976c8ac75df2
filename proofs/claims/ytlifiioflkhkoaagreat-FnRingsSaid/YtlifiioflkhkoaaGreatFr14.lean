/- Ordered points: l13Before, l13Put. Conditions: as each states. -/
import Derived.RegionTactic
import Derived.ChangeAlike
import Derived.Outline
import Derived.BigQuiet
import Derived.Deep.QuietTactic
import Derived.WalkSmall
import Derived.Test.YtlifiioflkhkoaaGreatFr13
import Derived.Test.YtlifiioflkhkoaaGreatFr11
import Derived.Test.YtlifiioflkhkoaaGreatFr02
import Derived.Test.YtlifiioflkhkoaaGreatProg
namespace Go.Proofs.YtlifiioflkhkoaaGreat
open Go.RowKit
set_option linter.unusedVariables false
set_option maxRecDepth 100000

theorem ptc_one' (a : Pn) : ∀ u ∈ ptC a, u.oneCell' = true := by
  intro u hu
  simp only [ptC, List.mem_cons, List.not_mem_nil, or_false] at hu
  rcases hu with rfl | rfl <;> rfl

end Go.Proofs.YtlifiioflkhkoaaGreat

/- Functions that compare two slices: the result says whether the lists are one. Conditions: as each states. -/
namespace Go.Proofs.YtlifiioflkhkoaaGreat
open Go.RowKit
set_option linter.unusedVariables false
set_option maxRecDepth 100000

set_option maxHeartbeats 1000000 in
theorem equalPt_any (A A' : Option Addr) (n c n' c' lo hi lo' hi' : Nat) (L M : List (Int × Int)) (b : Bool) (hb : b = decide (L = M)) (w : World) (h1 : RdS 2 (FlatR ptC) w lo hi A n L) (h2 : RdS 2 (FlatR ptC) w lo' hi' A' n' M) (hh1 : hi ≤ w.heap.size) (hh2 : hi' ≤ w.heap.size) (hn : n ≤ 1000000000) (hn' : n' ≤ 1000000000) :
    Calls Tryz.prog 50 #[.slice A n c, .slice A' n' c'] w fun e w' => e = .returned (.bool b) ∧ ∃ q, w' = w.drewN q := by
  by_cases hl : n = n'
  · subst hl
    have hfin := Lib.hid (fun h => take_eq_done (n := n) h h1.1 h2.1)
    replace hb := Lib.hid hb
    replace h1 := Lib.hid h1
    replace h2 := Lib.hid h2
    go_enter Tryz.func50, Tryz.ntmps50
    go_wp2_with fail
    go_loopw [13] (fun i wr => ∃ k q : Nat, i = .int .i64 k ∧ k ≤ n ∧ L.take k = M.take k ∧ wr = w.drewN q) (fun i wr => n - (intOf i).toNat)
    case atStart => exact ⟨0, 0, rfl, Nat.zero_le _, rfl, rfl⟩
    case round =>
      obtain ⟨k, q, rfl, hk, htk, rfl⟩ := hrel
      replace htk := Lib.hid htk
      by_cases hlt : k < n
      · obtain ⟨b1, o1, ⟨x0, x1⟩, rfl, hb0, hbw, hja, hcs⟩ := h1.out.at hlt
        obtain ⟨b2, o2, ⟨y0, y1⟩, rfl, hb0', hbw', hja', hcs'⟩ := h2.out.at hlt
        have q0 := hcs 0 _ rfl
        have p0 := hcs' 0 _ rfl
        have q1 := hcs 1 _ rfl
        have p1 := hcs' 1 _ rfl
        simp only [Nat.add_zero] at q0 p0 q1 p1
        have hw1 : b1 < w.heap.size := by omega
        have hw2 : b2 < w.heap.size := by omega
        clear hcs hcs' hb0 hb0' hbw hbw' hh1 hh2 h1 h2
        have hi : (0 : Int) ≤ (k : Int) ∧ (k : Int) < (n : Int) := by omega
        by_cases e0 : x0 = y0
        rotate_left
        · have hbf : b = false := by rw [hb.out, decide_eq_false_iff_not]; exact ne_of_at hja hja' (by simp [e0])
          have t0 : (x0 == y0) = false := by simp [e0]
          subst hbf
          clear e0 hja hja'
          go_wp2_with fail
          go_quiet (fail)
          go_wp2_with fail
          go_ret
          exact ⟨rfl, _, by rw [World.drewN_drewN]⟩
        subst e0
        by_cases e1 : x1 = y1
        rotate_left
        · have hbf : b = false := by rw [hb.out, decide_eq_false_iff_not]; exact ne_of_at hja hja' (by simp [e1])
          have t1 : (x1 == y1) = false := by simp [e1]
          subst hbf
          clear e1 hja hja'
          go_wp2_with fail
          go_quiet (fail)
          go_wp2_with fail
          go_ret
          exact ⟨rfl, _, by rw [World.drewN_drewN]⟩
        subst e1
        replace hja := Lib.hid hja
        replace hja' := Lib.hid hja'
        go_wp2_with fail
        go_quiet (fail)
        go_wp2_with fail
        go_roundw
        case rel => exact ⟨k + 1, _, by go_num, by omega, take_eq_step htk.out hja.out hja'.out, rfl⟩
        case measure => simp [intOf]; omega
      · have hkn : k = n := by omega
        have hbt : b = true := by rw [hb.out, decide_eq_true_iff]; exact hfin.out (by rw [← hkn]; exact htk.out)
        subst hbt
        replace hkn := Lib.hid hkn
        go_wp2_with fail
        go_ret
        exact ⟨rfl, _, rfl⟩
  · have hbf : b = false := by
      rw [hb, decide_eq_false_iff_not]; rintro rfl; exact hl (h1.1.symm.trans h2.1)
    have t1 : ((n : Int) == (n' : Int)) = false := by simp; omega
    have t2 : ((n : Int) != (n' : Int)) = true := by simp; omega
    subst hbf
    clear hl h1 h2 hb
    go_enter Tryz.func50, Tryz.ntmps50
    go_wp2_with fail
    go_ret
    exact ⟨rfl, 0, rfl⟩

end Go.Proofs.YtlifiioflkhkoaaGreat

