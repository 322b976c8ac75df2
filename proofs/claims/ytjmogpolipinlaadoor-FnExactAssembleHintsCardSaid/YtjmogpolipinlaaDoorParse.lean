/- The walks of the loops that read the instructions of a program. Conditions: as each states. -/
import Derived.Test.YtjmogpolipinlaaDoorHint
import Derived.RegionTactic
import Derived.ChangeAlike
import Derived.Outline
namespace Go.Proofs.YtjmogpolipinlaaDoor
open Go.RowKit
set_option linter.unusedVariables false
set_option maxRecDepth 100000

theorem elemHint : Elem Tryd.prog 29 35 2 16 := elem_mk (z := .agg #[.int .i64 0, .int .i64 0]) Tryd.underlying29 (by kernel_rfl) rfl (by omega)

theorem l19Bytes_any (c : Int) (w : World) :
    Calls Tryd.prog 50 #[.int .i64 c] w fun e w' => e = .returned (.int .i64 (opBytes c)) ∧ w = w' := by
  by_cases h1 : c = 39 ∨ c = 40 ∨ c = 41 ∨ c = 42 ∨ c = 43 ∨ c = 44
  · rcases h1 with rfl | rfl | rfl | rfl | rfl | rfl
    all_goals
      go_enter Tryd.func50, Tryd.ntmps50
      go_wp2
      go_ret
      exact ⟨by simp [opBytes], rfl⟩
  · have t1 : (c == 39) = false := by simp; omega
    have t2 : (c == 40) = false := by simp; omega
    have t3 : (c == 41) = false := by simp; omega
    have t4 : (c == 42) = false := by simp; omega
    have t5 : (c == 43) = false := by simp; omega
    have t6 : (c == 44) = false := by simp; omega
    have h2 : opBytes c = 0 := by unfold opBytes; rw [if_neg (by omega), if_neg (by omega)]
    rw [h2]
    clear h1 h2
    go_enter Tryd.func50, Tryd.ntmps50
    go_wp2
    go_ret
    exact ⟨rfl, rfl⟩

set_option maxHeartbeats 4000000 in
theorem l19List_any (s : ByteArray) (w : World) (hs : s.size ≤ 1048576) :
    Calls Tryd.prog 48 #[.string s] w fun e w' => ∃ (r : Option (List (Int × Int))) (A : Option Addr) (c : Nat), r = parse s ∧
      e = .returned (.tuple #[.slice A (r.getD []).length c, .bool r.isSome]) ∧ w'.ownsRow w.heap.size 35 2 (.slice A (r.getD []).length c) (r.getD []).length (hintCells (r.getD [])) ∧ Below w.heap.size w w' := by
  go_enter Tryd.func48, Tryd.ntmps48
  go_wp2
  go_loopw [4, 5] (fun out i wr => ∃ (k : Nat) (L : List (Int × Int)) (A : Option Addr) (c : Nat), i = .int .i64 k ∧ ParseTo s k L ∧ out = .slice A L.length c ∧ wr.ownsRow w.heap.size 35 2 (.slice A L.length c) L.length (hintCells L) ∧ Below w.heap.size w wr) (fun out i wr => s.size - (intOf i).toNat)
  case atStart => exact ⟨0, [], _, _, rfl, ParseTo.start s, rfl, World.ownsRow_lit w _ _ (Nat.le_refl _) (by decide) (by simp), (Below.refl _ _).alloc (Nat.le_refl _) _⟩
  case round =>
    obtain ⟨k, L, A, c, rfl, hp, rfl, hown, hbel⟩ := hrel
    have hk := hp.1
    have hL := hp.2.1
    replace hp := Lib.hid hp
    replace hown := Lib.hid hown
    have hsz := hbel.size
    by_cases hlt : k < s.size
    · obtain ⟨b, hbk⟩ : ∃ b, s[k] = b := ⟨_, rfl⟩
      have hb256 : b.toNat < 256 := b.toNat_lt
      have hba : byteAt s k = b := by rw [← hbk]; exact byteAt_get s k hlt
      replace hba := Lib.hid hba
      rcases opBytes_cases (b.toNat : Int) with hop | hop | hop
      · have hod : operandAt s k = 0 := by simp [operandAt, hba.out, hop]
        replace hod := Lib.hid hod
        by_cases hv : validHint (b.toNat : Int) 0 = true
        · go_wp2_with (first | (go_at_call 50; refine (l19Bytes_any _ _).mono ?_; rintro e w1 ⟨rfl, rfl⟩) | (go_at_call 61; refine (l19Hint_any _ _ _).mono ?_; rintro e w1 ⟨rfl, hb1⟩; obtain ⟨hc1, hf1⟩ := bcell hb1; have hsz1 : w.heap.size ≤ w1.heap.size := by { have := hb1.size; simp at this; omega }) | (at_builtin; refine wpApp rfl (.tmp 56) (.tmp 58) elemHint rfl (v := .slice A L.length c) (n := L.length) (xs := hintCells L) rfl ((own_below (hown.out.alloc _) hb1).alloc _) rfl (src_new (cs := [.int .i64 b.toNat, .int .i64 0]) rfl (by simp [Value.oneCell'])) (by omega) (by omega) (by simp; omega) (L.length + 1) rfl ?_; intro A' c' w2 hown2 hb2; replace hown2 := Lib.hid hown2; clear hc1 hf1))
          have hB1 : Below w.heap.size w w1 := (hbel.alloc hsz _).trans (hb1.mono (by simp; omega))
          have hB2 := (hB1.alloc hsz1 _).trans hb2
          go_roundw
          case rel =>
            have hst := hp.out.step hlt (by rw [hba.out, hop]; omega) (by rw [hba.out, hod.out]; exact hv)
            rw [hba.out, hod.out, hop] at hst
            refine ⟨k + 1 + 0, _, A', c', by go_num, hst, by simp, ?_, hB2⟩
            rw [hintCells_append, List.length_append]
            exact hown2.out
          case measure => simp [intOf]; omega
        · have hv' : validHint (b.toNat : Int) 0 = false := by simpa using hv
          clear hv
          go_wp2_with (first | (go_at_call 50; refine (l19Bytes_any _ _).mono ?_; rintro e w1 ⟨rfl, rfl⟩) | (go_at_call 61; refine (l19Hint_any _ _ _).mono ?_; rintro e w1 ⟨rfl, hb1⟩; obtain ⟨hc1, hf1⟩ := bcell hb1; have hsz1 : w.heap.size ≤ w1.heap.size := by { have := hb1.size; simp at this; omega }))
          go_ret2
          have hB1 : Below w.heap.size w w1 := (hbel.alloc hsz _).trans (hb1.mono (by simp; omega))
          exact ⟨none, none, 0, (hp.out.bad hlt (by rw [hba.out, hop]; omega) (by rw [hba.out, hod.out]; exact hv')).symm, rfl, World.ownsRow_nil _ _ _ _, hB1⟩
      · by_cases hlt1 : k + 1 < s.size
        · obtain ⟨b1, hbk1⟩ : ∃ b, s[k + 1] = b := ⟨_, rfl⟩
          have hb1256 : b1.toNat < 256 := b1.toNat_lt
          have hba1 : byteAt s (k + 1) = b1 := by rw [← hbk1]; exact byteAt_get s (k + 1) hlt1
          have hod : operandAt s k = sb b1 := by simp [operandAt, hba.out, hop, hba1]
          clear hba1
          replace hod := Lib.hid hod
          have hw8 := sb_wrap b1
          obtain ⟨hw1, hw2⟩ := sb_bd b1
          by_cases hv : validHint (b.toNat : Int) (sb b1) = true
          · go_wp2_with (first | (go_at_call 50; refine (l19Bytes_any _ _).mono ?_; rintro e w1 ⟨rfl, rfl⟩) | (go_at_call 61; refine (l19Hint_any _ _ _).mono ?_; rintro e w1 ⟨rfl, hb1⟩; obtain ⟨hc1, hf1⟩ := bcell hb1; have hsz1 : w.heap.size ≤ w1.heap.size := by { have := hb1.size; simp at this; omega }) | (at_builtin; refine wpApp rfl (.tmp 56) (.tmp 58) elemHint rfl (v := .slice A L.length c) (n := L.length) (xs := hintCells L) rfl ((own_below (hown.out.alloc _) hb1).alloc _) rfl (src_new (cs := [.int .i64 b.toNat, .int .i64 (sb b1)]) rfl (by simp [Value.oneCell'])) (by omega) (by omega) (by simp; omega) (L.length + 1) rfl ?_; intro A' c' w2 hown2 hb2; replace hown2 := Lib.hid hown2; clear hc1 hf1))
            have hB1 : Below w.heap.size w w1 := (hbel.alloc hsz _).trans (hb1.mono (by simp; omega))
            have hB2 := (hB1.alloc hsz1 _).trans hb2
            go_roundw
            case rel =>
              have hst := hp.out.step hlt (by rw [hba.out, hop]; omega) (by rw [hba.out, hod.out]; exact hv)
              rw [hba.out, hod.out, hop] at hst
              refine ⟨k + 1 + 1, _, A', c', by go_num, hst, by simp, ?_, hB2⟩
              rw [hintCells_append, List.length_append]
              exact hown2.out
            case measure => simp [intOf]; omega
          · have hv' : validHint (b.toNat : Int) (sb b1) = false := by simpa using hv
            clear hv
            go_wp2_with (first | (go_at_call 50; refine (l19Bytes_any _ _).mono ?_; rintro e w1 ⟨rfl, rfl⟩) | (go_at_call 61; refine (l19Hint_any _ _ _).mono ?_; rintro e w1 ⟨rfl, hb1⟩; obtain ⟨hc1, hf1⟩ := bcell hb1; have hsz1 : w.heap.size ≤ w1.heap.size := by { have := hb1.size; simp at this; omega }))
            go_ret2
            have hB1 : Below w.heap.size w w1 := (hbel.alloc hsz _).trans (hb1.mono (by simp; omega))
            exact ⟨none, none, 0, (hp.out.bad hlt (by rw [hba.out, hop]; omega) (by rw [hba.out, hod.out]; exact hv')).symm, rfl, World.ownsRow_nil _ _ _ _, hB1⟩
        · go_wp2_with (first | (go_at_call 50; refine (l19Bytes_any _ _).mono ?_; rintro e w1 ⟨rfl, rfl⟩) | (go_at_call 61; refine (l19Hint_any _ _ _).mono ?_; rintro e w1 ⟨rfl, hb1⟩; obtain ⟨hc1, hf1⟩ := bcell hb1; have hsz1 : w.heap.size ≤ w1.heap.size := by { have := hb1.size; simp at this; omega }))
          go_ret2
          exact ⟨none, none, 0, (hp.out.short hlt (by rw [hba.out, hop]; omega)).symm, rfl, World.ownsRow_nil _ _ _ _, hbel.alloc hsz _⟩
      · by_cases hlt2 : k + 2 < s.size
        · obtain ⟨b1, hbk1⟩ : ∃ b, s[k + 1] = b := ⟨_, rfl⟩
          have hb1256 : b1.toNat < 256 := b1.toNat_lt
          have hba1 : byteAt s (k + 1) = b1 := by rw [← hbk1]; exact byteAt_get s (k + 1) (by omega)
          obtain ⟨b2, hbk2⟩ : ∃ b, s[k + 2] = b := ⟨_, rfl⟩
          have hb2256 : b2.toNat < 256 := b2.toNat_lt
          have hbk3 : s[k + 1 + 1] = b2 := hbk2
          have hi1 : (0 : Int) ≤ (k : Int) + 1 ∧ (k : Int) + 1 < (s.size : Int) := by omega
          have hi2 : (0 : Int) ≤ (k : Int) + 1 + 1 ∧ (k : Int) + 1 + 1 < (s.size : Int) := by omega
          have hba2 : byteAt s (k + 2) = b2 := by rw [← hbk2]; exact byteAt_get s (k + 2) (by omega)
          have hod : operandAt s k = sb b1 * 256 + b2.toNat := by simp [operandAt, hba.out, hop, hba1, hba2]
          clear hba1 hba2
          replace hod := Lib.hid hod
          have hw8 := sb_wrap b1
          obtain ⟨hw1, hw2⟩ := sb_bd b1
          by_cases hv : validHint (b.toNat : Int) (sb b1 * 256 + b2.toNat) = true
          · go_wp2_with (first | (go_at_call 50; refine (l19Bytes_any _ _).mono ?_; rintro e w1 ⟨rfl, rfl⟩) | (go_at_call 61; refine (l19Hint_any _ _ _).mono ?_; rintro e w1 ⟨rfl, hb1⟩; obtain ⟨hc1, hf1⟩ := bcell hb1; have hsz1 : w.heap.size ≤ w1.heap.size := by { have := hb1.size; simp at this; omega }))
            go_region
            all_goals go_wp2_with (first | (go_at_call 50; refine (l19Bytes_any _ _).mono ?_; rintro e w1 ⟨rfl, rfl⟩) | (go_at_call 61; refine (l19Hint_any _ _ _).mono ?_; rintro e w1 ⟨rfl, hb1⟩; obtain ⟨hc1, hf1⟩ := bcell hb1; have hsz1 : w.heap.size ≤ w1.heap.size := by { have := hb1.size; simp at this; omega }) | (at_builtin; refine wpApp rfl (.tmp 56) (.tmp 58) elemHint rfl (v := .slice A L.length c) (n := L.length) (xs := hintCells L) rfl ((own_below ((hown.out.alloc _).drew) hb1).alloc _) rfl (src_new (cs := [.int .i64 b.toNat, .int .i64 (sb b1 * 256 + b2.toNat)]) rfl (by simp [Value.oneCell'])) (by omega) (by omega) (by simp; omega) (L.length + 1) rfl ?_; intro A' c' w2 hown2 hb2; replace hown2 := Lib.hid hown2; clear hc1 hf1))
            have hB1 : Below w.heap.size w w1 := ((hbel.alloc hsz _).drew).trans (hb1.mono (by simp; omega))
            have hB2 := (hB1.alloc hsz1 _).trans hb2
            go_roundw
            case rel =>
              have hst := hp.out.step hlt (by rw [hba.out, hop]; omega) (by rw [hba.out, hod.out]; exact hv)
              rw [hba.out, hod.out, hop] at hst
              refine ⟨k + 1 + 2, _, A', c', by go_num, hst, by simp, ?_, hB2⟩
              rw [hintCells_append, List.length_append]
              exact hown2.out
            case measure => simp [intOf]; omega
          · have hv' : validHint (b.toNat : Int) (sb b1 * 256 + b2.toNat) = false := by simpa using hv
            clear hv
            go_wp2_with (first | (go_at_call 50; refine (l19Bytes_any _ _).mono ?_; rintro e w1 ⟨rfl, rfl⟩) | (go_at_call 61; refine (l19Hint_any _ _ _).mono ?_; rintro e w1 ⟨rfl, hb1⟩; obtain ⟨hc1, hf1⟩ := bcell hb1; have hsz1 : w.heap.size ≤ w1.heap.size := by { have := hb1.size; simp at this; omega }))
            go_region
            all_goals go_wp2_with (first | (go_at_call 50; refine (l19Bytes_any _ _).mono ?_; rintro e w1 ⟨rfl, rfl⟩) | (go_at_call 61; refine (l19Hint_any _ _ _).mono ?_; rintro e w1 ⟨rfl, hb1⟩; obtain ⟨hc1, hf1⟩ := bcell hb1; have hsz1 : w.heap.size ≤ w1.heap.size := by { have := hb1.size; simp at this; omega }))
            go_ret2
            have hB1 : Below w.heap.size w w1 := ((hbel.alloc hsz _).drew).trans (hb1.mono (by simp; omega))
            exact ⟨none, none, 0, (hp.out.bad hlt (by rw [hba.out, hop]; omega) (by rw [hba.out, hod.out]; exact hv')).symm, rfl, World.ownsRow_nil _ _ _ _, hB1⟩
        · go_wp2_with (first | (go_at_call 50; refine (l19Bytes_any _ _).mono ?_; rintro e w1 ⟨rfl, rfl⟩) | (go_at_call 61; refine (l19Hint_any _ _ _).mono ?_; rintro e w1 ⟨rfl, hb1⟩; obtain ⟨hc1, hf1⟩ := bcell hb1; have hsz1 : w.heap.size ≤ w1.heap.size := by { have := hb1.size; simp at this; omega }))
          go_ret2
          exact ⟨none, none, 0, (hp.out.short hlt (by rw [hba.out, hop]; omega)).symm, rfl, World.ownsRow_nil _ _ _ _, hbel.alloc hsz _⟩
    · go_wp2_with fail
      go_ret2
      have hd := hp.out.done (by omega)
      exact ⟨some L, A, c, hd.symm, rfl, hown.out, hbel⟩
end Go.Proofs.YtjmogpolipinlaaDoor
