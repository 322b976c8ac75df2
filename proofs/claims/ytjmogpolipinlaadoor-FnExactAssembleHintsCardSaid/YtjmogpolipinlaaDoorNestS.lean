/- The walk of the reference's function that says whether blocks are nested. Conditions: as it states. -/
import Derived.Test.YtjmogpolipinlaaDoorNest
namespace Go.Proofs.YtjmogpolipinlaaDoor
open Go.RowKit
set_option linter.unusedVariables false
set_option maxRecDepth 100000

theorem elemI64 : Elem Tryd.prog 85 2 1 8 := elem_mk (z := .int .i64 0) Tryd.underlying85 (by kernel_rfl) rfl (by omega)
theorem nestB_none {codes : List Int} (h : pAll codes = none) : nestB codes = false := by simp [nestB, h]
theorem nestB_some {codes : List Int} {ps : List Int} {st : List (Nat × Nat)} (h : pAll codes = some (ps, st)) : nestB codes = st.isEmpty := by
  simp only [nestB, h]; cases st <;> rfl

set_option maxRecDepth 100000 in
set_option maxHeartbeats 8000000 in
theorem l19Nested_any (A : Option Addr) (n c : Nat) (L : List (Int × Int)) (codes : List Int) (w : World) (hr : RdH w A n L) (hn : n ≤ 1000000000) (hcodes : codes = L.map (·.1)) :
    Calls Tryd.prog 49 #[.slice A n c] w fun e w' => e = .returned (.bool (nestB codes)) ∧ Below w.heap.size w w' := by
  have hlen : codes.length = n := by rw [hcodes, List.length_map, hr.1]
  replace hcodes := Lib.hid hcodes
  replace hlen := Lib.hid hlen
  go_enter Tryd.func49, Tryd.ntmps49
  go_wp2_with fail
  go_loopw [3, 4] (fun vo i wr => ∃ (k : Nat) (ps : List Int) (st : List (Nat × Nat)) (Ao : Option Addr) (co : Nat), i = .int .i64 k ∧ k ≤ n ∧ PInv codes k ps st ∧ vo = .slice Ao st.length co ∧
      wr.ownsRow w.heap.size 2 1 (.slice Ao st.length co) st.length (intV (st.map (phi codes)).reverse) ∧ Below w.heap.size w wr) (fun vo i wr => n - (intOf i).toNat)
  case atStart =>
    exact ⟨0, _, [], _, _, rfl, Nat.zero_le _, PInv.start codes, rfl, World.ownsRow_lit w _ _ (Nat.le_refl _) (by decide) (by simp), (Below.refl _ _).alloc (Nat.le_refl _) _⟩
  case round =>
    obtain ⟨k, ps, st, Ao, co, rfl, hk, hinv, rfl, hO, hbel⟩ := hrel
    have hsz := hbel.size
    by_cases hlt : k < n
    · have hkc : k < codes.length := by rw [hlen.out]; exact hlt
      obtain ⟨hl, hcs⟩ := hr
      obtain ⟨b, off, rfl, hb, hcs⟩ := hcs (by omega)
      have h1 : wr.cell? ⟨b, off + k * 2, none⟩ = some (.int .i64 (codes.getD k 0)) := by
        rw [hbel.cell (p := ⟨b, off + k * 2, none⟩) hb, (hcs k hlt).1, hcodes.out]
        simp [List.getD_eq_getElem?_getD, hl, hlt]
      replace hcs := Lib.hid hcs
      replace hl := Lib.hid hl
      have hsm := hinv.small
      replace hinv := Lib.hid hinv
      replace hO := Lib.hid hO
      obtain ⟨cd, hcd⟩ : ∃ cd, cd = codes.getD k 0 := ⟨_, rfl⟩
      rw [← hcd] at h1
      replace hcd := Lib.hid hcd
      have hbw : b < wr.heap.size := by omega
      by_cases hpush : cd = 35 ∨ cd = 44
      · rcases hpush with rfl | rfl
        · by_cases hs6 : st.length + 1 ≤ 6
          · go_wp2_with (at_builtin; refine wpApp rfl (.tmp 23) (.tmp 29) elemI64 rfl (base := w.heap.size) (v := .slice Ao st.length co) rfl (hO.out.alloc _) rfl (src_at (cs := [.int .i64 35]) rfl (by simp [Value.oneCell']) (by simp)) (by omega) (by omega) (by simp; omega) (st.length + 1) rfl ?_; intro A1 c1 w1 hO1 hb1)
            replace hO1 := Lib.hid hO1
            go_roundw
            case rel => exact ⟨k + 1, _, (k, k) :: st, A1, c1, by go_num, by omega, hinv.out.push (by rw [← hcd.out]; simp) hs6, rfl, by rw [intV_push codes st (k, k) 35 (by rw [phi_new (by rw [← hcd.out]; simp), ← hcd.out])]; exact hO1.out, (hbel.alloc hsz _).trans hb1⟩
            case measure => simp [intOf]; omega
          · go_wp2_with (at_builtin; refine wpApp rfl (.tmp 23) (.tmp 29) elemI64 rfl (base := w.heap.size) (v := .slice Ao st.length co) rfl (hO.out.alloc _) rfl (src_at (cs := [.int .i64 35]) rfl (by simp [Value.oneCell']) (by simp)) (by omega) (by omega) (by simp; omega) (st.length + 1) rfl ?_; intro A1 c1 w1 hO1 hb1)
            go_ret
            exact ⟨ret_bool (nestB_none (hinv.out.push_no hkc (by rw [← hcd.out]; simp) (by omega))).symm, (hbel.alloc hsz _).trans hb1⟩
        · by_cases hs6 : st.length + 1 ≤ 6
          · go_wp2_with (at_builtin; refine wpApp rfl (.tmp 23) (.tmp 29) elemI64 rfl (base := w.heap.size) (v := .slice Ao st.length co) rfl (hO.out.alloc _) rfl (src_at (cs := [.int .i64 44]) rfl (by simp [Value.oneCell']) (by simp)) (by omega) (by omega) (by simp; omega) (st.length + 1) rfl ?_; intro A1 c1 w1 hO1 hb1)
            replace hO1 := Lib.hid hO1
            go_roundw
            case rel => exact ⟨k + 1, _, (k, k) :: st, A1, c1, by go_num, by omega, hinv.out.push (by rw [← hcd.out]; simp) hs6, rfl, by rw [intV_push codes st (k, k) 44 (by rw [phi_new (by rw [← hcd.out]; simp), ← hcd.out])]; exact hO1.out, (hbel.alloc hsz _).trans hb1⟩
            case measure => simp [intOf]; omega
          · go_wp2_with (at_builtin; refine wpApp rfl (.tmp 23) (.tmp 29) elemI64 rfl (base := w.heap.size) (v := .slice Ao st.length co) rfl (hO.out.alloc _) rfl (src_at (cs := [.int .i64 44]) rfl (by simp [Value.oneCell']) (by simp)) (by omega) (by omega) (by simp; omega) (st.length + 1) rfl ?_; intro A1 c1 w1 hO1 hb1)
            go_ret
            exact ⟨ret_bool (nestB_none (hinv.out.push_no hkc (by rw [← hcd.out]; simp) (by omega))).symm, (hbel.alloc hsz _).trans hb1⟩
      have hcp1 : (cd == 35) = false := by simp; omega
      have hcp2 : (cd == 44) = false := by simp; omega
      clear hpush
      have hne35 : codes.getD k 0 ≠ 35 := by rw [← hcd.out]; simpa using hcp1
      have hne44 : codes.getD k 0 ≠ 44 := by rw [← hcd.out]; simpa using hcp2
      replace hne35 := Lib.hid hne35
      replace hne44 := Lib.hid hne44
      by_cases hnop : cd = 36 ∨ cd = 37 ∨ cd = 38
      · rcases st with _ | ⟨⟨o, l⟩, r⟩
        · rcases hnop with rfl | rfl | rfl
          · go_wp2_with fail
            go_ret
            exact ⟨ret_bool (nestB_none (hinv.out.else_nil hkc (by rw [← hcd.out]))).symm, hbel⟩
          · go_wp2_with fail
            go_ret
            exact ⟨ret_bool (nestB_none (hinv.out.end_nil hkc (by rw [← hcd.out]; simp))).symm, hbel⟩
          · go_wp2_with fail
            go_ret
            exact ⟨ret_bool (nestB_none (hinv.out.end_nil hkc (by rw [← hcd.out]; simp))).symm, hbel⟩
        · obtain ⟨go, hgo, hgoB, hgolt, hgoc, hocell, hofr⟩ := own_addr hO.out (by simp)
          subst hgo
          have hoc := hocell r.length (by simp)
          have hof := hofr r.length
          rw [intV_top] at hoc
          have hol := hinv.out.lt (o, l) (by simp)
          obtain ⟨hok, hlk⟩ := hol
          dsimp only at hok hlk
          have hcode := hinv.out.code (o, l) (by simp)
          have p35 := Lib.hid (phi_35 hcode)
          have p44 := Lib.hid (phi_44 hcode)
          clear hocell hofr hcode
          obtain ⟨t, ht⟩ : ∃ t, t = phi codes (o, l) := ⟨_, rfl⟩
          rw [← ht] at hoc p35 p44
          have hr5 : r.length ≤ 5 := by simp at hsm; omega
          have hl0 : ((r.length : Int) + 1 == 0) = false := by simp; omega
          have hx4 : (r.length : Int) ≤ (co : Int) := by simp at hgoc; omega
          replace ht := Lib.hid ht
          rcases hnop with rfl | rfl | rfl
          · by_cases ht1 : t = 35
            · have ht2 := p35.out.1 ht1
              replace ht2 := Lib.hid ht2
              subst ht1
              go_wp2_with fail
              go_roundw
              case rel =>
                have hst := (hO.out.stored r.length (.int .i64 36)).1
                rw [intV_set_top codes r (o, l) (o, k) 36 (phi_else ht2.out.1 (by omega))] at hst
                exact ⟨k + 1, _, (o, k) :: r, _, co, by go_num, by omega, hinv.out.else_yes (by rw [← hcd.out]) ht2.out.1 ht2.out.2, rfl, hst, hbel.setCell hgoB _⟩
              case measure => simp [intOf]; omega
            · have ht3 : (t == 35) = false := by simp [ht1]
              have ht2 := Lib.hid (fun h => ht1 (p35.out.2 h))
              clear ht1
              go_wp2_with fail
              go_ret
              exact ⟨ret_bool (nestB_none (hinv.out.else_no hkc (by rw [← hcd.out]) ht2.out)).symm, hbel⟩
          · by_cases ht1 : t = 44
            · have ht2 := Lib.hid (p44.out.1 ht1)
              subst ht1
              go_wp2_with fail
              go_ret
              exact ⟨ret_bool (nestB_none (hinv.out.end_no hkc (by rw [← hcd.out]; simp) (by rw [← hcd.out]; simpa using ht2.out))).symm, hbel⟩
            · have ht3 : (t == 44) = false := by simp [ht1]
              have ht2 := Lib.hid (show codes.getD o 0 = 35 from Decidable.not_not.1 (fun h => ht1 (p44.out.2 h)))
              clear ht1
              go_wp2_with fail
              go_roundw
              case rel =>
                exact ⟨k + 1, _, r, _, co, by go_num, by omega, hinv.out.end_yes (by rw [← hcd.out]; simp) (by rw [← hcd.out]; simpa using ht2.out), rfl, own_popI hO.out, hbel⟩
              case measure => simp [intOf]; omega
          · by_cases ht1 : t = 44
            · have ht2 := Lib.hid (p44.out.1 ht1)
              subst ht1
              go_wp2_with fail
              go_roundw
              case rel =>
                exact ⟨k + 1, _, r, _, co, by go_num, by omega, hinv.out.end_yes (by rw [← hcd.out]; simp) (by rw [← hcd.out]; simpa using ht2.out), rfl, own_popI hO.out, hbel⟩
              case measure => simp [intOf]; omega
            · have ht3 : (t == 44) = false := by simp [ht1]
              have ht2 := Lib.hid (show codes.getD o 0 = 35 from Decidable.not_not.1 (fun h => ht1 (p44.out.2 h)))
              clear ht1
              go_wp2_with fail
              go_ret
              exact ⟨ret_bool (nestB_none (hinv.out.end_no hkc (by rw [← hcd.out]; simp) (by rw [← hcd.out]; simpa using ht2.out))).symm, hbel⟩
      · have hn1 : (cd == 36) = false := by simp; omega
        have hn2 : (cd == 37) = false := by simp; omega
        have hn3 : (cd == 38) = false := by simp; omega
        clear hnop
        have hinv2 := hinv.out.other hne35.out hne44.out (by rw [← hcd.out]; simpa using hn1) (by rw [← hcd.out]; simpa using hn2) (by rw [← hcd.out]; simpa using hn3)
        replace hinv2 := Lib.hid hinv2
        go_wp2_with fail
        go_roundw
        case rel => exact ⟨k + 1, _, st, Ao, co, by go_num, by omega, hinv2.out, rfl, hO.out, hbel⟩
        case measure => simp [intOf]; omega
    · have hkn : k = codes.length := by rw [hlen.out]; omega
      replace hkn := Lib.hid hkn
      go_wp2_with fail
      go_ret
      have hto := hinv.to
      rw [hkn.out] at hto
      refine ⟨ret_bool ?_, hbel⟩
      rw [nestB_some hto]
      cases st <;> simp <;> omega
end Go.Proofs.YtjmogpolipinlaaDoor
