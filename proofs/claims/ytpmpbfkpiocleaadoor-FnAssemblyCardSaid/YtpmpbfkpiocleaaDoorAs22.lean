/- The walks over lists of instructions. Conditions: as each states. -/
import Derived.BigRegion
import Derived.Deep.QuietTactic
import Derived.RegionTactic
import Derived.ChangeAlike
import Derived.Outline
import Derived.Test.YtpmpbfkpiocleaaDoorAs21
import Derived.Test.YtpmpbfkpiocleaaDoorAs18
namespace Go.Proofs.YtpmpbfkpiocleaaDoor
open Go.RowKit
set_option linter.unusedVariables false
set_option maxRecDepth 100000

/-- a slice of instructions, read only -/
def RdH (w : World) (A : Option Addr) (n : Nat) (L : List (Int × Int)) : Prop :=
  L.length = n ∧ (0 < n → ∃ b off, A = some ⟨b, off, none⟩ ∧ b < w.heap.size ∧ ∀ j, j < n → w.cell? ⟨b, off + j * 2, none⟩ = some (.int .i64 (L.getD j (0, 0)).1) ∧ w.cell? ⟨b, off + j * 2 + 1, none⟩ = some (.int .i64 (L.getD j (0, 0)).2))

theorem RdH.below {w w' : World} {A : Option Addr} {n : Nat} {L : List (Int × Int)} (h : RdH w A n L) (hb : Below w.heap.size w w') : RdH w' A n L := by
  obtain ⟨h1, h2⟩ := h
  refine ⟨h1, fun hn => ?_⟩
  obtain ⟨b, off, hA, hlt, hc⟩ := h2 hn
  exact ⟨b, off, hA, Nat.lt_of_lt_of_le hlt hb.size, fun j hj => ⟨(hb.cell (p := ⟨b, off + j * 2, none⟩) hlt).trans (hc j hj).1, (hb.cell (p := ⟨b, off + j * 2 + 1, none⟩) hlt).trans (hc j hj).2⟩⟩

theorem elemInt : Elem Tryd.prog 41 3 1 8 := elem_mk (z := .int .i64 0) Tryd.underlying41 (by kernel_rfl) rfl (by omega)
theorem infoInt : (Tryd.prog.info? 3).map (fun i => (i.zero, i.size, i.bytes)) = some (some (.int .i64 0), 1, 8) := by kernel_rfl

theorem made_zeros (n : Nat) : (madeCells (Value.int .i64 0).cells (n * 1)).toList = intV (List.replicate n 0) := by
  have := toList_madeCells_one (.int .i64 0) (n * 1)
  simp only [Value.cells, Nat.mul_one] at this ⊢
  rw [this]; simp [intV]

set_option maxRecDepth 100000 in
set_option maxHeartbeats 8000000 in
theorem partnersOf_any (A : Option Addr) (n c : Nat) (L : List (Int × Int)) (codes : List Int) (w : World) (hr : RdH w A n L) (hn : n ≤ 1000000000) (hcodes : codes = L.map (·.1)) :
    Calls Tryd.prog 16 #[.slice A n c] w fun e w' =>
      (pAll codes = none ∧ e = .returned (.tuple #[.slice none 0 0, .bool false]) ∧ Below w.heap.size w w') ∨
      ∃ ps st g, pAll codes = some (ps, st) ∧ ps.length = n ∧ e = .returned (.tuple #[.slice (some ⟨g, 0, none⟩) n n, .bool (st.isEmpty)]) ∧ w'.ownsRow w.heap.size 3 1 (.slice (some ⟨g, 0, none⟩) n n) n (intV ps) ∧ Below w.heap.size w w' := by
  obtain ⟨i0, hi0, hz0, hs0, hby0⟩ := info_parts infoInt
  have hlen : codes.length = n := by rw [hcodes, List.length_map, hr.1]
  replace hcodes := Lib.hid hcodes
  replace hlen := Lib.hid hlen
  go_enter Tryd.func16, Tryd.ntmps16
  go_wp2_with (at_make; refine wpList_make_full _ rfl _ _ 41 rfl w.heap.size 3 i0 (.int .i64 0) 1 Tryd.underlying41 hi0 hz0 hs0 .i64 .i64 _ _ n rfl rfl rfl rfl (by rw [hby0]; omega) (by unfold maxLen; omega) (Nat.le_refl _) ?_; intro w0 hown0 hg0)
  have hb0 : Below w.heap.size w w0 := (Below.refl _ _).grown hg0 (Nat.le_refl _) (by simp)
  rw [made_zeros] at hown0
  replace hown0 := Lib.hid hown0
  clear hg0
  go_loopw [5, 6, 16] (fun vo vl i wr => ∃ (k : Nat) (ps : List Int) (st : List (Nat × Nat)) (Ao : Option Addr) (co : Nat) (Al : Option Addr) (cl : Nat), i = .int .i64 k ∧ k ≤ n ∧ PInv codes k ps st ∧ vo = .slice Ao st.length co ∧ vl = .slice Al st.length cl ∧
      wr.ownsRow w.heap.size 3 1 (.slice (some ⟨w.heap.size, 0, none⟩) n n) n (intV ps) ∧ wr.ownsRow w.heap.size 3 1 (.slice Ao st.length co) st.length (natV (st.map (·.1)).reverse) ∧ wr.ownsRow w.heap.size 3 1 (.slice Al st.length cl) st.length (natV (st.map (·.2)).reverse) ∧
      Apart (.slice (some ⟨w.heap.size, 0, none⟩) n n) (.slice Ao st.length co) ∧ Apart (.slice (some ⟨w.heap.size, 0, none⟩) n n) (.slice Al st.length cl) ∧ Apart (.slice Ao st.length co) (.slice Al st.length cl) ∧ Below w.heap.size w wr) (fun vo vl i wr => n - (intOf i).toNat)
  case atStart =>
    refine ⟨0, _, [], none, 0, none, 0, rfl, Nat.zero_le _, PInv.start codes, rfl, rfl, ?_, World.ownsRow_nil _ _ _ _, World.ownsRow_nil _ _ _ _, Apart.nil _ _ _, Apart.nil _ _ _, Apart.nil _ _ _, hb0⟩
    rw [hlen.out]; exact hown0.out
  case round =>
    clear hb0 hown0
    obtain ⟨k, ps, st, Ao, co, Al, cl, rfl, hk, hinv, rfl, rfl, hP, hO, hL, hPO, hPL, hOL, hbel⟩ := hrel
    have hsz := hbel.size
    by_cases hlt : k < n
    · have hkc : k < codes.length := by rw [hlen.out]; exact hlt
      obtain ⟨hl, hcs⟩ := hr
      obtain ⟨b, off, rfl, hb, hcs⟩ := hcs (by omega)
      have hcs' : ∀ j, j < n → wr.cell? ⟨b, off + j * 2, none⟩ = some (.int .i64 (codes.getD j 0)) := by
        intro j hj
        rw [hbel.cell (p := ⟨b, off + j * 2, none⟩) hb, (hcs j hj).1, hcodes.out]
        simp [List.getD_eq_getElem?_getD, hl, hj]
      have h1 := hcs' k hlt
      obtain ⟨o2, h2⟩ : ∃ o2, wr.cell? ⟨b, off + k * 2 + 1, none⟩ = some (.int .i64 o2) := ⟨_, (hbel.cell (p := ⟨b, off + k * 2 + 1, none⟩) hb).trans (hcs k hlt).2⟩
      replace hcs := Lib.hid hcs
      replace hl := Lib.hid hl
      replace hcs' := Lib.hid hcs'
      obtain ⟨gp, hgp, _, hgplt, _, hpc, hpf⟩ := own_addr hP (by omega)
      injection hgp with hgp; injection hgp with hgp
      subst hgp
      have hpk := hpc k (by omega)
      rw [intV_get ps k (by rw [hinv.len, hlen.out]; exact hlt)] at hpk
      have hpfk := hpf k
      have hbg : ¬ b = w.heap.size := by omega
      have hgb : ¬ w.heap.size = b := by omega
      have hO0 : (Value.slice Ao st.length co).ownBlock ≠ some w.heap.size := hPO _ rfl
      have hL0 : (Value.slice Al st.length cl).ownBlock ≠ some w.heap.size := hPL _ rfl
      replace hO0 := Lib.hid hO0
      replace hL0 := Lib.hid hL0
      replace hpc := Lib.hid hpc
      replace hpf := Lib.hid hpf
      replace hinv := Lib.hid hinv
      have HO := Lib.hid hO
      have HL := Lib.hid hL
      have hP1 := (hP.stored (j := k) (.int .i64 (-1))).1
      rw [intV_set] at hP1
      have hO1 := own_set_far (o := k) hO hO0.out (.int .i64 (-1))
      have hL1 := own_set_far (o := k) hL hL0.out (.int .i64 (-1))
      have hbel1 : Below w.heap.size w (wr.setCell ⟨w.heap.size, k, none⟩ (.int .i64 (-1))) := hbel.setCell (Nat.le_refl _) _
      have hlen' : ps.length = n := by rw [hinv.out.len, hlen.out]
      replace hlen' := Lib.hid hlen'
      replace hP := Lib.hid hP1
      replace hO := Lib.hid hO1
      replace hL := Lib.hid hL1
      clear hP1 hO1 hL1
      replace hPO := Lib.hid hPO
      replace hPL := Lib.hid hPL
      replace hOL := Lib.hid hOL
      obtain ⟨cd, hcd⟩ : ∃ cd, cd = codes.getD k 0 := ⟨_, rfl⟩
      rw [← hcd] at h1
      replace hcd := Lib.hid hcd
      by_cases hpush : cd = 35 ∨ cd = 44
      · have hsm := hinv.out.small
        rcases hpush with rfl | rfl
        all_goals
          by_cases hs6 : st.length + 1 ≤ 6
          · go_wp2_with (first
              | (at_builtin; refine wpAppAt rfl (.tmp 29) (.tmp 31) elemInt rfl (base := w.heap.size) (v := .slice Ao st.length co) rfl ((hO.out.alloc _).alloc _) rfl (src_at (cs := [.int .i64 k]) rfl (by simp [Value.oneCell']) (by simp)) (by omega) (by omega) (by simp; omega) (st.length + 1) rfl ?_; intro A1 c1 w1 hO1 hg1 hat1)
              | (at_builtin; refine wpAppAt rfl (.tmp 33) (.tmp 35) elemInt rfl (base := w.heap.size) (v := .slice Al st.length cl) rfl ((own_grown ((hL.out.alloc _).alloc _) hg1 hOL.out.symm).alloc _) rfl (src_at (cs := [.int .i64 k]) rfl (by simp [Value.oneCell']) (by simp)) (by omega) (by omega) (by have := hg1.size; simp at this ⊢; omega) (st.length + 1) rfl ?_; intro A2 c2 w2 hL2 hg2 hat2))
            have R := push_rows hbel1 (by simp; omega) hP.out hO.out hL.out hPO.out hPL.out hOL.out hO1 hg1 (by simpa using hat1) hL2 hg2 (by simpa using hat2)
            replace R := Lib.hid R
            replace hL2 := Lib.hid hL2
            clear hO1 hg1 hat1 hg2 hat2
            go_roundw
            case rel =>
              obtain ⟨rP, rO, r1, r2, r3, rb⟩ := R.out
              refine ⟨k + 1, _, (k, k) :: st, A1, c1, A2, c2, by go_num, by omega, hinv.out.push (by rw [← hcd.out]; simp) hs6, rfl, rfl, ?_, ?_, ?_, r1, r2, r3, rb⟩
              · exact rP
              · rw [natV_push st _ (k, k) k rfl]; exact rO
              · rw [natV_push st _ (k, k) k rfl]; exact hL2.out
            case measure => simp [intOf]; omega
          · go_wp2_with (first
              | (at_builtin; refine wpAppAt rfl (.tmp 29) (.tmp 31) elemInt rfl (base := w.heap.size) (v := .slice Ao st.length co) rfl ((hO.out.alloc _).alloc _) rfl (src_at (cs := [.int .i64 k]) rfl (by simp [Value.oneCell']) (by simp)) (by omega) (by omega) (by simp; omega) (st.length + 1) rfl ?_; intro A1 c1 w1 hO1 hg1 hat1)
              | (at_builtin; refine wpAppAt rfl (.tmp 33) (.tmp 35) elemInt rfl (base := w.heap.size) (v := .slice Al st.length cl) rfl ((own_grown ((hL.out.alloc _).alloc _) hg1 hOL.out.symm).alloc _) rfl (src_at (cs := [.int .i64 k]) rfl (by simp [Value.oneCell']) (by simp)) (by omega) (by omega) (by have := hg1.size; simp at this ⊢; omega) (st.length + 1) rfl ?_; intro A2 c2 w2 hL2 hg2 hat2))
            have R := push_rows hbel1 (by simp; omega) hP.out hO.out hL.out hPO.out hPL.out hOL.out hO1 hg1 (by simpa using hat1) hL2 hg2 (by simpa using hat2)
            go_ret2
            exact .inl ⟨hinv.out.push_no hkc (by rw [← hcd.out]; simp) (by omega), rfl, R.2.2.2.2.2⟩
      have hcp1 : (cd == 35) = false := by simp; omega
      have hcp2 : (cd == 44) = false := by simp; omega
      clear hpush
      have hne35 : codes.getD k 0 ≠ 35 := by rw [← hcd.out]; simpa using hcp1
      have hne44 : codes.getD k 0 ≠ 44 := by rw [← hcd.out]; simpa using hcp2
      replace hne35 := Lib.hid hne35
      replace hne44 := Lib.hid hne44
      by_cases hnop : cd = 36 ∨ cd = 37 ∨ cd = 38
      · rcases st with _ | ⟨⟨o, l⟩, r⟩
        · rcases hnop with rfl | rfl | rfl
          · go_wp2_with fail
            go_quiet (fail)
            go_wp2_with fail
            go_ret2
            exact .inl ⟨hinv.out.else_nil hkc (by rw [← hcd.out]), rfl, below_drewN (hbel1.alloc (by simp; omega) _) _⟩
          · go_wp2_with fail
            go_quiet (fail)
            go_wp2_with fail
            go_ret2
            exact .inl ⟨hinv.out.end_nil hkc (by rw [← hcd.out]; simp), rfl, below_drewN (hbel1.alloc (by simp; omega) _) _⟩
          · go_wp2_with fail
            go_quiet (fail)
            go_wp2_with fail
            go_ret2
            exact .inl ⟨hinv.out.end_nil hkc (by rw [← hcd.out]; simp), rfl, below_drewN (hbel1.alloc (by simp; omega) _) _⟩
        · obtain ⟨go, hgo, hgoB, hgolt, hgoc, hocell, hofr⟩ := own_addr HO.out (by simp)
          subst hgo
          obtain ⟨gl, hgl, hglB, hgllt, hglc, hlcell, hlfr⟩ := own_addr HL.out (by simp)
          subst hgl
          have hoc := hocell r.length (by simp)
          have hlc := hlcell r.length (by simp)
          rw [natV_top] at hoc hlc
          dsimp only at hoc hlc
          have hlf := hlfr r.length
          have hol := hinv.out.lt (o, l) (by simp)
          obtain ⟨hok, hlk⟩ := hol
          dsimp only at hok hlk
          have hoci := hcs'.out o (by omega)
          have hpo := hpc.out o (by omega)
          have hpl := hpc.out l (by omega)
          rw [intV_get ps o (by rw [hlen'.out]; omega)] at hpo
          rw [intV_get ps l (by rw [hlen'.out]; omega)] at hpl
          have hpfo := hpf.out o
          have hpfl := hpf.out l
          have n1 : ¬ go = w.heap.size := fun e => hO0.out (by simp [Value.ownBlock, e])
          have n2 : ¬ gl = w.heap.size := fun e => hL0.out (by simp [Value.ownBlock, e])
          have n3 : ¬ go = gl := fun e => hOL.out go rfl (by simp [Value.ownBlock, e])
          have n4 : ¬ gl = go := fun e => n3 e.symm
          have n5 : ¬ w.heap.size = go := fun e => n1 e.symm
          have n6 : ¬ w.heap.size = gl := fun e => n2 e.symm
          have n7 : ¬ b = go := by omega
          have n8 : ¬ b = gl := by omega
          have n9 : ¬ o = k := by omega
          have n10 : ¬ l = k := by omega
          have n11 : ¬ k = o := by omega
          have n12 : ¬ k = l := by omega
          have hr5 : r.length ≤ 5 := by have := hinv.out.small; simp at this; omega
          have hx1 : (0 : Int) ≤ (r.length : Int) ∧ (r.length : Int) < (r.length : Int) + 1 := by omega
          have hx2 : (0 : Int) ≤ (o : Int) ∧ (o : Int) < (n : Int) := by omega
          have hx3 : (0 : Int) ≤ (l : Int) ∧ (l : Int) < (n : Int) := by omega
          have hbw : b < wr.heap.size := by omega
          have hx4 : (r.length : Int) ≤ (co : Int) := by simp at hgoc; omega
          have hx5 : (r.length : Int) ≤ (cl : Int) := by simp at hglc; omega
          have hd0 : decide ((r.length : Int) < 0) = false := decide_eq_false (by omega)
          clear hocell hlcell hlfr hofr
          have hcode := hinv.out.code (o, l) (by simp)
          dsimp only at hcode
          obtain ⟨co1, hco1⟩ : ∃ c, c = codes.getD o 0 := ⟨_, rfl⟩
          rw [← hco1] at hoci hcode
          replace hco1 := Lib.hid hco1
          rcases hnop with rfl | rfl | rfl
          · rcases hcode with rfl | ⟨rfl, hlo⟩
            · by_cases hlo : l = o
              · subst hlo
                have hb : ((l : Int) == (l : Int)) = true := by simp
                go_wp2_with fail
                go_quiet (fail)
                go_wp2_with fail
                go_roundw
                case rel =>
                  obtain ⟨rP, rO, rL, rb⟩ := else_rows (q := nq) (o := l) (j := r.length) (x := .int .i64 k) (y := .int .i64 k) (H := .cells #[.int .i64 36, .int .i64 o2] 32) hbel1 (by simp; omega) hP.out hO.out hL.out hO0.out n2 (fun e => n3 (by simpa [Value.ownBlock] using e))
                  rw [intV_set] at rP
                  rw [natV_set_top r _ _ (l, k) k rfl] at rL
                  exact ⟨k + 1, _, (l, k) :: r, _, co, _, cl, by go_num, by omega, hinv.out.else_yes (by rw [← hcd.out]) (by rw [← hco1.out]) rfl, rfl, rfl, rP, rO, rL, hPO.out, hPL.out, hOL.out, rb⟩
                case measure => simp [intOf]; omega
              · have hb : ((l : Int) == (o : Int)) = false := by simp; omega
                have hb2 : ((l : Int) != (o : Int)) = true := by simp; omega
                go_wp2_with fail
                go_quiet (fail)
                go_wp2_with fail
                go_ret2
                exact .inl ⟨hinv.out.else_no hkc (by rw [← hcd.out]) (fun h => hlo h.2), rfl, below_drewN (hbel1.alloc (by simp; omega) _) _⟩
            · go_wp2_with fail
              go_quiet (fail)
              go_wp2_with fail
              go_ret2
              exact .inl ⟨hinv.out.else_no hkc (by rw [← hcd.out]) (fun h => by rw [← hco1.out] at h; omega), rfl, below_drewN (hbel1.alloc (by simp; omega) _) _⟩
          · rcases hcode with rfl | ⟨rfl, hlo⟩
            · go_wp2_with fail
              go_quiet (fail)
              go_wp2_with fail
              go_quiet (fail)
              go_wp2_with fail
              go_roundw
              case rel =>
                have rows := fun q => end_rows (q := q) (o := l) (x := .int .i64 k) (H := .cells #[.int .i64 37, .int .i64 o2] 32) hbel1 (by simp; omega) hP.out hO.out hL.out hO0.out hL0.out
                simp only [intV_set] at rows
                exact ⟨k + 1, _, r, _, co, _, cl, by go_num, by omega, hinv.out.end_yes (by rw [← hcd.out]; simp) (by rw [← hcd.out, ← hco1.out]; simp), rfl, rfl, own_drewN (rows _).1 _, own_pop (own_drewN (rows _).2.1 _), own_pop (own_drewN (rows _).2.2.1 _), hPO.out, hPL.out, hOL.out, below_drewN (rows _).2.2.2 _⟩
              case measure => simp [intOf]; omega
            · clear hlo
              go_wp2_with fail
              go_quiet (fail)
              go_wp2_with fail
              go_ret2
              exact .inl ⟨hinv.out.end_no hkc (by rw [← hcd.out]; simp) (by rw [← hcd.out, ← hco1.out]; simp), rfl, below_drewN (hbel1.alloc (by simp; omega) _) _⟩
          · rcases hcode with rfl | ⟨rfl, hlo⟩
            · go_wp2_with fail
              go_quiet (fail)
              go_wp2_with fail
              go_ret2
              exact .inl ⟨hinv.out.end_no hkc (by rw [← hcd.out]; simp) (by rw [← hcd.out, ← hco1.out]; simp), rfl, below_drewN (hbel1.alloc (by simp; omega) _) _⟩
            · clear hlo
              go_wp2_with fail
              go_quiet (fail)
              go_wp2_with fail
              go_quiet (fail)
              go_wp2_with fail
              go_roundw
              case rel =>
                have rows := fun q => end_rows (q := q) (o := l) (x := .int .i64 k) (H := .cells #[.int .i64 38, .int .i64 o2] 32) hbel1 (by simp; omega) hP.out hO.out hL.out hO0.out hL0.out
                simp only [intV_set] at rows
                exact ⟨k + 1, _, r, _, co, _, cl, by go_num, by omega, hinv.out.end_yes (by rw [← hcd.out]; simp) (by rw [← hcd.out, ← hco1.out]; simp), rfl, rfl, own_drewN (rows _).1 _, own_pop (own_drewN (rows _).2.1 _), own_pop (own_drewN (rows _).2.2.1 _), hPO.out, hPL.out, hOL.out, below_drewN (rows _).2.2.2 _⟩
              case measure => simp [intOf]; omega
      · have hn1 : (cd == 36) = false := by simp; omega
        have hn2 : (cd == 37) = false := by simp; omega
        have hn3 : (cd == 38) = false := by simp; omega
        clear hnop
        have hinv2 := hinv.out.other hne35.out hne44.out (by rw [← hcd.out]; simpa using hn1) (by rw [← hcd.out]; simpa using hn2) (by rw [← hcd.out]; simpa using hn3)
        replace hinv2 := Lib.hid hinv2
        go_wp2_with fail
        go_roundw
        case rel =>
          exact ⟨k + 1, _, st, Ao, co, Al, cl, by go_num, by omega, hinv2.out, rfl, rfl, hP.out.alloc _, hO.out.alloc _, hL.out.alloc _, hPO.out, hPL.out, hOL.out, hbel1.alloc (by simp; omega) _⟩
        case measure => simp [intOf]; omega
    · go_wp2_with fail
      go_ret2
      have hkn : k = codes.length := by rw [hlen.out]; omega
      subst hkn
      refine .inr ⟨ps, st, w.heap.size, hinv.to, by rw [hinv.len, hlen.out], ?_, hP, hbel⟩
      have : ((st.length : Int) == 0) = st.isEmpty := by cases st <;> simp <;> omega
      rw [this]; rfl
end Go.Proofs.YtpmpbfkpiocleaaDoor

