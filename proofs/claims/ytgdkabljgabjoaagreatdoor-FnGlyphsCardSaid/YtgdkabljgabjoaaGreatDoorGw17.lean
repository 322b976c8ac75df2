/- Whether a set of glyphs is valid: the program's side. Conditions: as each states. -/
import Derived.BigQuiet
import Derived.StillTailTactics
import Derived.Test.YtgdkabljgabjoaaGreatDoorGw15
import Derived.Test.YtgdkabljgabjoaaGreatDoorGw16
import Derived.Test.YtgdkabljgabjoaaGreatDoorGw08
namespace Go.Proofs.YtgdkabljgabjoaaGreatDoor
open Go.RowKit Go.Maps
set_option linter.unusedVariables false
set_option maxRecDepth 100000

theorem take_snocG {α : Type} {l : List α} {t : Nat} {x : α} (h : l[t]? = some x) : l.take (t + 1) = l.take t ++ [x] := by
  have hl := (List.getElem?_eq_some_iff.1 h).1
  rw [List.take_succ_eq_append_getElem hl]
  rw [List.getElem?_eq_getElem hl] at h
  injection h with h; rw [h]
theorem gs_atc {w : World} {lo hi : Nat} {A : Option Addr} {n : Nat} {L : List Gl} (h : GsRc w lo hi A n L) {j : Nat} (hj : j < n) :
    ∃ b off d hh, A = some ⟨b, off, none⟩ ∧ lo ≤ b ∧ b < hi ∧ L[j]? = some d ∧ (∀ i u, (glC d hh)[i]? = some u → w.cell? ⟨b, off + j * 7 + i, none⟩ = some u) ∧ GlRd w lo hi d hh ∧ hh.anchors.n ≤ hh.anchors.c := by
  obtain ⟨hl, h⟩ := h
  obtain ⟨b, off, rfl, h1, h2, h3⟩ := h (by omega)
  have hja : L[j]? = some (L[j]'(by omega)) := List.getElem?_eq_getElem (by omega)
  obtain ⟨es, e1, e2, hh, rfl, hr, hc⟩ := h3 j _ hja
  exact ⟨b, off, _, hh, rfl, h1, h2, hja, e2, hr, hc⟩
theorem keyS : Keyed Tryz.prog 9 := string_keyed Tryz.underlying9
theorem keyI : Keyed Tryz.prog 2 := int_keyed Tryz.underlying2
theorem zeroB (w : World) : (zeroValue 4).run Tryz.prog w = .ok (.bool false) w := by kernel_rfl
/-- the names and the codes of the glyphs so far -/
def NmF (f : Lit → Option Bool) (L : List Gl) : Prop := ∀ s : ByteArray, (f (.string s.data.toList)).getD false = L.any fun g => decide (g.name = s)
def CdF (f : Lit → Option Bool) (L : List Gl) : Prop := ∀ c : Int, (f (.int .i64 c)).getD false = L.any fun g => decide (g.code = c)
theorem NmF.nil : NmF (fun _ => none) [] := fun s => rfl
theorem CdF.nil : CdF (fun _ => none) [] := fun s => rfl
theorem str_lit {a b : ByteArray} : Lit.string a.data.toList = Lit.string b.data.toList ↔ a = b := by
  constructor
  · intro h
    injection h with h
    cases a; cases b; simp at h; rw [h]
  · rintro rfl; rfl
theorem NmF.put {f : Lit → Option Bool} {L : List Gl} (h : NmF f L) (g : Gl) : NmF (putF f (.string g.name.data.toList) true) (L ++ [g]) := fun s => by
  by_cases e : s = g.name
  · subst e
    rw [putF_same _ (by trivial)]; simp
  · rw [putF_ne _ (fun h => e (str_lit.1 h)), h s, List.any_append]
    simp [Ne.symm e]
theorem CdF.put {f : Lit → Option Bool} {L : List Gl} (h : CdF f L) (g : Gl) : CdF (putF f (.int .i64 g.code) true) (L ++ [g]) := fun c => by
  by_cases e : c = g.code
  · subst e
    rw [putF_same _ (by trivial)]; simp
  · rw [putF_ne _ (fun h => e (by injection h)), h c, List.any_append]
    simp [Ne.symm e]
theorem glFree_maps {L : List Gl} {g : Gl} {tn tc : Bool} (hn : tn = L.any fun b => decide (b.name = g.name)) (hc : tc = L.any fun b => decide (b.code = g.code)) : glFree L g = (!tn && !(decide (0 ≤ g.code) && tc)) := by
  rw [hn, hc]
  clear hn hc
  induction L with
  | nil => simp [glFree]
  | cons a L ih =>
    have e : glFree (a :: L) g = (!clash a g && glFree L g) := by simp [glFree]
    rw [e, ih, List.any_cons, List.any_cons]
    unfold clash
    by_cases h1 : a.name = g.name <;> by_cases h2 : a.code = g.code <;> by_cases h3 : 0 ≤ g.code <;> by_cases h4 : 0 ≤ a.code <;> simp [h1, h2, h3, h4] <;> omega

theorem glyph_code {g : Gl} (h : glyphOk g = true) : -1 ≤ g.code ∧ g.code ≤ 65535 := by
  cases h2 : inB g.code (-1) 65535
  · rw [glyph_f2 h2] at h; cases h
  · exact inB_iff.1 h2

set_option maxHeartbeats 8000000 in
theorem implOk_any (u : Int) (A : Option Addr) (n c lo hi : Nat) (L : List Gl) (v : Bool) (hv : v = setOk ⟨u, L⟩) (w : World) (hr : GsRc w lo hi A n L) (hhi : hi ≤ w.heap.size) (hn : n ≤ 1000000000) (hm : ∀ g ∈ L, g.small 1000000000) (hs : ∀ g ∈ L, g.str) :
    Calls Tryz.prog 48 #[.agg #[.int .i64 u, .slice A n c]] w fun e w' => e = .returned (.bool v) ∧ Below w.heap.size w w' := by
  have hl := Lib.hid hr.1
  have e1 := Lib.hid (fun (h : inB u 16 16384 = false) => hv.trans (set_f1 (s := ⟨u, L⟩) h))
  have e2 := Lib.hid (fun (h : 40 < n) => hv.trans (set_f2 (s := ⟨u, L⟩) (by show 40 < L.length; rw [hl.out]; exact h)))
  have e3 := Lib.hid (fun (k : Nat) (h : k < n) (h1 : glAt L k = false) => hv.trans (set_f3 (s := ⟨u, L⟩) (by show k < L.length; rw [hl.out]; exact h) h1))
  have e5 := Lib.hid (fun (k : Nat) (g : Gl) (q : Part) (hg : L[k]? = some g) (hq : q ∈ g.parts) (h : (n : Int) ≤ q.1) => hv.trans (set_f5 (s := ⟨u, L⟩) hg hq (by show (L.length : Int) ≤ q.1; rw [hl.out]; exact h)))
  have e4 := Lib.hid (fun (h1 : inB u 16 16384 = true) (h2 : n ≤ 40) (h3 : (List.range n).all (glAt L) = true) => show v = decide ((order (tgts L)).length = n) from by
    have := hv.trans (set_eq (s := ⟨u, L⟩) h1 (by show L.length ≤ 40; rw [hl.out]; exact h2) (by show (List.range L.length).all (glAt L) = true; rw [hl.out]; exact h3))
    simpa only [hl.out] using this)
  have hB0 : Below w.heap.size w (w.alloc (.cells #[.int .i64 u, .slice A n c] 36 (0, 0))) := Go.Joins.below_alloc1 _ _
  replace hv := Lib.hid hv
  replace hr := Lib.hid hr
  replace hm := Lib.hid hm
  replace hs := Lib.hid hs
  by_cases b1 : 16 ≤ u
  rotate_left
  · have hvf := e1.out (by simp [inB, b1])
    subst hvf
    go_enter Tryz.func48, Tryz.ntmps48
    go_wp2_with fail
    go_ret
    exact ⟨rfl, hB0⟩
  by_cases b2 : u ≤ 16384
  rotate_left
  · have hvf := e1.out (by simp [inB, b2])
    subst hvf
    go_enter Tryz.func48, Tryz.ntmps48
    go_wp2_with fail
    go_ret
    exact ⟨rfl, hB0⟩
  by_cases h40 : n ≤ 40
  rotate_left
  · have hvf := e2.out (by omega)
    subst hvf
    go_enter Tryz.func48, Tryz.ntmps48
    go_wp2_with fail
    go_ret
    exact ⟨rfl, hB0⟩
  replace e4 := Lib.hid (e4.out (inB_iff.2 ⟨b1, b2⟩) h40)
  clear e1 e2
  have hmm := fun (t : TypeId) (W : World) => run_makeMap (P := Tryz.prog) t W
  go_enter Tryz.func48, Tryz.ntmps48
  go_wp2_with fail
  have hnew := heap_new0 w (.cells #[.int .i64 u, .slice A n c] 36 (0, 0)) (.map #[] 0) (.map #[] 0)
  have hmap1 : MapF boolE (((w.alloc (.cells #[.int .i64 u, .slice A n c] 36 (0, 0))).alloc (.map #[] 0)).alloc (.map #[] 0)) Tryz.prog 9 (w.heap.size + 1) 0 (fun _ => none) := by
    have := (MapF.made boolE (w.alloc (.cells #[.int .i64 u, .slice A n c] 36 (0, 0))) Tryz.prog 9).alloc (.map #[] 0)
    simpa using this
  have hmap2 : MapF boolE (((w.alloc (.cells #[.int .i64 u, .slice A n c] 36 (0, 0))).alloc (.map #[] 0)).alloc (.map #[] 0)) Tryz.prog 2 (w.heap.size + 1 + 1) 0 (fun _ => none) := by
    have := MapF.made boolE ((w.alloc (.cells #[.int .i64 u, .slice A n c] 36 (0, 0))).alloc (.map #[] 0)) Tryz.prog 2
    simpa using this
  have hbx : (((w.alloc (.cells #[.int .i64 u, .slice A n c] 36 (0, 0))).alloc (.map #[] 0)).alloc (.map #[] 0)).cell? ⟨w.heap.size, 1, none⟩ = some (.slice A n c) := by rw [Go.Joins.cell_of_block hnew.1]; rfl
  have hB1 : Below w.heap.size w (((w.alloc (.cells #[.int .i64 u, .slice A n c] 36 (0, 0))).alloc (.map #[] 0)).alloc (.map #[] 0)) := (hB0.alloc hB0.size _).alloc (by simp; omega) _
  have hz1 : w.heap.size + 2 < (((w.alloc (.cells #[.int .i64 u, .slice A n c] 36 (0, 0))).alloc (.map #[] 0)).alloc (.map #[] 0)).heap.size := by simp
  clear hnew hB0 hmm
  generalize (((w.alloc (.cells #[.int .i64 u, .slice A n c] 36 (0, 0))).alloc (.map #[] 0)).alloc (.map #[] 0)) = W0 at hmap1 hmap2 hbx hB1 hz1 ⊢
  go_loopw [30] (fun i wr => ∃ (k : Nat) (f1 f2 : Lit → Option Bool), i = .int .i64 k ∧ k ≤ n ∧ MapF boolE wr Tryz.prog 9 (w.heap.size + 1) k f1 ∧ NmF f1 (L.take k) ∧ MapF boolE wr Tryz.prog 2 (w.heap.size + 1 + 1) k f2 ∧ CdF f2 (L.take k) ∧ (List.range k).all (glAt L) = true ∧ (∀ g ∈ L.take k, ∀ q ∈ g.parts, q.1 < (n : Int)) ∧ wr.cell? ⟨w.heap.size, 1, none⟩ = some (.slice A n c) ∧ Below w.heap.size w wr ∧ w.heap.size + 2 < wr.heap.size) (fun i wr => n - (intOf i).toNat)
  case atStart => exact ⟨0, _, _, rfl, Nat.zero_le _, hmap1, NmF.nil, hmap2, CdF.nil, rfl, by simp, hbx, hB1, hz1⟩
  case round =>
    clear hmap1 hmap2 hbx hB1 hz1
    obtain ⟨k, f1, f2, rfl, hk, hm1, hnm, hm2, hcd, hall, hpr, hbx, hbel, hz⟩ := hrel
    replace hm1 := Lib.hid hm1
    replace hm2 := Lib.hid hm2
    replace hnm := Lib.hid hnm
    replace hcd := Lib.hid hcd
    replace hall := Lib.hid hall
    replace hpr := Lib.hid hpr
    have hsz := hbel.size
    by_cases hlt : k < n
    · obtain ⟨b1, f0, d, hh, rfl, hb0, hb1, hja, hcs, hrg, hcap⟩ := gs_atc (hr.out.frame good_glyphc (Below.sameB hbel hhi)) hlt
      have q0 := hcs 0 _ rfl
      have q1 := hcs 1 _ rfl
      have q2 := hcs 2 _ rfl
      have q3 := hcs 3 _ rfl
      have q4 := hcs 4 _ rfl
      have q5 := hcs 5 _ rfl
      have q6 := hcs 6 _ rfl
      simp only [Nat.add_zero] at q0 q1 q2 q3 q4 q5 q6
      have hb1w : b1 < wr.heap.size := by omega
      obtain ⟨t, ht⟩ : ∃ t, t = glyphOk d := ⟨_, rfl⟩
      have hgs := hs.out d (List.mem_of_getElem? hja)
      have hc := Lib.hid (fun o => implValidG_any d hh t ht lo hi (wr.alloc o) (hrg.frame (SameB.alloc (SameB.refl _ _ _) (by omega) _)) (by simp; omega) (hm.out d (List.mem_of_getElem? hja)) hgs hcap)
      have hno := Lib.hid (fun (h : glAt L k = false) => e3.out k hlt h)
      have hst := Lib.hid (fun (h : glAt L k = true) => range_step hall.out h)
      have hat := Lib.hid (glAt_eq hja)
      have hrp := Lib.hid hrg.2.1
      replace ht := Lib.hid ht
      replace hja := Lib.hid hja
      replace hgs := Lib.hid hgs
      clear hcs hrg hcap hb0 hb1
      go_wp2_with fail
      refine (hc.out _).mono ?_
      rintro e w1 ⟨rfl, hb1⟩
      have hBn : Below w.heap.size w (wr.alloc (.cells #[.string d.name, .int .i64 d.code, .int .i64 d.adv, .slice hh.out.A hh.out.n hh.out.c, .slice hh.parts.A hh.parts.n hh.parts.c, .slice hh.anchors.A hh.anchors.n hh.anchors.c, .string d.hints] 28 (0, 0))) := hbel.alloc hsz _
      have hB1 := hBn.trans (hb1.mono hBn.size)
      have hs1 := hb1.size
      simp at hs1
      have y0 : w1.cell? ⟨wr.heap.size, 0, none⟩ = some (.string d.name) := (hb1.cell (by simp)).trans (by rw [Go.Joins.cell_of_block (heap_alloc_new wr _)]; rfl)
      have y1 : w1.cell? ⟨wr.heap.size, 1, none⟩ = some (.int .i64 d.code) := (hb1.cell (by simp)).trans (by rw [Go.Joins.cell_of_block (heap_alloc_new wr _)]; rfl)
      have y4 : w1.cell? ⟨wr.heap.size, 4, none⟩ = some (.slice hh.parts.A hh.parts.n hh.parts.c) := (hb1.cell (by simp)).trans (by rw [Go.Joins.cell_of_block (heap_alloc_new wr _)]; rfl)
      have hbx1 : w1.cell? ⟨w.heap.size, 1, none⟩ = some (.slice (some ⟨b1, f0, none⟩) n c) := (hb1.cell (by simp; omega)).trans (((Below.refl wr.heap.size wr).alloc (Nat.le_refl _) _ |>.cell (by show w.heap.size < wr.heap.size; omega)).trans hbx)
      have hm11 := Lib.hid ((hm1.out.alloc _).below hb1)
      have hm21 := Lib.hid ((hm2.out.alloc _).below hb1)
      clear q0 q1 q2 q3 q4 q5 q6 hc hb1 hbx hBn
      cases t with
      | false =>
        have hvf := hno.out (by rw [hat.out, ht.out.symm]; rfl)
        subst hvf
        go_wp2_with fail
        go_ret
        exact ⟨rfl, hB1⟩
      | true =>
        have hat' := Lib.hid (show glAt L k = glFree (L.take k) d by rw [hat.out, ht.out.symm]; rfl)
        obtain ⟨tn, htn⟩ : ∃ b, b = (L.take k).any fun g => decide (g.name = d.name) := ⟨_, rfl⟩
        obtain ⟨tc, htc⟩ : ∃ b, b = (L.take k).any fun g => decide (g.code = d.code) := ⟨_, rfl⟩
        have hfm := Lib.hid (glFree_maps htn htc)
        have hkn := Lib.hid ((hnm.out d.name).trans htn.symm)
        have hkc := Lib.hid ((hcd.out d.code).trans htc.symm)
        replace htn := Lib.hid htn
        replace htc := Lib.hid htc
        obtain ⟨hcl, hch⟩ := glyph_code ht.out.symm
        have hpn : hh.parts.n ≤ 6 := by rw [← hrp.out.1]; exact (glyph_is ht.out.symm).2.1
        have hwf : (Lit.int .i64 d.code).wf = true := WalkArith.wf_i64 (by omega)
        have hk1 := Lib.hid (Go.WideMaps.keyOf_string_mk Tryz.underlying9 hgs.out.1)
        have hk2 := Lib.hid (keyOf_int_mk Tryz.underlying2 hwf)
        have hr1 : (Instr.lookup 140 (.map (some (w.heap.size + 1))) (.string d.name) false).run Tryz.prog w1 = .ok (.bool tn) w1 := run_lookup_f _ 4 keyS Tryz.underlying140 false (zeroB w1) hm11.out hk1.out tn hkn.out
        have hr2 : (Instr.lookup 141 (.map (some (w.heap.size + 1 + 1))) (.int .i64 d.code) false).run Tryz.prog w1 = .ok (.bool tc) w1 := run_lookup_f _ 4 keyI Tryz.underlying141 false (zeroB w1) hm21.out hk2.out tc hkc.out
        replace hwf := Lib.hid hwf
        cases tn with
        | true =>
          have hvf := hno.out (by rw [hat'.out, hfm.out]; rfl)
          subst hvf
          go_wp2_with fail
          go_ret
          exact ⟨rfl, hB1⟩
        | false =>
          by_cases c0 : 0 ≤ d.code
          all_goals
            cases tc
            all_goals
              first
                | (have hvf := hno.out (by rw [hat'.out, hfm.out]; simp [c0]; done)
                   subst hvf
                   go_wp2_with fail
                   go_ret
                   exact ⟨rfl, hB1⟩)
                | (have hst' := Lib.hid (hst.out (by rw [hat'.out, hfm.out]; simp [c0]))
                   have hkm : k < maxLen := by unfold maxLen; omega
                   obtain ⟨w2, hu1, hm12, hg2⟩ := run_mapUpdate_f 140 4 keyS Tryz.underlying140 hm11.out.drew hkm hk1.out true (v := .bool true) rfl
                   obtain ⟨w3, hu2, hm23, hg3⟩ := run_mapUpdate_f 141 4 keyI Tryz.underlying141 (hm21.out.drew.kept hg2 (by simp)) hkm hk2.out true (v := .bool true) rfl
                   have z1 : w2.cell? ⟨wr.heap.size, 1, none⟩ = some (.int .i64 d.code) := (grown_cell hg2 (by show wr.heap.size < w1.heap.size; omega) (by omega)).trans y1
                   replace hm12 := Lib.hid hm12
                   replace hm23 := Lib.hid hm23
                   go_wp2_with fail
                   go_region
                   clear hr1 hr2 hu1 hu2
                   have hB2 : Below w.heap.size w w2 := Below.grown (w := w1.drew) hB1.drew hg2 (by show w.heap.size ≤ w1.heap.size; omega) (fun j hj => by cases hj; omega)
                   have hs2 : w1.heap.size ≤ w2.heap.size := hg2.size
                   have hB3 : Below w.heap.size w w3 := hB2.grown hg3 (by omega) (fun j hj => by cases hj; omega)
                   have hs3 : w2.heap.size ≤ w3.heap.size := hg3.size
                   have y43 : w3.cell? ⟨wr.heap.size, 4, none⟩ = some (.slice hh.parts.A hh.parts.n hh.parts.c) := (grown_cell hg3 (by omega) (by omega)).trans ((grown_cell hg2 (by show wr.heap.size < w1.heap.size; omega) (by omega)).trans y4)
                   have hbx3 : w3.cell? ⟨w.heap.size, 1, none⟩ = some (.slice (some ⟨b1, f0, none⟩) n c) := (grown_cell hg3 (by omega) (by omega)).trans ((grown_cell hg2 (by show w.heap.size < w1.heap.size; omega) (by omega)).trans hbx1)
                   have hm13 := Lib.hid (hm12.out.kept hg3 (by simp))
                   have hz3 : w.heap.size + 2 < w3.heap.size := by omega
                   have hz4 : w.heap.size < w3.heap.size := by omega
                   clear y0 y1 y4 z1 hbx1 hg2 hg3 hB1 hB2 hm11 hm21 hm12
                   have hw3 : wr.heap.size < w3.heap.size := by omega
                   go_wp2_with fail
                   clear y43 hw3
                   obtain ⟨wi, rfl⟩ : ∃ wi : World, wi = wr := ⟨_, rfl⟩
                   go_loopw [63] (fun i wr => ∃ j : Nat, i = .int .i64 j ∧ j ≤ hh.parts.n ∧ (∀ q ∈ d.parts.take j, q.1 < (n : Int)) ∧ Below w3.heap.size w3 wr) (fun i wr => hh.parts.n - (intOf i).toNat)
                   case atStart => exact ⟨0, rfl, Nat.zero_le _, by simp, Below.refl _ _⟩
                   case round =>
                     obtain ⟨j, rfl, hj, hall3, hb4⟩ := hrel
                     replace hall3 := Lib.hid hall3
                     have hB4 := hB3.trans (hb4.mono hB3.size)
                     have hs4 := hb4.size
                     have hbx4 := (hb4.cell (p := ⟨w.heap.size, 1, none⟩) hz4).trans hbx3
                     have hz5 : w.heap.size < wr.heap.size := by omega
                     have hrp2 := hrp.out.frame (good_flat _) (w' := wr) (fun i h1 h2 => (Below.sameB hB4 hhi i h1 h2).trans (Below.sameB hbel hhi i h1 h2).symm)
                     by_cases hjl : j < hh.parts.n
                     · obtain ⟨p1, g1, ⟨x0, x1, x2⟩, hA, _, hpw, hjb, hcs⟩ := hrp2.at hjl
                       have q0 := hcs 0 _ rfl
                       have q1 := hcs 1 _ rfl
                       have q2 := hcs 2 _ rfl
                       simp only [Nat.add_zero] at q0 q1 q2
                       rw [hA]
                       have hpw' : p1 < wr.heap.size := by omega
                       have hji : (0 : Int) ≤ (j : Int) ∧ (j : Int) < (hh.parts.n : Int) := by omega
                       have hno3 := Lib.hid (fun (h : (n : Int) ≤ x0) => e5.out k d _ hja.out (List.mem_of_getElem? hjb) h)
                       have hst3 := Lib.hid (fun (h : x0 < (n : Int)) => show ∀ q ∈ d.parts.take (j + 1), q.1 < (n : Int) from fun q hq => by
                         rw [take_snocG hjb, List.mem_append] at hq
                         rcases hq with hq | hq
                         · exact hall3.out q hq
                         · simp at hq; rw [hq]; exact h)
                       replace hA := Lib.hid hA
                       have hbx5 : (wr.alloc (.cells #[.int .i64 x0, .int .i64 x1, .int .i64 x2] 106 (0, 0))).cell? ⟨w.heap.size, 1, none⟩ = some (.slice (some ⟨b1, f0, none⟩) n c) := ((Below.refl wr.heap.size wr).alloc (Nat.le_refl _) _ |>.cell (by show w.heap.size < wr.heap.size; omega)).trans hbx4
                       clear hcs hjb
                       by_cases hx : (n : Int) ≤ x0
                       · have hvf := hno3.out hx
                         subst hvf
                         go_wp2_with fail
                         go_ret
                         exact ⟨rfl, hB4.alloc hB4.size _⟩
                       · go_wp2_with fail
                         go_roundw
                         case rel => exact ⟨j + 1, by go_num, by omega, hst3.out (by omega), hb4.alloc hs4 _⟩
                         case measure => simp [intOf]; omega
                     · have hjn : j = hh.parts.n := by omega
                       have hfull : d.parts.take j = d.parts := List.take_of_length_le (by rw [hrp.out.1]; omega)
                       have hall4 := Lib.hid (hfull ▸ hall3.out : ∀ q ∈ d.parts, q.1 < (n : Int))
                       replace hfull := Lib.hid hfull
                       replace hjn := Lib.hid hjn
                       have hts := Lib.hid (take_snocG hja.out)
                       have hm14 := Lib.hid (hm13.out.below hb4)
                       have hm24 := Lib.hid (hm23.out.below hb4)
                       have hz6 : w.heap.size + 2 < wr.heap.size := by omega
                       clear hall3
                       go_wp2_with fail
                       go_roundw
                       case rel =>
                         refine ⟨k + 1, _, _, by go_num, by omega, hm14.out, by rw [hts.out]; exact hnm.out.put d, hm24.out, by rw [hts.out]; exact hcd.out.put d, hst'.out, fun g hg => ?_, hbx4, hB4, hz6⟩
                         rw [hts.out, List.mem_append] at hg
                         rcases hg with hg | hg
                         · exact hpr.out g hg
                         · simp at hg; rw [hg]; exact hall4.out
                       case measure => simp [intOf]; omega)
    · have hkn : k = n := by omega
      have hall' := Lib.hid (show (List.range n).all (glAt L) = true by rw [← hkn]; exact hall.out)
      have hvt := e4.out hall'.out
      have htk : L.take k = L := List.take_of_length_le (by rw [hl.out]; omega)
      have hpr2 := hpr.out
      rw [htk] at hpr2
      have hps : ∀ g ∈ L, g.parts.length ≤ 6 ∧ ∀ q ∈ g.parts, 0 ≤ q.1 ∧ q.1 < (n : Int) := fun g hg => by
        have hgi := glyph_is (glOk_all hl.out hall'.out g hg)
        refine ⟨hgi.2.1, fun q hq => ⟨?_, hpr2 g hg q hq⟩⟩
        have := hgi.2.2.2.2.1 q hq
        simp [partOk, inB] at this
        exact this.1.1
      have hc := Lib.hid (depthsOf_any A n c lo hi L v hvt wr (hr.out.rd.frame good_glyph (Below.sameB hbel hhi)) (Nat.le_trans hhi hsz) h40 hps)
      replace hvt := Lib.hid hvt
      replace htk := Lib.hid htk
      replace hkn := Lib.hid hkn
      clear hps hpr2
      go_wp2_with fail
      refine hc.out.mono ?_
      rintro e w1 ⟨A', m, c', rfl, _, hb1⟩
      go_wp2_with fail
      go_ret
      exact ⟨rfl, hbel.trans (hb1.mono hsz)⟩
theorem implValidGS_any (d : GSet) (h : GSetH) (v : Bool) (hv : v = setOk d) (lo hi : Nat) (w : World) (hr : GSetRc w lo hi d h) (hhi : hi ≤ w.heap.size) (hm : d.small 1000000000) (hs : ∀ g ∈ d.gl, g.str) :
    Calls Tryz.prog 48 #[gsV d h] w fun e w' => e = .returned (.bool v) ∧ Below w.heap.size w w' :=
  implOk_any d.unit h.gl.A h.gl.n h.gl.c lo hi d.gl v hv w hr hhi (hm.gl hr.1).1 hm.g hs
end Go.Proofs.YtgdkabljgabjoaaGreatDoor

/- The code of a glyph of a set: both sides. Conditions: as each states. -/
namespace Go.Proofs.YtgdkabljgabjoaaGreatDoor
open Go.RowKit
set_option linter.unusedVariables false
set_option maxRecDepth 100000

/-- 1: not valid; 2: no such glyph; 0: fine -/
def askR (d : GSet) (x : Int) : Int := if setOk d = true then (if 0 ≤ x ∧ x < d.gl.length then 0 else 2) else 1
theorem ask_1 {d : GSet} {x : Int} (h : setOk d = false) : askR d x = 1 := if_neg (by rw [h]; simp)
theorem ask_2 {d : GSet} {x : Int} (h : setOk d = true) (h1 : ¬ (0 ≤ x ∧ x < d.gl.length)) : askR d x = 2 := by unfold askR; rw [if_pos h, if_neg h1]
theorem ask_0 {d : GSet} {x : Int} (h : setOk d = true) (h1 : 0 ≤ x ∧ x < d.gl.length) : askR d x = 0 := by unfold askR; rw [if_pos h, if_pos h1]
theorem ask_cases (d : GSet) (x : Int) : askR d x = 1 ∨ askR d x = 2 ∨ (askR d x = 0 ∧ setOk d = true ∧ 0 ≤ x ∧ x < d.gl.length) := by
  cases h : setOk d
  · exact .inl (ask_1 h)
  · by_cases h1 : 0 ≤ x ∧ x < d.gl.length
    · exact .inr (.inr ⟨ask_0 h h1, rfl, h1.1, h1.2⟩)
    · exact .inr (.inl (ask_2 h h1))

set_option maxHeartbeats 2000000 in
theorem checkGlyph_any (d : GSet) (h : GSetH) (x : Int) (r : Int) (hrr : r = askR d x) (lo hi : Nat) (w : World) (hr : GSetRc w lo hi d h) (hhi : hi ≤ w.heap.size) (hm : d.small 1000000000) (hs : ∀ g ∈ d.gl, g.str) :
    Calls Tryz.prog 58 #[gsV d h, .int .i64 x] w fun e w' => e = .returned (.int .i64 r) ∧ Below w.heap.size w w' := by
  have hB0 : Below w.heap.size w (w.alloc (.cells #[.int .i64 d.unit, .slice h.gl.A h.gl.n h.gl.c] 36 (0, 0))) := Go.Joins.below_alloc1 _ _
  obtain ⟨v, hv⟩ : ∃ v, v = setOk d := ⟨_, rfl⟩
  have hl := hr.1
  have hn := (hm.gl hr.1).1
  have hc := Lib.hid (implValidGS_any d h v hv lo hi (w.alloc (.cells #[.int .i64 d.unit, .slice h.gl.A h.gl.n h.gl.c] 36 (0, 0))) (hr.frame good_glyphc (Below.sameB hB0 hhi)) (Nat.le_trans hhi hB0.size) hm hs)
  have k1 : (w.alloc (.cells #[.int .i64 d.unit, .slice h.gl.A h.gl.n h.gl.c] 36 (0, 0))).cell? ⟨w.heap.size, 1, none⟩ = some (.slice h.gl.A h.gl.n h.gl.c) := by rw [Go.Joins.cell_of_block (heap_alloc_new w _)]; rfl
  have hz : w.heap.size < (w.alloc (.cells #[.int .i64 d.unit, .slice h.gl.A h.gl.n h.gl.c] 36 (0, 0))).heap.size := by simp
  cases v with
  | false =>
    rw [ask_1 hv.symm] at hrr
    subst hrr
    clear hr hm hs hv hl k1
    go_enter Tryz.func58, Tryz.ntmps58
    go_wp2_with fail
    refine hc.out.mono ?_
    rintro e w1 ⟨rfl, hb1⟩
    go_wp2_with fail
    go_ret
    exact ⟨rfl, hB0.trans (hb1.mono hB0.size)⟩
  | true =>
    have hcs : (r = 0 ∧ 0 ≤ x ∧ x < (h.gl.n : Int)) ∨ (r = 2 ∧ x < 0) ∨ (r = 2 ∧ 0 ≤ x ∧ ¬ x < (h.gl.n : Int)) := by
      by_cases h2 : 0 ≤ x ∧ x < d.gl.length
      · rw [ask_0 hv.symm h2] at hrr; exact .inl ⟨hrr, by omega⟩
      · rw [ask_2 hv.symm h2] at hrr; by_cases h3 : x < 0
        · exact .inr (.inl ⟨hrr, h3⟩)
        · exact .inr (.inr ⟨hrr, by omega, by omega⟩)
    replace hrr := Lib.hid hrr
    replace hl := Lib.hid hl
    clear hr hm hs hv
    rcases hcs with ⟨rfl, h0, h1⟩ | ⟨rfl, h0⟩ | ⟨rfl, h0, h1⟩
    all_goals
      go_enter Tryz.func58, Tryz.ntmps58
      go_wp2_with fail
      refine hc.out.mono ?_
      rintro e w1 ⟨rfl, hb1⟩
      have k2 := (hb1.cell (p := ⟨w.heap.size, 1, none⟩) hz).trans k1
      have hz1 : w.heap.size < w1.heap.size := Nat.lt_of_lt_of_le hz hb1.size
      clear k1
      go_wp2_with fail
      go_ret
      exact ⟨rfl, hB0.trans (hb1.mono hB0.size)⟩
end Go.Proofs.YtgdkabljgabjoaaGreatDoor

/- Contracts of the functions that round by a state, and the walks of the laws on them. Conditions: as each states. -/
namespace Go.Proofs.YtgdkabljgabjoaaGreatDoor
open Go.RowKit
set_option linter.unusedVariables false
set_option maxRecDepth 100000

def rto (v st : Int) : Int :=
  if st = 1 then (v + 32) / 64 * 64 else if st = 2 then v / 64 * 64 + 32 else if st = 3 then (v + 16) / 32 * 32 else if st = 4 then v / 64 * 64 else if st = 5 then (v + 63) / 64 * 64 else v
/-! ### at least some number away from 0 -/
def imax (a b : Int) : Int := if b < a then a else b
def keep (v st least : Int) : Int := if v < 0 then -imax (rto (-v) st) least else imax (rto v st) least

end Go.Proofs.YtgdkabljgabjoaaGreatDoor

