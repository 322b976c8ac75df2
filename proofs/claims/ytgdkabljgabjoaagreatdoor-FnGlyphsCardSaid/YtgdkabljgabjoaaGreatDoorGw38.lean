/- A set's text read, the program's side: the walk. Printed by mk_rsi.py. Conditions: as each states. -/
import Derived.Deep.RegionHeld3
import Derived.Deep.DeepCutAuto
import Derived.Test.YtgdkabljgabjoaaGreatDoorGw37
import Derived.Test.YtgdkabljgabjoaaGreatDoorGw25
import Derived.Test.YtgdkabljgabjoaaGreatDoorGw21
namespace Go.Proofs.YtgdkabljgabjoaaGreatDoor
open Go.RowKit
set_option linter.unusedVariables false
set_option maxRecDepth 100000
set_option maxRecDepth 100000

theorem glyphOk_smR {g : Gl} (h : glyphOk g = true) : GlSm g := by
  have h1 := glyphOk_is h
  have h2 := outOk_is h1.out
  have h3 : ∀ L : List (List Knot), (∀ K ∈ L, loopOk K = true) → kN L ≤ L.length * 60 := fun L hL => by
    induction L with
    | nil => simp [kN]
    | cons a L ih =>
      have h3 := ih fun K hK => hL K (by simp [hK])
      have h4 := (loopOk_parts (hL a (by simp))).2.2
      unfold kN at h3 ⊢
      simp
      omega
  have h4 := h3 g.out h2.2
  exact ⟨by omega, by omega, by have := h1.pl; omega, by have := h1.al; omega⟩
theorem gl0_sm : GlSm gl0 := ⟨by simp [gl0], by simp [gl0, kN], by simp [gl0], by simp [gl0]⟩
/-- a glyph that has been read -/
def RdG (g : Gl) : Prop := GlSm g ∧ g.str
theorem rdG_ok {g : Gl} (h : glyphOk g = true) : RdG g := by
  have h1 := glyphOk_is h
  exact ⟨glyphOk_smR h, Nat.le_trans h1.nm (by decide), Nat.le_trans h1.hl (by decide), fun a ha => Nat.le_trans (h1.ans a ha).1 (by decide)⟩
theorem rdG_0 : RdG gl0 := ⟨gl0_sm, Nat.zero_le _, Nat.zero_le _, fun a ha => by simp [gl0] at ha⟩
theorem GlSm.smallR {d : Gl} (h : GlSm d) : d.small 100000000 := by
  have hk := h.outSm.k
  obtain ⟨h1, h2, h3, h4⟩ := h
  exact ⟨by omega, fun K hK => by have := hk K hK; omega, by omega, by omega⟩
set_option maxHeartbeats 16000000 in
theorem implReadSet_any (s : ByteArray) (w : World) (hm : MaxI w) (hs : s.size ≤ 1048576) :
    Calls Tryz.prog 12 #[.string s] w fun e w' => RSPost s w e w' := by
  have hml := hm.lt
  have hbb : Below w.heap.size w (w.alloc (.cells #[.int .i64 0, .slice none 0 0] 36 (0, 0))) := Go.Joins.below_alloc1 _ _
  have hR0 := Lib.hid (heap_alloc_new w (.cells #[.int .i64 0, .slice none 0 0] 36 (0, 0)))
  have hz0 : w.heap.size < (w.alloc (.cells #[.int .i64 0, .slice none 0 0] 36 (0, 0))).heap.size := by simp
  have hB0 := Lib.hid hbb
  obtain ⟨k1, rest0, f1, hcl, hk1, hr0, hcut⟩ := cutL_ex s hs
  obtain ⟨p, f2, hpc, hp1, hpre⟩ := unitPre_ex k1
  replace hcut := Lib.hid hcut
  replace hpre := Lib.hid hpre
  have hdec := Lib.hid (fun W => ReadDecimal_any ⟨p.toArray⟩ W (by show p.length ≤ 1048576; omega))
  replace hm := Lib.hid hm
  clear hbb
  go_enter Tryz.func12, Tryz.ntmps12
  go_upto_region 1 with fail
  generalize w.alloc (.cells #[.int .i64 0, .slice none 0 0] 36 (0, 0)) = w0 at *
  go_wp2_with fail
  refine (hcut.out _).mono ?_
  rintro e w1 ⟨rfl, hb1⟩
  have hz1 := hb1.size
  have hR1 := Lib.hid ((hb1.block _ hz0).trans hR0.out)
  have hB1 := Lib.hid (hB0.out.trans (hb1.mono (Nat.le_of_lt hz0)))
  clear hb1 hR0 hB0 hcut
  go_upto_region 2 with fail
  go_wp2_with fail
  refine (hpre.out _).mono ?_
  rintro e w1' ⟨rfl, rfl⟩
  have hbb : Below w1.heap.size w1 (w1.alloc (.cells #[.int .i64 0, .slice none 0 0] 36 (0, 0))) := Go.Joins.below_alloc1 _ _
  have hX2 := Lib.hid (heap_alloc_new w1 (.cells #[.int .i64 0, .slice none 0 0] 36 (0, 0)))
  have hz2 := Lib.hid (show w1.heap.size + 1 = (w1.alloc (.cells #[.int .i64 0, .slice none 0 0] 36 (0, 0))).heap.size by simp)
  have hR2 := Lib.hid ((hbb.block w.heap.size (by omega)).trans hR1.out)
  have hB2 := Lib.hid (hB1.out.trans (hbb.mono (by omega)))
  clear hbb hR1 hB1 hpre
  go_upto_region 4 with fail
  generalize w1.alloc (.cells #[.int .i64 0, .slice none 0 0] 36 (0, 0)) = w2 at *
  obtain ⟨X, hX⟩ : ∃ X, X = w1.heap.size := ⟨_, rfl⟩
  rw [← hX] at hX2 hz2 hz1 ⊢
  replace hX := Lib.hid hX
  have hz2' := hz2.out
  go_wp2_with fail
  refine (hdec.out _).mono ?_
  intro e w3 hA
  obtain ⟨u, t, rfl, hut, hb3⟩ := rd_form hA
  have hz3 := hb3.size
  have hX3 := (hb3.block X (by omega)).trans hX2.out
  have hR3 := (hb3.block w.heap.size (by omega)).trans hR2.out
  obtain ⟨x0, x1, xf, xl⟩ := set_two hX3
  have hX4 : Hid ((w3.setCell ⟨X, 0, none⟩ (.int .i64 u)).heap[X]? = some (.cells #[.int .i64 u, .slice none 0 0] 36 (0, 0))) := Go.Joins.block_setCell hX3 (i := 0) _
  have hR4 : Hid ((w3.setCell ⟨X, 0, none⟩ (.int .i64 u)).heap[w.heap.size]? = some (.cells #[.int .i64 0, .slice none 0 0] 36 (0, 0))) := (Below.heap_setCell _ _ _ _ (by show w.heap.size ≠ X; omega)).trans hR3
  have hB4 : Hid (Below w.heap.size w (w3.setCell ⟨X, 0, none⟩ (.int .i64 u))) := (hB2.out.trans (hb3.mono (by omega))).setCell (p := ⟨X, 0, none⟩) (by show w.heap.size ≤ X; omega) _
  have hz4 : (w3.setCell ⟨X, 0, none⟩ (.int .i64 u)).heap.size = w3.heap.size := by simp
  replace hz4 := Lib.hid hz4
  have hleft0 : Hid (f1 = true → f2 = true → Left s u [] rest0) := fun e1 e2 d h1 h2 => by
    rcases hcl with ⟨_, h3, h4⟩ | ⟨h3, _⟩
    · rw [h2, setT_cut] at h3
      obtain ⟨h5, h6⟩ := cut_uniq unitW_no h4 h3
      rcases hpc with ⟨_, h7⟩ | ⟨h7, _⟩
      · have h8 : p = decL d.unit := by
          rw [← h5] at h7
          unfold unitW at h7
          exact (List.append_cancel_left h7).symm
        have h9 := isDec_of (n := d.unit) h8 (by have := (setOk_gl h1).1; omega)
        rcases hut with ⟨_, hu⟩ | ⟨_, hu⟩
        · exact ⟨IsDec.unique h9 hu, 0, by simp, by rw [← h6]; simp⟩
        · exact absurd h9 (hu _)
      · rw [h7] at e2; cases e2
    · rw [h3] at e1; cases e1
  have hff : Hid ((∃ d, setOk d = true ∧ s.data.toList = setT d) → f1 = true ∧ f2 = true) := fun ⟨d, h1, h2⟩ => by
    rcases hcl with ⟨e1, h3, h4⟩ | ⟨h3, h4⟩
    · rw [h2, setT_cut] at h3
      obtain ⟨h5, h6⟩ := cut_uniq unitW_no h4 h3
      rcases hpc with ⟨e2, h7⟩ | ⟨h7, h8⟩
      · exact ⟨e1, e2⟩
      · exact absurd (by rw [← h5]; rfl) (h8 (decL d.unit))
    · rw [h2, setT_cut] at h4
      exact absurd rfl (h4 10 (by simp))
  clear hA hb3 hX2 hR2 hB2 hdec hcl hpc hut
  go_upto_region 5 with fail
  clear x0 x1 xf xl hX3 hR3
  generalize w3.setCell ⟨X, 0, none⟩ (.int .i64 u) = w4 at *
  have hz4' : w3.heap.size ≤ w4.heap.size := by rw [hz4.out]; exact Nat.le_refl _
  obtain ⟨r0, r1, rf, rl⟩ := set_two hR4.out
  by_cases hall : f1 = true ∧ f2 = true
  rotate_left
  · have hno : Hid (∀ d, setOk d = true → s.data.toList ≠ setT d) := fun d h1 h2 => hall (hff.out ⟨d, h1, h2⟩)
    clear hleft0 hff
    rcases f1 with _ | _ <;> rcases f2 with _ | _
    all_goals first | exact absurd ⟨rfl, rfl⟩ hall | skip
    all_goals
      clear hall
      go_wp2_with fail
      exact bodyPost_ret (v := .tuple #[.agg #[.int .i64 0, .slice none 0 0], .bool false]) (by simp [results, Tryz.results12, go_sem, r0, r1]) rfl (rs_no hno.out ((hB4.out.setCell (p := ⟨w.heap.size, 0, none⟩) (Nat.le_refl _) _).setCell (p := ⟨w.heap.size, 1, none⟩) (Nat.le_refl _) _))
  obtain ⟨rfl, rfl⟩ := hall
  have hleft : Hid (Left s u [] rest0) := by first | exact hleft0.out rfl rfl | exact hleft0.out trivial trivial
  clear hleft0
  clear hff r0 r1 rf rl
  obtain ⟨rs, hrs⟩ : ∃ rs : ByteArray, rs = ⟨rest0.toArray⟩ := ⟨_, rfl⟩
  have hrsz : rs.size ≤ s.size := by rw [hrs]; exact hr0
  have hrsd : rs.data.toList = rest0 := by rw [hrs]
  rw [← hrsd] at hleft
  rw [← hrs]
  clear hrs hrsd
  go_wp2_with fail
  go_loopw [5] (fun rv wr => ∃ (rest : ByteArray) (L : List Gl) (A : Option Addr) (n c : Nat) (ys : List Value) (hs : Nat → GlH) (iv : Nat → Nat × Nat), rv = .string rest ∧ n + rest.size ≤ s.size ∧ wr.heap[X]? = some (.cells #[.int .i64 u, .slice A n c] 36 (0, 0)) ∧ GsX wr (X + 1) wr.heap.size A n c L ys hs iv ∧ (∀ g ∈ L, RdG g) ∧ Left s u L rest.data.toList ∧ wr.heap[w.heap.size]? = some (.cells #[.int .i64 0, .slice none 0 0] 36 (0, 0)) ∧ X + 1 ≤ wr.heap.size ∧ Below w.heap.size w wr) (fun rv wr => match rv with | .string b => b.size | _ => 0)
  case atStart => exact ⟨rs, [], none, 0, 0, [], fun _ => nilH0, fun _ => (0, 0), rfl, by omega, hX4.out, GsX.none _ _ _ 0 _ _, fun g hg => (by cases hg), hleft.out, hR4.out, by omega, hB4.out⟩
  case round =>
    clear hX4 hR4 hB4 hleft hrsz
    obtain ⟨rest, L, A, n, c, ys, hs', iv, rfl, hnr, hXr, hgx, hLg, hlf, hRr, hzr, hbel⟩ := hrel
    obtain ⟨r0, r1, rf, rl⟩ := set_two hRr
    obtain ⟨x0, x1, xf, xl⟩ := set_two hXr
    have hmr := Lib.hid (hm.out.kept hbel hml)
    replace hXr := Lib.hid hXr
    replace hRr := Lib.hid hRr
    replace hgx := Lib.hid hgx
    replace hLg := Lib.hid hLg
    by_cases hre : rest.size = 0
    rotate_left
    · have hne : rest.data.toList ≠ [] := fun e => by
        have h1 : rest.data.toList.length = rest.size := by simp
        rw [e] at h1
        simp at h1; omega
      have tne : (rest.toList == []) = false := by
        rw [beq_eq_false_iff_ne, ByteArray.toList_eq]; exact hne
      have hix := Lib.hid (fun W (h : MaxI W) => (show Calls Tryz.prog 47 #[.string rest, .string ⟨#[10, 101, 110, 100, 10]⟩] W fun e w' => e = .returned (.int .i64 (Lib.index rest.data.toList patE)) ∧ W = w' from by
        obtain ⟨m, h⟩ := h
        exact (Tryz.strings_Index rest ⟨#[10, 101, 110, 100, 10]⟩ m W (by omega) h).mono fun e w' ⟨h1, h2⟩ => ⟨h1, h2.symm⟩))
      have hfm := ix_form rest.data.toList patE
      have hpz := Lib.hid (fun (j : Nat) => left_piece (j := j) hlf hne)
      have hpn := Lib.hid (left_no hlf hne)
      generalize Lib.index rest.data.toList patE = q at *
      replace hne := Lib.hid hne
      replace hlf := Lib.hid hlf
      go_upto_region 8 with fail
      go_wp2_with fail
      refine (hix.out _ hmr.out).mono ?_
      rintro e w5 ⟨rfl, rfl⟩
      rcases hfm with rfl | ⟨j, rfl, hjl⟩
      · have hno := Lib.hid (hpn.out rfl)
        clear hix hpz hpn
        go_wp2_with fail
        exact bodyPost_ret (v := .tuple #[.agg #[.int .i64 0, .slice none 0 0], .bool false]) (by simp [results, Tryz.results12, go_sem, r0, r1]) rfl (rs_no hno.out ((hbel.setCell (p := ⟨w.heap.size, 0, none⟩) (Nat.le_refl _) _).setCell (p := ⟨w.heap.size, 1, none⟩) (Nat.le_refl _) _))
      have hjl2 : j + 5 ≤ rest.size := by simpa [patE] using hjl
      have hnn : ¬ (j : Int) < 0 := by omega
      have hj5 : (0 : Int) ≤ ((j + 5 : Nat) : Int) ∧ ((j + 5 : Nat) : Int) ≤ (rest.size : Int) := by omega
      have hj6 : (j : Int) + 5 = ((j + 5 : Nat) : Int) := by omega
      have hpz2 := Lib.hid (hpz.out _ rfl)
      clear hjl hix hpz hpn
      obtain ⟨pc, hpc⟩ : ∃ pc : ByteArray, pc = rest.extract 0 (j + 5) := ⟨_, rfl⟩
      have hpcd : pc.data.toList = rest.data.toList.take (j + 5) := by rw [hpc, extract_list]; simp
      have hpcs : pc.size ≤ 1048576 := by rw [hpc, ByteArray.size_extract]; omega
      obtain ⟨nx, hnx⟩ : ∃ nx : ByteArray, nx = rest.extract (j + 5) rest.size := ⟨_, rfl⟩
      have hnxd : nx.data.toList = rest.data.toList.drop (j + 5) := by rw [hnx, extract_list, List.take_of_length_le (by simp)]
      have hnxs : nx.size + (j + 5) = rest.size := by rw [hnx, ByteArray.size_extract]; omega
      have hrg := Lib.hid (fun W h => implReadGlyph_any pc W h hpcs)
      have hpcx : rest.extract 0 (j + 5) = pc := hpc.symm
      have hnxx : rest.extract (j + 5) rest.size = nx := hnx.symm
      replace hpc := Lib.hid hpc
      replace hnx := Lib.hid hnx
      clear hj6
      replace hpcd := Lib.hid hpcd
      replace hnxd := Lib.hid hnxd
      replace hnxs := Lib.hid hnxs
      go_wp2_with fail
      refine (hrg.out _ hmr.out).mono ?_
      rintro e w6 ⟨d, h, t, rfl, hcase, huniq, hx6, hb6⟩
      have hz6 := hb6.size
      have hdg : RdG d := by
        rcases hcase with ⟨_, h1, _⟩ | ⟨_, rfl, _⟩
        · exact rdG_ok h1
        · exact rdG_0
      have hbb : Below w6.heap.size w6 (w6.alloc (.cells #[.string d.name, .int .i64 d.code, .int .i64 d.adv, .slice h.out.A h.out.n h.out.c, .slice h.parts.A h.parts.n h.parts.c, .slice h.anchors.A h.anchors.n h.anchors.c, .string d.hints] 28 (0, 0))) := Go.Joins.below_alloc1 _ _
      have hbw : Below wr.heap.size wr (w6.alloc (.cells #[.string d.name, .int .i64 d.code, .int .i64 d.adv, .slice h.out.A h.out.n h.out.c, .slice h.parts.A h.parts.n h.parts.c, .slice h.anchors.A h.anchors.n h.anchors.c, .string d.hints] 28 (0, 0))) := hb6.trans (hbb.mono hz6)
      have hZ7 := heap_alloc_new w6 (.cells #[.string d.name, .int .i64 d.code, .int .i64 d.adv, .slice h.out.A h.out.n h.out.c, .slice h.parts.A h.parts.n h.parts.c, .slice h.anchors.A h.anchors.n h.anchors.c, .string d.hints] 28 (0, 0))
      have hz7 : w6.heap.size + 1 = (w6.alloc (.cells #[.string d.name, .int .i64 d.code, .int .i64 d.adv, .slice h.out.A h.out.n h.out.c, .slice h.parts.A h.parts.n h.parts.c, .slice h.anchors.A h.anchors.n h.anchors.c, .string d.hints] 28 (0, 0))).heap.size := by simp
      have hK7 : Hid (∀ b, b < wr.heap.size → (w6.alloc (.cells #[.string d.name, .int .i64 d.code, .int .i64 d.adv, .slice h.out.A h.out.n h.out.c, .slice h.parts.A h.parts.n h.parts.c, .slice h.anchors.A h.anchors.n h.anchors.c, .string d.hints] 28 (0, 0))).heap[b]? = wr.heap[b]?) := fun b hb => hbw.block b hb
      have hB7 := Lib.hid (hbel.trans (hbw.mono hbel.size))
      have hx7 := Lib.hid (hx6.same (Below.sameB hbb (Nat.le_refl _)))
      have hst : Hid (∀ d0, setOk d0 = true → s.data.toList = setT d0 → t = true ∧ d0.unit = u ∧ ∃ k, L ++ [d] = d0.gl.take k ∧ nx.data.toList = (d0.gl.drop k).flatMap glyphT) := fun d0 h1 h2 => by
        obtain ⟨g, T, h3, h4, h5, h6, k, h7, h8⟩ := hpz2.out d0 h1 h2
        obtain ⟨h9, rfl⟩ := huniq g h3 (hpcd.out.trans h4)
        exact ⟨h9, h6, k + 1, h7, by rw [hnxd.out, h5, h8]⟩
      replace hbw := Lib.hid hbw
      clear x0 x1 xf xl r0 r1 rf rl hcase huniq hx6 hb6 hbb hrg hpz2 hpcd hpc
      go_upto_region 12 with fail
      generalize w6.alloc (.cells #[.string d.name, .int .i64 d.code, .int .i64 d.adv, .slice h.out.A h.out.n h.out.c, .slice h.parts.A h.parts.n h.parts.c, .slice h.anchors.A h.anchors.n h.anchors.c, .string d.hints] 28 (0, 0)) = w7 at *
      have hRr7 := (hK7.out w.heap.size (by omega)).trans hRr.out
      have hXr7 := (hK7.out X (by omega)).trans hXr.out
      obtain ⟨r0, r1, rf, rl⟩ := set_two hRr7
      obtain ⟨x0, x1, xf, xl⟩ := set_two hXr7
      cases t
      · have hno : Hid (∀ d, setOk d = true → s.data.toList ≠ setT d) := fun d0 h1 h2 => by
          have := (hst.out d0 h1 h2).1
          first | exact this.elim | cases this
        clear hst hZ7
        go_wp2_with fail
        exact bodyPost_ret (v := .tuple #[.agg #[.int .i64 0, .slice none 0 0], .bool false]) (by simp [results, Tryz.results12, go_sem, r0, r1]) rfl (rs_no hno.out ((hB7.out.setCell (p := ⟨w.heap.size, 0, none⟩) (Nat.le_refl _) _).setCell (p := ⟨w.heap.size, 1, none⟩) (Nat.le_refl _) _))
      obtain ⟨G, hG⟩ : ∃ G, G = w6.heap.size := ⟨_, rfl⟩
      rw [← hG] at hZ7 hz7 hz6 hx7 ⊢
      replace hG := Lib.hid hG
      have y0 : w7.cell? ⟨G, 0, none⟩ = some (.string d.name) := by rw [Go.Joins.cell_of_block hZ7]; rfl
      have y1 : w7.cell? ⟨G, 1, none⟩ = some (.int .i64 d.code) := by rw [Go.Joins.cell_of_block hZ7]; rfl
      have y2 : w7.cell? ⟨G, 2, none⟩ = some (.int .i64 d.adv) := by rw [Go.Joins.cell_of_block hZ7]; rfl
      have y3 : w7.cell? ⟨G, 3, none⟩ = some (.slice h.out.A h.out.n h.out.c) := by rw [Go.Joins.cell_of_block hZ7]; rfl
      have y4 : w7.cell? ⟨G, 4, none⟩ = some (.slice h.parts.A h.parts.n h.parts.c) := by rw [Go.Joins.cell_of_block hZ7]; rfl
      have y5 : w7.cell? ⟨G, 5, none⟩ = some (.slice h.anchors.A h.anchors.n h.anchors.c) := by rw [Go.Joins.cell_of_block hZ7]; rfl
      have y6 : w7.cell? ⟨G, 6, none⟩ = some (.string d.hints) := by rw [Go.Joins.cell_of_block hZ7]; rfl
      have yl : G < w7.heap.size := by omega
      have hown := Lib.hid (own_below hgx.out.2.1 hbw.out)
      have hob : Hid (∀ b, (Value.slice A n c).ownBlock = some b → X + 1 ≤ b ∧ b < wr.heap.size) := hgx.out.2.1.lt
      have hnb : n ≤ 1048576 := by omega
      replace hXr7 := Lib.hid hXr7
      replace hRr7 := Lib.hid hRr7
      clear hZ7 r0 r1 rf rl
      go_wp2_with (at_builtin; refine wpAppAt rfl (.tmp 56) (.tmp 58) elemGlyph rfl (v := .slice A n c) (n := n) (xs := ys) rfl (hown.out.alloc _) rfl (src_at (cs := [.string d.name, .int .i64 d.code, .int .i64 d.adv, .slice h.out.A h.out.n h.out.c, .slice h.parts.A h.parts.n h.parts.c, .slice h.anchors.A h.anchors.n h.anchors.c, .string d.hints]) rfl (by simp [Value.oneCell']) (by simp)) (by omega) (by omega) (by simp; omega) (n + 1) rfl ?_; intro A8 c8 w8 ho8 hg8 hn8; have hk8 : ∀ b, b < w7.heap.size → (b ≤ X ∨ wr.heap.size ≤ b) → w8.heap[b]? = w7.heap[b]? := (fun b hb hor => (hg8.block b (by simp; omega) (fun e => by have := hob.out b e.symm; omega)).trans (Below.heap_alloc _ _ _ hb)); have x8 : w8.cell? ⟨X, 1, none⟩ = some (.slice A n c) := (World.cell?_of_block (hk8 X (by omega) (.inl (Nat.le_refl _)))).trans x1; have f8 : ∀ o, w8.frozen? ⟨X, o, none⟩ = false := (fun o => (World.frozen?_of_block (hk8 X (by omega) (.inl (Nat.le_refl _)))).trans (xf o)); have hg8z := hg8.size; replace hk8 := Lib.hid hk8; replace ho8 := Lib.hid ho8; replace hg8 := Lib.hid hg8; replace hn8 := Lib.hid hn8)
      go_roundw
      case rel =>
        rw [hnxx]
        have hz8 : w7.heap.size + 1 ≤ w8.heap.size := by simpa using hg8z
        obtain ⟨ys9, hs9, iv9, hgn⟩ : ∃ ys9 hs9 iv9, GsX w8 (X + 1) w8.heap.size A8 (n + 1) c8 (L ++ [d]) ys9 hs9 iv9 := ⟨_, _, _, GsX.next hgx.out hzr (hbw.out.trans ((Go.Joins.below_alloc1 w7 (.cells #[.string d.name, .int .i64 d.code, .int .i64 d.adv, .slice h.out.A h.out.n h.out.c, .slice h.parts.A h.parts.n h.parts.c, .slice h.anchors.A h.anchors.n h.anchors.c, .string d.hints] 28 (0, 0))).mono hbw.out.size)) (hx7.out.same (Below.sameB (Go.Joins.below_alloc1 w7 _) (by omega))) hz6 (by simp; omega) ho8.out hg8.out (hn8.out.imp id fun e => ⟨_, by (simp; omega), e⟩)⟩
        refine ⟨nx, L ++ [d], A8, n + 1, c8, ys9, hs9, iv9, rfl, by have := hnxs.out; omega, Go.Joins.block_setCell ((hk8.out X (by omega) (.inl (Nat.le_refl _))).trans hXr7.out) (i := 1) _, ?_, fun g hg => ?_, ?_, ?_, by simp; omega, ?_⟩
        · rw [show (w8.setCell ⟨X, 1, none⟩ (.slice A8 (n + 1) c8)).heap.size = w8.heap.size by simp]
          exact hgn.same (SameB.setCell (p := ⟨X, 1, none⟩) (SameB.refl _ _ w8) (.inl (Nat.lt_succ_self X)) _)
        · rcases List.mem_append.1 hg with h1 | h1
          · exact hLg.out g h1
          · rw [List.mem_singleton.1 h1]; exact hdg
        · exact fun d0 h1 h2 => (hst.out d0 h1 h2).2
        · exact (Below.heap_setCell _ _ _ _ (by show w.heap.size ≠ X; omega)).trans ((hk8.out _ (by omega) (.inl (by omega))).trans hRr7.out)
        · exact ((hB7.out.alloc (by omega) _).grown hg8.out (by simp; omega) (fun b hb => by have := (hob.out b hb).1; omega)).setCell (p := ⟨X, 1, none⟩) (by show w.heap.size ≤ X; omega) _
      case measure =>
        have := hnxs.out
        show (rest.extract (j + 5) rest.size).size < rest.size
        rw [hnxx]; omega
    · have hrd : rest.data.toList = [] := by
        have h1 : rest.data.toList.length = rest.size := by simp
        exact List.eq_nil_of_length_eq_zero (by omega)
      have hre0 : rest = ⟨#[]⟩ := empty_of hrd
      rw [hrd] at hlf
      have hend := Lib.hid (left_end hlf)
      subst hre0
      clear hlf hre hrd
      have hgc := hgx.out.rdc (fun g hg => (hLg.out g hg).1.outSm)
      have hsmall : ∀ g ∈ L, g.small 1000000000 := fun g hg => ((hLg.out g hg).1.smallR).mono (by omega)
      have hstr : ∀ g ∈ L, g.str := fun g hg => (hLg.out g hg).2
      have hnn : n ≤ 1048576 := by omega
      have hLn := hgx.out.1
      have hv1 := Lib.hid (implOk_any u A n c (X + 1) wr.heap.size L _ rfl wr hgc (Nat.le_refl _) (by omega) hsmall hstr)
      have hv2 := Lib.hid (fun W (hb : Below wr.heap.size wr W) => implSetText_any ⟨u, L⟩ ⟨⟨A, n, c⟩⟩ _ rfl (X + 1) wr.heap.size W (hgc.frame good_glyphc (Below.sameB hb (Nat.le_refl _))) hb.size ⟨by show L.length ≤ _; omega, hsmall⟩ hstr)
      obtain ⟨G, hG⟩ : ∃ G, G = setR ⟨u, L⟩ := ⟨_, rfl⟩
      rw [← hG] at hv2
      replace hG := Lib.hid hG
      replace hLn := Lib.hid hLn
      clear hgc hsmall hstr hmr
      go_wp2_with fail
      refine hv1.out.mono ?_
      rintro e w5 ⟨rfl, hb5⟩
      have hz5 := hb5.size
      have hX5 := (hb5.block X xl).trans hXr.out
      have hR5 := (hb5.block _ rl).trans hRr.out
      have hB5 := Lib.hid (hbel.trans (hb5.mono hbel.size))
      have hg5 := Lib.hid (hgx.out.same (Below.sameB hb5 (Nat.le_refl _)))
      clear x0 x1 xf xl r0 r1 rf rl hv1
      obtain ⟨r0, r1, rf, rl⟩ := set_two hR5
      obtain ⟨x0, x1, xf, xl⟩ := set_two hX5
      have hb5' := Lib.hid hb5
      clear hb5
      cases hv : setOk ⟨u, L⟩
      · have hno : Hid (∀ d, setOk d = true → s.data.toList ≠ setT d) := fun d h1 h2 => by
          obtain ⟨e1, e2⟩ := hend.out d h1 h2
          rw [e1, e2] at hv
          have : setOk d = false := hv
          rw [this] at h1; cases h1
        replace hv := Lib.hid hv
        clear hv2 hend
        go_wp2_with fail
        exact bodyPost_ret (v := .tuple #[.agg #[.int .i64 0, .slice none 0 0], .bool false]) (by simp [results, Tryz.results12, go_sem, r0, r1]) rfl (rs_no hno.out ((hB5.out.setCell (p := ⟨w.heap.size, 0, none⟩) (Nat.le_refl _) _).setCell (p := ⟨w.heap.size, 1, none⟩) (Nat.le_refl _) _))
      replace hv := Lib.hid hv
      go_wp2_with fail
      refine (hv2.out _ hb5'.out).mono ?_
      rintro e w6 ⟨rfl, hb6⟩
      have hz6 := hb6.size
      have hX6 := (hb6.block X xl).trans hX5
      have hR6 := (hb6.block _ rl).trans hR5
      have hB6 := Lib.hid (hB5.out.trans (hb6.mono hB5.out.size))
      have hg6 := Lib.hid (hg5.out.same (Below.sameB hb6 (by omega)))
      clear x0 x1 xf xl r0 r1 rf rl hv2 hX5 hR5 hb6 hg5 hb5'
      obtain ⟨r0, r1, rf, rl⟩ := set_two hR6
      obtain ⟨x0, x1, xf, xl⟩ := set_two hX6
      have hne1 : ¬ X = w.heap.size := by omega
      have hne2 : ¬ w.heap.size = X := by omega
      by_cases hGs : G = s
      · have t9 : (G.toList == s.toList) = true := by rw [hGs]; simp
        have hyes : Hid (s.data.toList = setT ⟨u, L⟩) := by
          show s.data.toList = _
          rw [← hGs, hG.out]; unfold setR; rw [if_pos hv.out, bS_data]
        clear hGs
        go_wp2_with fail
        refine bodyPost_ret (v := .tuple #[.agg #[.int .i64 u, .slice A n c], .bool true]) (by simp [results, Tryz.results12, go_sem, r0, r1]) rfl ⟨u, L, A, n, c, ys, hs', iv, true, rfl, .inl ⟨rfl, hv.out, hyes.out⟩, fun d h1 h2 => ⟨rfl, hend.out d h1 h2⟩, ?_, (hB6.out.setCell (p := ⟨w.heap.size, 0, none⟩) (Nat.le_refl _) _).setCell (p := ⟨w.heap.size, 1, none⟩) (Nat.le_refl _) _⟩
        exact (hg6.out.same (((SameB.refl _ _ w6).setCell (.inl (by show w.heap.size < X + 1; omega)) _).setCell (.inl (by show w.heap.size < X + 1; omega)) _)).wide (by omega) (by simp; omega)
      · have t9 : (G.toList == s.toList) = false := by
          rw [beq_eq_false_iff_ne]
          intro h1
          rw [ByteArray.toList_eq, ByteArray.toList_eq] at h1
          exact hGs (by rw [mk_bytes (nm := G), mk_bytes (nm := s), h1])
        have hno : Hid (∀ d, setOk d = true → s.data.toList ≠ setT d) := fun d h1 h2 => by
          obtain ⟨e1, e2⟩ := hend.out d h1 h2
          apply hGs
          rw [hG.out]; unfold setR; rw [if_pos hv.out, e1, e2]
          rw [mk_bytes (nm := s), h2]; rfl
        clear hGs hend
        go_wp2_with fail
        exact bodyPost_ret (v := .tuple #[.agg #[.int .i64 0, .slice none 0 0], .bool false]) (by simp [results, Tryz.results12, go_sem, r0, r1]) rfl (rs_no hno.out ((hB6.out.setCell (p := ⟨w.heap.size, 0, none⟩) (Nat.le_refl _) _).setCell (p := ⟨w.heap.size, 1, none⟩) (Nat.le_refl _) _))
end Go.Proofs.YtgdkabljgabjoaaGreatDoor

/- The drawn points, and what an input chooses. Conditions: as each states. -/
namespace Go.Proofs.YtgdkabljgabjoaaGreatDoor
open Go.RowKit
set_option linter.unusedVariables false
set_option maxRecDepth 100000

theorem Src0.set {w : World} {b k x o : Nat} {v : Value} (h : Src0 w b k) (hx : b < x) : Src0 (w.setCell ⟨x, o, none⟩ v) b k := h.kept (B := b + 1) (Below.setCell (p := ⟨x, o, none⟩) (Below.refl (b + 1) w) hx v) (by omega)
theorem grown_setO {w W : World} {row : Option Nat} (h : w.grownBy W row) {x : Nat} (hx : w.heap.size ≤ x) (o : Nat) (u : Value) : w.grownBy (W.setCell ⟨x, o, none⟩ u) row :=
  ⟨h.os, h.tape, h.output, by simpa using h.size, fun i hi hn => (Below.heap_setCell W ⟨x, o, none⟩ u i (by simp only; omega)).trans (h.block i hi hn)⟩
def InSq (m : Int) (p : Int × Int) : Prop := (-m ≤ p.1 ∧ p.1 ≤ m) ∧ (-m ≤ p.2 ∧ p.2 ≤ m)
set_option maxHeartbeats 1000000 in
theorem l03Draw_any (b k : Nat) (m : Int) (w : World) (hs : Src0 w b k) (hk : k ≤ 999999800) (hm0 : 0 ≤ m) (hm1 : m ≤ 1000000000) :
    Calls Tryz.prog 132 #[.pointer (some ⟨b, 0, none⟩), .int .i64 m] w fun e w' => ∃ (x y : Int) (k' : Nat), e = .returned (.agg #[.int .i64 x, .int .i64 y]) ∧ InSq m (x, y) ∧ Src0 w' b k' ∧ k' ≤ k + 10 ∧ w.grownBy w' (some b) := by
  have hbl := hs.lt
  have hc := Lib.hid (l03Coord_any b k m (w.alloc (.cells #[.int .i64 0, .int .i64 0] 102 (0, 0))) (hs.kept (Go.Joins.below_alloc1 _ _) hbl) (by omega) hm0 hm1)
  clear hs
  go_enter Tryz.func132, Tryz.ntmps132
  go_wp2_with fail
  refine hc.out.mono ?_
  rintro e w1 ⟨x, k1, rfl, hx0, hx1, hs1, hk1, hg1⟩
  have hz1 := hg1.size
  simp at hz1
  have hn1 : Hid (w1.heap[w.heap.size]? = some (.cells #[.int .i64 0, .int .i64 0] 102 (0, 0))) := (hg1.block _ (by simp) (by intro e; injection e with e; omega)).trans (heap_alloc_new w _)
  have hc1 := Lib.hid (l03Coord_any b k1 m w1 hs1 (by omega) hm0 hm1)
  have hG1 := grown_tr (grown_of (Go.Joins.below_alloc1 _ _) (some b)) hg1
  clear hs1 hc hg1
  go_wp2_with fail
  refine hc1.out.mono ?_
  rintro e w2 ⟨y, k2, rfl, hy0, hy1, hs2, hk2, hg2⟩
  have hz2 := hg2.size
  have hn2 : Hid (w2.heap[w.heap.size]? = some (.cells #[.int .i64 0, .int .i64 0] 102 (0, 0))) := (hg2.block _ (by omega) (by intro e; injection e with e; omega)).trans hn1.out
  have hG2 := Lib.hid (grown_tr hG1 hg2)
  have r0 : w2.cell? ⟨w.heap.size, 0, none⟩ = some (.int .i64 0) := by rw [Go.Joins.cell_of_block hn2.out]; rfl
  have r1 : w2.cell? ⟨w.heap.size, 1, none⟩ = some (.int .i64 0) := by rw [Go.Joins.cell_of_block hn2.out]; rfl
  have rf : ∀ o, w2.frozen? ⟨w.heap.size, o, none⟩ = false := Go.Joins.unfrozen_of_block hn2.out
  have hz : w.heap.size < w2.heap.size := by omega
  replace hs2 := Lib.hid hs2
  clear hc1 hn1 hG1 hg2
  go_wp2_with fail
  refine bodyPost_ret (v := .agg #[.int .i64 x, .int .i64 y]) (by simp [results, Tryz.results132, go_sem, r0, r1]) rfl ⟨x, y, k2, rfl, ⟨⟨by omega, by omega⟩, by omega, by omega⟩, ?_, by omega, ?_⟩
  · exact (hs2.out.set hbl).set hbl
  · exact grown_setO (grown_setO hG2.out (Nat.le_refl _) _ _) (Nat.le_refl _) _ _
theorem l00From_any (A : Option Addr) (n c : Nat) (w : World) :
    Calls Tryz.prog 53 #[.slice A n c] w fun e w' => e = .returned (.pointer (some ⟨w.heap.size, 0, none⟩)) ∧ SrcR w' w.heap.size A n c 0 0 ∧ Below w.heap.size w w' := by
  go_enter Tryz.func53, Tryz.ntmps53
  go_wp2_with fail
  go_ret
  exact ⟨rfl, heap_alloc_new w _, Go.Joins.below_alloc1 _ _⟩
theorem InSq.mono {m k : Int} {p : Int × Int} (h : InSq m p) (hk : m ≤ k) : InSq k p := ⟨⟨by have := h.1.1; omega, by have := h.1.2; omega⟩, by have := h.2.1; omega, by have := h.2.2; omega⟩
theorem cell_setO {w : World} {b o x o' : Nat} {v : Value} (h : b ≠ x) : (w.setCell ⟨x, o', none⟩ v).cell? ⟨b, o, none⟩ = w.cell? ⟨b, o, none⟩ := World.cell?_of_block (Below.heap_setCell w ⟨x, o', none⟩ v b h)
abbrev Six (w : World) (b c d : Nat) (x0 x1 y0 y1 z0 z1 : Int) : Prop := w.cell? ⟨b, 0, none⟩ = some (.int .i64 x0) ∧ w.cell? ⟨b, 1, none⟩ = some (.int .i64 x1) ∧ w.cell? ⟨c, 0, none⟩ = some (.int .i64 y0) ∧ w.cell? ⟨c, 1, none⟩ = some (.int .i64 y1) ∧ w.cell? ⟨d, 0, none⟩ = some (.int .i64 z0) ∧ w.cell? ⟨d, 1, none⟩ = some (.int .i64 z1)
theorem Six.set {w : World} {b c d : Nat} {x0 x1 y0 y1 z0 z1 : Int} {x o : Nat} {v : Value} (h : Six w b c d x0 x1 y0 y1 z0 z1) (hb : x < b) (hc : x < c) (hd : x < d) : Six (w.setCell ⟨x, o, none⟩ v) b c d x0 x1 y0 y1 z0 z1 :=
  ⟨(cell_setO (by omega)).trans h.1, (cell_setO (by omega)).trans h.2.1, (cell_setO (by omega)).trans h.2.2.1, (cell_setO (by omega)).trans h.2.2.2.1, (cell_setO (by omega)).trans h.2.2.2.2.1, (cell_setO (by omega)).trans h.2.2.2.2.2⟩
def PtAt (w : World) (b : Nat) (x y : Int) : Prop := w.heap[b]? = some (.cells #[.int .i64 x, .int .i64 y] 102 (0, 0))
theorem PtAt.grown {w w' : World} {b g : Nat} {x y : Int} (h : PtAt w b x y) (hg : w.grownBy w' (some g)) (hn : b ≠ g) : PtAt w' b x y := by
  have hl : b < w.heap.size := (Array.getElem?_eq_some_iff.1 h).1
  exact (hg.block b hl (by intro e; injection e with e; exact hn e)).trans h
theorem PtAt.below {w w' : World} {b : Nat} {x y : Int} (h : PtAt w b x y) (hb : Below w.heap.size w w') : PtAt w' b x y := by
  have hl : b < w.heap.size := (Array.getElem?_eq_some_iff.1 h).1
  exact (hb.block b hl).trans h
theorem PtAt.cells {w : World} {b : Nat} {x y : Int} (h : PtAt w b x y) : w.cell? ⟨b, 0, none⟩ = some (.int .i64 x) ∧ w.cell? ⟨b, 1, none⟩ = some (.int .i64 y) ∧ (∀ o, w.frozen? ⟨b, o, none⟩ = false) ∧ b < w.heap.size :=
  ⟨by rw [Go.Joins.cell_of_block h]; rfl, by rw [Go.Joins.cell_of_block h]; rfl, Go.Joins.unfrozen_of_block h, (Array.getElem?_eq_some_iff.1 h).1⟩
theorem PtAt.put {w : World} {b : Nat} {x y : Int} (h : PtAt w b x y) (x' y' : Int) : PtAt ((w.setCell ⟨b, 0, none⟩ (.int .i64 x')).setCell ⟨b, 1, none⟩ (.int .i64 y')) b x' y' :=
  Go.Joins.block_setCell (Go.Joins.block_setCell h (.int .i64 x')) (.int .i64 y')
theorem PtAt.off {w : World} {b : Nat} {x y : Int} (h : PtAt w b x y) {c o : Nat} {v : Value} (hc : b ≠ c) : PtAt (w.setCell ⟨c, o, none⟩ v) b x y := (Below.heap_setCell w ⟨c, o, none⟩ v b hc).trans h
end Go.Proofs.YtgdkabljgabjoaaGreatDoor

