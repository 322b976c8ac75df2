/- The reading of a line of a program, both sides. Conditions: as each states. -/
import Derived.Test.YtjmogpolipinlaaDoorHtAsmP
import Derived.Test.YtjmogpolipinlaaDoorHtNum
import Derived.Test.YtjmogpolipinlaaDoorCut
import Derived.Test.YtjmogpolipinlaaDoorHint
import Derived.Deep.RegionHeld3
import Derived.Deep.DeepCutAuto
namespace Go.Proofs.YtjmogpolipinlaaDoor
open Go.RowKit
set_option linter.unusedVariables false
set_option maxRecDepth 100000

def LinePost (s : ByteArray) (w : World) (e : Ending) (w' : World) : Prop := ∃ (o : Option (Int × Int)) (c v : Int), LineR s.data.toList o ∧ (∀ p, o = some p → p = (c, v)) ∧ e = .returned (.tuple #[hintV c v, .bool o.isSome]) ∧ Below w.heap.size w w'
theorem bytes_back (s : ByteArray) : bytesOf s.data.toList = s := by cases s; rfl
theorem bytes_sub {s : ByteArray} {a : List UInt8} (hs : s.size ≤ 1048576) (ha : a ∈ splitF 32 s.data.toList) : (bytesOf a).size ≤ 1048576 := by
  have key : ∀ (n : Nat) (l : List UInt8), l.length ≤ n → ∀ a ∈ splitF 32 l, a.length ≤ l.length := by
    intro n
    induction n with
    | zero =>
      intro l h a ha
      obtain rfl : l = [] := List.length_eq_zero_iff.1 (by omega)
      simp [splitF] at ha
      rw [ha]; simp
    | succ n ih =>
      intro l h a ha
      rcases first_at 32 l with h1 | ⟨p, r, rfl, h1⟩
      · rw [splitF_last 32 l h1, List.mem_singleton] at ha
        rw [ha]; exact Nat.le_refl _
      · rw [splitF_hit 32 p r h1] at ha
        rcases List.mem_cons.1 ha with rfl | ha
        · simp
        · have := ih r (by simp at h; omega) a ha
          simp; omega
  have h := key _ _ (Nat.le_refl _) a ha
  have e : (bytesOf a).size = a.length := rfl
  have e2 : s.data.toList.length = s.size := by simp
  omega
/-- the parts of a line, its code known -/
theorem line_at {s : ByteArray} {word : List UInt8} {rest : List (List UInt8)} {c : Int} (hsp : splitF 32 s.data.toList = word :: rest) (hf : FirstAt htNames (bytesOf word) c) :
    (∀ c' v, LineIs s.data.toList c' v → c' = c ∧ validHint c v = true ∧ ((opBytes c = 0 ∧ rest = [] ∧ v = 0) ∨ (¬ opBytes c = 0 ∧ ∃ num, rest = [num] ∧ IsDec (bytesOf num) v))) := by
  rintro c' v ⟨wd, hf', ho, hv⟩
  have hw : wd = word := by
    rcases ho with ⟨_, h1, _⟩ | ⟨_, n, h1, _⟩ <;> rw [hsp] at h1 <;> injection h1 with h1 _ <;> exact h1.symm
  subst hw
  have hc := hf'.unique hf
  subst hc
  refine ⟨rfl, hv, ?_⟩
  rcases ho with ⟨g, h1, h2⟩ | ⟨g, n, h1, h2⟩
  · rw [hsp] at h1; injection h1 with _ h1; exact .inl ⟨g, h1, h2⟩
  · rw [hsp] at h1; injection h1 with _ h1; exact .inr ⟨g, n, h1, h2⟩

theorem line_yes {s : ByteArray} {word : List UInt8} {rest : List (List UInt8)} {c v : Int} (hsp : splitF 32 s.data.toList = word :: rest) (hf : FirstAt htNames (bytesOf word) c) (h : (opBytes c = 0 ∧ rest = [] ∧ v = 0) ∨ (¬ opBytes c = 0 ∧ ∃ num, rest = [num] ∧ IsDec (bytesOf num) v)) :
    LineR s.data.toList (if validHint c v = true then some (c, v) else none) ∧ (∀ p, (if validHint c v = true then some (c, v) else none) = some p → p = (c, v)) ∧ (if validHint c v = true then some (c, v) else none).isSome = validHint c v := by
  by_cases hv : validHint c v = true
  · rw [if_pos hv]
    refine ⟨⟨word, hf, ?_, hv⟩, fun p hp => (Option.some.inj hp).symm, hv.symm⟩
    rcases h with ⟨g, rfl, g2⟩ | ⟨g, n, rfl, g2⟩
    · exact .inl ⟨g, hsp, g2⟩
    · exact .inr ⟨g, n, hsp, g2⟩
  · rw [if_neg hv]
    refine ⟨fun c' v' hl => ?_, fun p hp => by (cases hp), by simp at hv; rw [hv]; rfl⟩
    obtain ⟨_, h2, h3⟩ := line_at hsp hf c' v' hl
    have : v' = v := by
      rcases h with ⟨g, _, g2⟩ | ⟨g, n, g1, g2⟩ <;> rcases h3 with ⟨k, _, k2⟩ | ⟨k, m, k1, k2⟩
      · rw [g2, k2]
      · exact absurd g k
      · exact absurd k g
      · rw [g1] at k1; injection k1 with k1 _; subst k1; exact k2.unique g2
    subst this
    exact hv h2
/-- a box with an instruction -/
def HtAt (w : World) (b : Nat) (x y : Int) : Prop := w.heap[b]? = some (.cells #[.int .i64 x, .int .i64 y] 35 (0, 0))
theorem HtAt.below {w w' : World} {b : Nat} {x y : Int} (h : HtAt w b x y) (hb : Below w.heap.size w w') : HtAt w' b x y := by
  have hl : b < w.heap.size := (Array.getElem?_eq_some_iff.1 h).1
  exact (hb.block b hl).trans h
theorem HtAt.cells {w : World} {b : Nat} {x y : Int} (h : HtAt w b x y) : w.cell? ⟨b, 0, none⟩ = some (.int .i64 x) ∧ w.cell? ⟨b, 1, none⟩ = some (.int .i64 y) ∧ (∀ o, w.frozen? ⟨b, o, none⟩ = false) ∧ b < w.heap.size :=
  ⟨by rw [Go.Joins.cell_of_block h]; rfl, by rw [Go.Joins.cell_of_block h]; rfl, Go.Joins.unfrozen_of_block h, (Array.getElem?_eq_some_iff.1 h).1⟩
theorem HtAt.put {w : World} {b : Nat} {x y : Int} (h : HtAt w b x y) (x' y' : Int) : HtAt ((w.setCell ⟨b, 0, none⟩ (.int .i64 x')).setCell ⟨b, 1, none⟩ (.int .i64 y')) b x' y' :=
  Go.Joins.block_setCell (Go.Joins.block_setCell h (.int .i64 x')) (.int .i64 y')
theorem HtAt.put1 {w : World} {b : Nat} {x y : Int} (h : HtAt w b x y) (y' : Int) : HtAt (w.setCell ⟨b, 1, none⟩ (.int .i64 y')) b x y' := Go.Joins.block_setCell h (.int .i64 y')
theorem HtAt.off {w : World} {b : Nat} {x y : Int} (h : HtAt w b x y) {c o : Nat} {v : Value} (hc : b ≠ c) : HtAt (w.setCell ⟨c, o, none⟩ v) b x y := (Below.heap_setCell w ⟨c, o, none⟩ v b hc).trans h
theorem HtAt.drew {w : World} {b : Nat} {x y : Int} (h : HtAt w b x y) : HtAt w.drew b x y := h
theorem HtAt.alloc {w : World} {b : Nat} {x y : Int} (h : HtAt w b x y) (o : Obj) : HtAt (w.alloc o) b x y := h.below (Go.Joins.below_alloc1 _ _)

set_option maxHeartbeats 8000000 in
theorem l19Line_any (s : ByteArray) (w : World) (hs : s.size ≤ 1048576) :
    Calls Tryd.prog 45 #[.string s] w fun e w' => LinePost s w e w' := by
  obtain ⟨word, rest, hsp⟩ := List.exists_cons_of_ne_nil (splitF_ne 32 s.data.toList)
  have hwm := Lib.hid (bytes_sub (a := word) hs (by rw [hsp]; exact List.mem_cons_self ..))
  have hrm := Lib.hid (fun a (h : a ∈ rest) => bytes_sub (a := a) hs (by rw [hsp]; exact List.mem_cons_of_mem _ h))
  have hcs := Lib.hid (fun W => l01Split_any s 32 W hs)
  rw [hsp] at hcs
  have hln := Lib.hid (fun c hf => line_at (c := c) hsp hf)
  have hsp' := Lib.hid hsp
  clear hsp
  go_enter Tryd.func45, Tryd.ntmps45
  go_wp2_with fail
  refine (hcs.out _).mono ?_
  rintro e w1 ⟨A, c, n, hn, rfl, hown, hb1⟩
  obtain ⟨g, rfl, hg1, hg2, _, hcell, _⟩ := own_at hown (by rw [hn]; simp)
  have c0 : w1.cell? ⟨g, 0, none⟩ = some (.string (bytesOf word)) := hcell 0 (by rw [hn]; simp)
  have c1 : ∀ num, rest = [num] → w1.cell? ⟨g, 1, none⟩ = some (.string (bytesOf num)) := fun num h => by
    have := hcell 1 (by rw [hn, h]; simp)
    rw [this, h]; rfl
  replace c1 := Lib.hid c1
  replace hn : n = rest.length + 1 := by rw [hn]; simp
  have hn1 : 1 ≤ n := by omega
  replace hn := Lib.hid hn
  clear hcell hown hcs
  have hn0 : (0 : Int) ≤ 0 ∧ (0 : Int) < (n : Int) := by omega
  go_wp2_with fail
  refine (specHintNamed_any (bytesOf word) _).mono ?_
  rintro e w2 ⟨code, rfl, hf, hb2⟩
  have hx0 : HtAt (w.alloc (.cells #[.int .i64 0, .int .i64 0] 35 (0, 0))) w.heap.size 0 0 := heap_alloc_new w _
  have hB1 : Below w.heap.size w w1 := (Go.Joins.below_alloc1 w (.cells #[.int .i64 0, .int .i64 0] 35 (0, 0))).trans (hb1.mono (by simp))
  have hx2 := (hx0.below hb1).below hb2
  have hB2 := hB1.trans (hb2.mono hB1.size)
  have hz2 := hb2.size
  have hz1 : w.heap.size < w1.heap.size := by have := hb1.size; simp at this; omega
  have hlt : ∀ c' v, LineIs s.data.toList c' v → _ := hln.out code hf
  replace hlt := Lib.hid hlt
  have c2 := Lib.hid (fun num h => (hb2.cell (p := ⟨g, 1, none⟩) hg2).trans (c1.out num h))
  have hbc := opBytes_cases code
  have hfH := Lib.hid hf
  clear hb1 hx0 c0 c1 hln hf hb2
  obtain ⟨W, hW⟩ : ∃ W, W = w2.alloc (.cells #[.int .i64 code, .int .i64 0] 35 (0, 0)) := ⟨_, rfl⟩
  have hxW : HtAt W w.heap.size 0 0 := hW ▸ hx2.alloc _
  have hhW : HtAt W w2.heap.size code 0 := hW ▸ heap_alloc_new w2 _
  have hBW : Below w.heap.size w W := hW ▸ hB2.alloc hB2.size _
  have hcW : Hid (∀ num, rest = [num] → W.cell? ⟨g, 1, none⟩ = some (.string (bytesOf num))) := fun num h => by
    rw [hW, World.cell?_alloc_lt _ _ _ (by show g < _; omega)]; exact c2.out num h
  have hgW : g < W.heap.size := by rw [hW]; simp; omega
  have hbt := Lib.hid (fun (W : World) => l19Bytes_any code W)
  clear hx2 hB2 c2
  obtain ⟨x0, x1, xf, xl⟩ := hxW.cells
  obtain ⟨h0, h1, hf', hl⟩ := hhW.cells
  replace hxW := Lib.hid hxW
  replace hhW := Lib.hid hhW
  replace hBW := Lib.hid hBW
  have hne : w.heap.size ≠ w2.heap.size := by omega
  have hne2 : w2.heap.size ≠ w.heap.size := by omega
  go_wp2_with fail
  rw [← hW]
  clear hW
  refine (hbt.out W).mono ?_
  rintro e w' ⟨rfl, rfl⟩
  rcases (show opBytes code = 0 ∨ ¬ opBytes code = 0 by omega) with hop | hop
  · rw [hop]
    by_cases hr : rest = []
    · obtain rfl : n = 1 := by rw [hn.out, hr]; rfl
      have hyes := Lib.hid (line_yes (v := 0) hsp'.out hfH.out (.inl ⟨hop, hr, rfl⟩))
      clear hr
      go_upto_region 13 with fail
      go_region_law (go_simp; go_at_call 61; refine (l19Hint_any _ _ _).mono ?_; rintro e w' ⟨rfl, hbw⟩; (first | (have hle : w.heap.size ≤ W.drew.heap.size := (by show w.heap.size ≤ W.heap.size; omega); have hB' : Below w.heap.size w w' := (Below.drew hBW.out).trans (hbw.mono hle); have hx' : HtAt w' w.heap.size 0 0 := HtAt.below (HtAt.drew hxW.out) hbw; have hh' : HtAt w' w2.heap.size code 0 := HtAt.below (HtAt.drew hhW.out) hbw) | (have hle : w.heap.size ≤ ((W.drew.setCell ⟨w.heap.size, 0, none⟩ (.int .i64 code)).setCell ⟨w.heap.size, 1, none⟩ (.int .i64 0)).heap.size := (by simp; omega); have hB' : Below w.heap.size w w' := (((Below.drew hBW.out).setCell (p := ⟨w.heap.size, 0, none⟩) (Nat.le_refl _) _).setCell (p := ⟨w.heap.size, 1, none⟩) (Nat.le_refl _) _).trans (hbw.mono hle); have hx' : HtAt w' w.heap.size code 0 := HtAt.below (HtAt.put (HtAt.drew hxW.out) _ _) hbw; have hh' : HtAt w' w2.heap.size code 0 := HtAt.below (((HtAt.drew hhW.out).off hne2).off hne2) hbw)); obtain ⟨x0', x1', xf', xl'⟩ := hx'.cells; obtain ⟨h0', h1', hf'', hl'⟩ := hh'.cells; replace hx' := Lib.hid hx'; replace hh' := Lib.hid hh'; replace hB' := Lib.hid hB'; clear hbw hle; dsimp only)
      all_goals
        go_wp2_with fail
        refine bodyPost_ret (v := .tuple #[hintV code 0, .bool (validHint code 0)]) (by simp [results, Tryd.results45, go_sem, x0', x1']) rfl ?_
        refine ⟨_, code, 0, hyes.out.1, hyes.out.2.1, by rw [hyes.out.2.2], ?_⟩
        first
          | with_reducible exact hB'.out
          | exact (hB'.out.setCell (p := ⟨w.heap.size, 0, none⟩) (Nat.le_refl _) _).setCell (p := ⟨w.heap.size, 1, none⟩) (Nat.le_refl _) _
    · have hn2 : ¬ n = 1 := by
        rw [hn.out]
        intro h
        exact hr (List.length_eq_zero_iff.1 (by omega))
      have t1 : ((n : Int) != 1) = true := by simp; omega
      have hno : LineR s.data.toList none := fun c' v h => by
        obtain ⟨_, _, ⟨_, h2, _⟩ | ⟨h2, _⟩⟩ := hlt.out c' v h
        · exact hr h2
        · exact h2 hop
      replace hno := Lib.hid hno
      clear hr
      go_wp2_with fail
      refine bodyPost_ret (v := .tuple #[hintV 0 0, .bool false]) (by simp [results, Tryd.results45, go_sem, x0, x1]) rfl ⟨none, 0, 0, hno.out, (fun p h => by cases h), rfl, ?_⟩
      exact (hBW.out.setCell (p := ⟨w.heap.size, 0, none⟩) (Nat.le_refl _) _).setCell (p := ⟨w.heap.size, 1, none⟩) (Nat.le_refl _) _
  · have hop2 : opBytes code = 1 ∨ opBytes code = 2 := by rcases hbc with h | h | h <;> omega
    have hop3 : (0 : Int) < opBytes code := by omega
    by_cases hr : ∃ num, rest = [num]
    · obtain ⟨num, hr⟩ := hr
      obtain rfl : n = 2 := by rw [hn.out, hr]; rfl
      have q1 := hcW.out num hr
      have hnm := hrm.out num (by rw [hr]; exact List.mem_cons_self ..)
      have hnum := Lib.hid (fun W => l01Number_any (bytesOf num) W hnm)
      have hrH := Lib.hid hr
      clear hr hop2
      go_wp2_with fail
      refine (hnum.out W).mono ?_
      rintro e w3 (⟨v, hd, rfl, hb3⟩ | ⟨hno, rfl, hb3⟩)
      · have hyes := Lib.hid (line_yes (v := v) hsp'.out hfH.out (.inr ⟨hop, num, hrH.out, hd⟩))
        replace hxW := Lib.hid (hxW.out.below hb3)
        replace hhW := Lib.hid (hhW.out.below hb3)
        replace hBW := Lib.hid (hBW.out.trans (hb3.mono hBW.out.size))
        clear x0 x1 xf xl h0 h1 hf' hl hd q1 hcW
        obtain ⟨x0, x1, xf, xl⟩ := hxW.out.cells
        obtain ⟨h0, h1, hf', hl⟩ := hhW.out.cells
        clear hb3 hgW
        go_upto_region 13 with fail
        have hhP := Lib.hid (hhW.out.put1 v)
        have hxP := Lib.hid (HtAt.off (o := 1) (v := .int .i64 v) hxW.out hne)
        have hBP := Lib.hid (hBW.out.setCell (p := ⟨w2.heap.size, 1, none⟩) (by show w.heap.size ≤ w2.heap.size; omega) (.int .i64 v))
        have hlP : w2.heap.size < (w3.setCell ⟨w2.heap.size, 1, none⟩ (.int .i64 v)).heap.size := by simpa using hl
        clear hxW hhW hBW h0 h1 hf' hl x0 x1 xf xl
        generalize w3.setCell ⟨w2.heap.size, 1, none⟩ (.int .i64 v) = w4 at *
        obtain ⟨x0, x1, xf, xl⟩ := hxP.out.cells
        obtain ⟨h0, h1, hf', hl⟩ := hhP.out.cells
        go_region_law (go_simp; go_at_call 61; refine (l19Hint_any _ _ _).mono ?_; rintro e w' ⟨rfl, hbw⟩; (first | (have hle : w.heap.size ≤ w4.drew.heap.size := (by show w.heap.size ≤ w4.heap.size; omega); have hB' : Below w.heap.size w w' := (Below.drew hBP.out).trans (hbw.mono hle); have hx' : HtAt w' w.heap.size 0 0 := HtAt.below (HtAt.drew hxP.out) hbw; have hh' : HtAt w' w2.heap.size code v := HtAt.below (HtAt.drew hhP.out) hbw) | (have hle : w.heap.size ≤ ((w4.drew.setCell ⟨w.heap.size, 0, none⟩ (.int .i64 code)).setCell ⟨w.heap.size, 1, none⟩ (.int .i64 v)).heap.size := (by simp; omega); have hB' : Below w.heap.size w w' := (((Below.drew hBP.out).setCell (p := ⟨w.heap.size, 0, none⟩) (Nat.le_refl _) _).setCell (p := ⟨w.heap.size, 1, none⟩) (Nat.le_refl _) _).trans (hbw.mono hle); have hx' : HtAt w' w.heap.size code v := HtAt.below (HtAt.put (HtAt.drew hxP.out) _ _) hbw; have hh' : HtAt w' w2.heap.size code v := HtAt.below (((HtAt.drew hhP.out).off hne2).off hne2) hbw)); obtain ⟨x0', x1', xf', xl'⟩ := hx'.cells; obtain ⟨h0', h1', hf'', hl'⟩ := hh'.cells; replace hx' := Lib.hid hx'; replace hh' := Lib.hid hh'; replace hB' := Lib.hid hB'; clear hbw hle; dsimp only)
        all_goals
          go_wp2_with fail
          refine bodyPost_ret (v := .tuple #[hintV code v, .bool (validHint code v)]) (by simp [results, Tryd.results45, go_sem, x0', x1']) rfl ?_
          refine ⟨_, code, v, hyes.out.1, hyes.out.2.1, by rw [hyes.out.2.2], ?_⟩
          first
            | with_reducible exact hB'.out
            | exact (hB'.out.setCell (p := ⟨w.heap.size, 0, none⟩) (Nat.le_refl _) _).setCell (p := ⟨w.heap.size, 1, none⟩) (Nat.le_refl _) _
      · have hn0' : LineR s.data.toList none := fun c' v h => by
          obtain ⟨_, _, ⟨h2, _⟩ | ⟨_, m, h2, h3⟩⟩ := hlt.out c' v h
          · exact hop h2
          · rw [hrH.out] at h2; injection h2 with h2 _; subst h2; exact hno v h3
        replace hn0' := Lib.hid hn0'
        replace hxW := Lib.hid (hxW.out.below hb3)
        replace hBW := Lib.hid (hBW.out.trans (hb3.mono hBW.out.size))
        clear x0 x1 xf xl h0 h1 hf' hl q1 hcW hno
        obtain ⟨x0, x1, xf, xl⟩ := hxW.out.cells
        clear hb3 hgW
        go_wp2_with fail
        refine bodyPost_ret (v := .tuple #[hintV 0 0, .bool false]) (by simp [results, Tryd.results45, go_sem, x0, x1]) rfl ⟨none, 0, 0, hn0'.out, (fun p h => by cases h), rfl, ?_⟩
        exact (hBW.out.setCell (p := ⟨w.heap.size, 0, none⟩) (Nat.le_refl _) _).setCell (p := ⟨w.heap.size, 1, none⟩) (Nat.le_refl _) _
    · have hn2 : ¬ n = 2 := by
        rw [hn.out]
        intro h
        exact hr (List.length_eq_one_iff.1 (by omega))
      have t1 : ((n : Int) != 2) = true := by simp; omega
      have hno : LineR s.data.toList none := fun c' v h => by
        obtain ⟨_, _, ⟨h2, _⟩ | ⟨_, m, h2, _⟩⟩ := hlt.out c' v h
        · exact hop h2
        · exact hr ⟨m, h2⟩
      replace hno := Lib.hid hno
      clear hr
      go_wp2_with fail
      refine bodyPost_ret (v := .tuple #[hintV 0 0, .bool false]) (by simp [results, Tryd.results45, go_sem, x0, x1]) rfl ⟨none, 0, 0, hno.out, (fun p h => by cases h), rfl, ?_⟩
      exact (hBW.out.setCell (p := ⟨w.heap.size, 0, none⟩) (Nat.le_refl _) _).setCell (p := ⟨w.heap.size, 1, none⟩) (Nat.le_refl _) _
end Go.Proofs.YtjmogpolipinlaaDoor
