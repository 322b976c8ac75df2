
import Derived.BigQuiet
import Derived.Deep.RegionHeld3
import Derived.Test.YtgngcllodofimaaAsk
import Derived.Test.YtgngcllodofimaaOrdS
import Derived.Test.YtgngcllodofimaaOkS
import Derived.Test.YtgngcllodofimaaBoxS
import Derived.Test.YtgngcllodofimaaMkAll
import Derived.Test.YtgngcllodofimaaMkAll
/- The users of a glyph: the reference's side. Conditions: as each states. -/
namespace Go.Proofs.Ytgngcllodofimaa
open Go.RowKit
set_option linter.unusedVariables false
set_option maxRecDepth 100000

/-! ### plain -/
def usesB (g : Gl) (x : Int) : Bool := g.parts.any fun p => decide (p.1 = x)
def usedIn (ps : List Part) (x : Int) : Bool := ps.any fun p => decide (p.1 = x)
def usersT (L : List Gl) (x : Int) : Nat → List Int
  | 0 => []
  | k + 1 => match L[k]? with
    | some g => if usedIn g.parts x then usersT L x k ++ [(k : Int)] else usersT L x k
    | none => usersT L x k
theorem usersT_lt {L : List Gl} {x : Int} : ∀ {k : Nat}, ∀ y ∈ usersT L x k, y < (k : Int)
  | 0 => fun y h => by simp [usersT] at h
  | k + 1 => fun y h => by
    unfold usersT at h
    have ih := usersT_lt (L := L) (x := x) (k := k) y
    split at h
    · split at h
      · rw [List.mem_append] at h
        rcases h with h | h
        · have := ih h; omega
        · simp at h; omega
      · have := ih h; omega
    · have := ih h; omega
theorem usersT_len {L : List Gl} {x : Int} : ∀ {k : Nat}, (usersT L x k).length ≤ k
  | 0 => by simp [usersT]
  | k + 1 => by
    unfold usersT
    have ih := usersT_len (L := L) (x := x) (k := k)
    split
    · split
      · simp; omega
      · omega
    · omega
theorem usersT_next {L : List Gl} {x : Int} {k : Nat} {g : Gl} (h : L[k]? = some g) : usersT L x (k + 1) = if usedIn g.parts x then usersT L x k ++ [(k : Int)] else usersT L x k := by
  show (match L[k]? with
    | some g => if usedIn g.parts x then usersT L x k ++ [(k : Int)] else usersT L x k
    | none => usersT L x k) = _
  rw [h]
theorem usedIn_step {ps : List Part} {x : Int} {j : Nat} {p : Part} (h : ps[j]? = some p) : usedIn (ps.take (j + 1)) x = (usedIn (ps.take j) x || decide (p.1 = x)) := by
  unfold usedIn
  rw [take_snocG h, List.any_append]
  simp
/-- what one round of l00Put does -/
def putGo (x : Int) : List Int → Bool × List Int
  | L => L.foldl (fun s y => if s.1 = false ∧ y ≥ x then (true, (if y > x then s.2 ++ [x] else s.2) ++ [y]) else (s.1, s.2 ++ [y])) (false, [])
def putZ (x : Int) (L : List Int) : List Int := if (putGo x L).1 then (putGo x L).2 else (putGo x L).2 ++ [x]
theorem putGo_snoc (x : Int) (L : List Int) (y : Int) : putGo x (L ++ [y]) = if (putGo x L).1 = false ∧ y ≥ x then (true, (if y > x then (putGo x L).2 ++ [x] else (putGo x L).2) ++ [y]) else ((putGo x L).1, (putGo x L).2 ++ [y]) := by
  unfold putGo
  rw [List.foldl_append]; rfl
theorem putGo_below {x : Int} {L : List Int} (h : ∀ y ∈ L, y < x) : putGo x L = (false, L) := by
  generalize hn : L.length = n
  induction n generalizing L with
  | zero => rw [List.length_eq_zero_iff] at hn; subst hn; rfl
  | succ n ih =>
    have hne : L ≠ [] := by intro e; subst e; simp at hn
    have hL := List.dropLast_concat_getLast hne
    rw [← hL] at h ⊢
    rw [putGo_snoc, ih (fun y hy => h y (by simp [hy])) (by simp [hn])]
    have hy := h (L.getLast hne) (by simp)
    rw [if_neg (by omega)]
theorem putZ_new {x : Int} {L : List Int} (h : ∀ y ∈ L, y < x) : putZ x L = L ++ [x] := by
  unfold putZ; rw [putGo_below h]; rfl
theorem putZ_again {x : Int} {L : List Int} (h : ∀ y ∈ L, y < x) : putZ x (L ++ [x]) = L ++ [x] := by
  unfold putZ; rw [putGo_snoc, putGo_below h]; simp
theorem putGo_len (x : Int) (L : List Int) : (putGo x L).2.length ≤ 2 * L.length := by
  generalize hn : L.length = n
  induction n generalizing L with
  | zero => rw [List.length_eq_zero_iff] at hn; subst hn; simp [putGo]
  | succ n ih =>
    have hne : L ≠ [] := by intro e; subst e; simp at hn
    have hL := List.dropLast_concat_getLast hne
    have h1 := ih L.dropLast (by simp [hn])
    rw [← hL, putGo_snoc]
    split
    · split <;> simp <;> omega
    · simp; omega
theorem putGo_at {x : Int} {L : List Int} {k : Nat} {y : Int} (h : L[k]? = some y) : putGo x (L.take (k + 1)) = if (putGo x (L.take k)).1 = false ∧ y ≥ x then (true, (if y > x then (putGo x (L.take k)).2 ++ [x] else (putGo x (L.take k)).2) ++ [y]) else ((putGo x (L.take k)).1, (putGo x (L.take k)).2 ++ [y]) := by
  rw [take_snoc_at h, putGo_snoc]

set_option maxHeartbeats 4000000 in
theorem l00Put_any (A : Option Addr) (n c lo hi : Nat) (L : List Int) (x : Int) (w : World) (hr : RdS 1 (FlatR intC) w lo hi A n L) (hhi : hi ≤ w.heap.size) (hn : n ≤ 1000000) (hle : ∀ y ∈ L, y ≤ x) :
    Calls Try.prog 119 #[.slice A n c, .int .i64 x] w fun e w' => ∃ A' c', e = .returned (.slice A' (putZ x L).length c') ∧ w'.ownsRow w.heap.size 2 1 (.slice A' (putZ x L).length c') (putZ x L).length ((putZ x L).flatMap intC) ∧ Below w.heap.size w w' := by
  have hl := Lib.hid hr.1
  have hplen := Lib.hid (fun (k : Nat) => show (putGo x (L.take k)).2.length ≤ 2 * n from by have := putGo_len x (L.take k); rw [List.length_take] at this; have := hl.out; omega)
  replace hr := Lib.hid hr
  replace hle := Lib.hid hle
  obtain ⟨Z, hZ⟩ : ∃ Z, Z = putZ x L := ⟨_, rfl⟩
  rw [← hZ]
  replace hZ := Lib.hid hZ
  have hown0 : (w.alloc (.cells #[] 2)).ownsRow w.heap.size 2 1 (.slice (some ⟨w.heap.size, 0, none⟩) 0 0) 0 [] := World.ownsRow_made w #[] 0 (Nat.le_refl _) (Nat.zero_le _) rfl
  go_enter Try.func119, Try.ntmps119
  go_wp2_with fail
  go_loopw [5, 6, 7] (fun v5 v6 v7 wr => ∃ (k : Nat) (m : Bool) (K : List Int) (A' : Option Addr) (c' : Nat), v7 = .int .i64 k ∧ k ≤ n ∧ (m, K) = putGo x (L.take k) ∧ v6 = .bool m ∧ v5 = .slice A' K.length c' ∧ wr.ownsRow w.heap.size 2 1 (.slice A' K.length c') K.length (K.flatMap intC) ∧ Below w.heap.size w wr) (fun v5 v6 v7 wr => n - (intOf v7).toNat)
  case atStart => exact ⟨0, false, [], _, 0, rfl, Nat.zero_le _, by rw [List.take_zero]; rfl, rfl, rfl, hown0, (Below.refl _ _).alloc (Nat.le_refl _) _⟩
  case round =>
    clear hown0
    obtain ⟨k, m, K, A', c', rfl, hk, hmK, rfl, rfl, ho, hbel⟩ := hrel
    have hsz := hbel.size
    have hKl : K.length ≤ 2 * n := by have := hplen.out k; rw [← hmK] at this; exact this
    by_cases hlt : k < n
    · obtain ⟨b1, f1, y, rfl, _, hb1, hja, hcs⟩ := (hr.out.frame (good_flat _) (Below.sameB hbel hhi)).at hlt
      have q0 := hcs 0 _ rfl
      simp only [Nat.mul_one, Nat.add_zero] at q0
      have hki : (0 : Int) ≤ (k : Int) ∧ (k : Int) < (n : Int) := by omega
      have hb1w : b1 < wr.heap.size := by omega
      have hat := putGo_at (x := x) hja
      rw [← hmK] at hat
      replace hmK := Lib.hid hmK
      replace hja := Lib.hid hja
      have ho := Lib.hid ho
      clear hcs
      cases m with
      | true =>
        rw [if_neg (by simp)] at hat
        replace hat := Lib.hid hat
        go_wp2_with (at_builtin; refine wpApp rfl (.tmp 35) (.tmp 40) elemI64o rfl (base := w.heap.size) (v := .slice A' K.length c') rfl (ho.out.alloc _) rfl (src_at (cs := [.int .i64 y]) rfl (by simp [Value.oneCell']) (by simp)) (by omega) (by omega) (by simp; omega) (K.length + 1) rfl ?_; intro A3 c3 w1 ho1 hb3; replace ho1 := Lib.hid ho1)
        go_roundw
        case rel =>
          refine ⟨k + 1, true, K ++ [y], A3, c3, by go_num, by omega, hat.out.symm, rfl, by rw [List.length_append]; rfl, ?_, (hbel.alloc hsz _).trans hb3⟩
          rw [flat_int_snoc, List.length_append]; exact ho1.out
        case measure => simp [intOf]; omega
      | false =>
        by_cases hyx : x ≤ y
        rotate_left
        · rw [if_neg (by omega)] at hat
          replace hat := Lib.hid hat
          go_wp2_with (at_builtin; refine wpApp rfl (.tmp 35) (.tmp 40) elemI64o rfl (base := w.heap.size) (v := .slice A' K.length c') rfl (ho.out.alloc _) rfl (src_at (cs := [.int .i64 y]) rfl (by simp [Value.oneCell']) (by simp)) (by omega) (by omega) (by simp; omega) (K.length + 1) rfl ?_; intro A3 c3 w1 ho1 hb3; replace ho1 := Lib.hid ho1)
          go_roundw
          case rel =>
            refine ⟨k + 1, false, K ++ [y], A3, c3, by go_num, by omega, hat.out.symm, rfl, by rw [List.length_append]; rfl, ?_, (hbel.alloc hsz _).trans hb3⟩
            rw [flat_int_snoc, List.length_append]; exact ho1.out
          case measure => simp [intOf]; omega
        · rw [if_pos ⟨rfl, hyx⟩] at hat
          by_cases hyg : x < y
          · rw [if_pos hyg] at hat
            exact absurd (hle.out y (List.mem_of_getElem? hja.out)) (by omega)
          · rw [if_neg hyg] at hat
            replace hat := Lib.hid hat
            go_wp2_with (at_builtin; refine wpApp rfl (.tmp 35) (.tmp 40) elemI64o rfl (base := w.heap.size) (v := .slice A' K.length c') rfl (ho.out.alloc _) rfl (src_at (cs := [.int .i64 y]) rfl (by simp [Value.oneCell']) (by simp)) (by omega) (by omega) (by simp; omega) (K.length + 1) rfl ?_; intro A3 c3 w1 ho1 hb3; replace ho1 := Lib.hid ho1)
            go_roundw
            case rel =>
              refine ⟨k + 1, true, K ++ [y], A3, c3, by go_num, by omega, hat.out.symm, rfl, by rw [List.length_append]; rfl, ?_, (hbel.alloc hsz _).trans hb3⟩
              rw [flat_int_snoc, List.length_append]; exact ho1.out
            case measure => simp [intOf]; omega
    · have hkn : k = n := by omega
      rw [hkn, List.take_of_length_le (Nat.le_of_eq hl.out)] at hmK
      have hz : Z = if m then K else K ++ [x] := by rw [hZ.out]; unfold putZ; rw [← hmK]
      replace hmK := Lib.hid hmK
      replace hkn := Lib.hid hkn
      have ho := Lib.hid ho
      cases m with
      | true =>
        rw [if_pos rfl] at hz
        subst hz
        go_wp2_with fail
        go_ret
        exact ⟨_, _, rfl, ho.out, hbel⟩
      | false =>
        rw [if_neg (by simp)] at hz
        subst hz
        go_wp2_with (at_builtin; refine wpApp rfl (.tmp 44) (.tmp 46) elemI64o rfl (base := w.heap.size) (v := .slice A' K.length c') rfl (ho.out.alloc _) rfl (src_at (cs := [.int .i64 x]) rfl (by simp [Value.oneCell']) (by simp)) (by omega) (by omega) (by simp; omega) (K.length + 1) rfl ?_; intro A3 c3 w1 ho1 hb3; replace ho1 := Lib.hid ho1)
        go_ret
        exact ⟨A3, c3, by rw [List.length_append]; rfl, by rw [flat_int_snoc, List.length_append]; exact ho1.out, (hbel.alloc hsz _).trans hb3⟩
end Go.Proofs.Ytgngcllodofimaa

/- The users of a glyph: the reference's door. Conditions: as each states. -/
namespace Go.Proofs.Ytgngcllodofimaa
open Go.RowKit
set_option linter.unusedVariables false
set_option maxRecDepth 100000

def usJ (U : List Int) (k : Nat) (b : Bool) : List Int := if b then U ++ [(k : Int)] else U
def useU (d : GSet) (x : Int) : List Int := if askR d x = 0 then usersT d.gl x d.gl.length else []
theorem putZ_usJ {U : List Int} {k : Nat} (h : ∀ y ∈ U, y < (k : Int)) (b : Bool) : putZ (k : Int) (usJ U k b) = U ++ [(k : Int)] := by
  cases b
  · exact putZ_new h
  · exact putZ_again h
theorem usJ_le {U : List Int} {k : Nat} (h : ∀ y ∈ U, y < (k : Int)) (b : Bool) : ∀ y ∈ usJ U k b, y ≤ (k : Int) := fun y hy => by
  cases b
  · exact Int.le_of_lt (h y hy)
  · rw [usJ, if_pos rfl, List.mem_append] at hy
    rcases hy with hy | hy
    · exact Int.le_of_lt (h y hy)
    · simp at hy; omega
theorem usJ_len {U : List Int} {k : Nat} (b : Bool) : (usJ U k b).length ≤ U.length + 1 := by
  cases b <;> simp [usJ]

set_option maxHeartbeats 4000000 in
theorem specGlyphUsers_any (d : GSet) (h : GSetH) (x0 : Int) (U : List Int) (r : Int) (hU : U = useU d x0) (hrq : r = askR d x0) (lo hi : Nat) (w : World) (hr : GSetRd w lo hi d h) (hhi : hi ≤ w.heap.size) (hm : d.small 1000000000) (hs : ∀ g ∈ d.gl, g.str) :
    Calls Try.prog 46 #[gsV d h, .int .i64 x0] w fun e w' => ∃ A' c', e = .returned (.tuple #[.slice A' U.length c', .int .i64 r]) ∧ w'.ownsRow w.heap.size 2 1 (.slice A' U.length c') U.length (U.flatMap intC) ∧ Below w.heap.size w w' := by
  have hB0 : Below w.heap.size w (w.alloc (.cells #[.int .i64 d.unit, .slice h.gl.A h.gl.n h.gl.c] 39 (0, 0))) := Go.Joins.below_alloc1 _ _
  have k0 : (w.alloc (.cells #[.int .i64 d.unit, .slice h.gl.A h.gl.n h.gl.c] 39 (0, 0))).cell? ⟨w.heap.size, 0, none⟩ = some (.int .i64 d.unit) := by rw [Go.Joins.cell_of_block (heap_alloc_new w _)]; rfl
  have k1 : (w.alloc (.cells #[.int .i64 d.unit, .slice h.gl.A h.gl.n h.gl.c] 39 (0, 0))).cell? ⟨w.heap.size, 0 + 1, none⟩ = some (.slice h.gl.A h.gl.n h.gl.c) := by rw [Go.Joins.cell_of_block (heap_alloc_new w _)]; rfl
  have hz : w.heap.size < (w.alloc (.cells #[.int .i64 d.unit, .slice h.gl.A h.gl.n h.gl.c] 39 (0, 0))).heap.size := by simp
  have hc := Lib.hid (l17Ask_any w.heap.size 0 d h x0 r hrq lo hi (w.alloc (.cells #[.int .i64 d.unit, .slice h.gl.A h.gl.n h.gl.c] 39 (0, 0))) hz k0 k1 (hr.frame good_glyph (Below.sameB hB0 hhi)) (Nat.le_trans hhi hB0.size) hm hs)
  have hcs := ask_cases d x0
  unfold useU at hU
  rw [← hrq] at hcs hU
  by_cases hq0 : r = 0
  rotate_left
  · rw [if_neg hq0] at hU
    subst hU
    have hq1 : r = 1 ∨ r = 2 := by omega
    replace hrq := Lib.hid hrq
    clear hr hm hs hcs k0 k1 hq0
    rcases hq1 with rfl | rfl
    all_goals
      go_enter Try.func46, Try.ntmps46
      go_wp2_with fail
      refine hc.out.mono ?_
      rintro e w1 ⟨rfl, hb1⟩
      go_wp2_with fail
      go_ret2
      exact ⟨none, 0, rfl, World.ownsRow_nil _ _ _ _, hB0.trans (hb1.mono hB0.size)⟩
  · rw [if_pos hq0] at hU
    obtain ⟨_, hok, hx0, hxn⟩ : r = 0 ∧ setOk d = true ∧ 0 ≤ x0 ∧ x0 < d.gl.length := by rcases hcs with h1 | h1 | h1; omega; omega; exact h1
    subst hq0
    have hl := hr.1
    obtain ⟨hn40, hgok, hfull⟩ := set_is hok
    have hn : h.gl.n ≤ 40 := by omega
    rw [hl] at hU
    have hpn := Lib.hid (fun (g : Gl) (hg : g ∈ d.gl) => (glyph_is (hgok g hg)).2.1)
    replace hU := Lib.hid hU
    replace hrq := Lib.hid hrq
    replace hl := Lib.hid hl
    replace hr := Lib.hid hr
    clear hm hs hcs hok hn40 hgok hfull k0 hxn
    go_enter Try.func46, Try.ntmps46
    go_wp2_with fail
    refine hc.out.mono ?_
    rintro e w1 ⟨rfl, hb1⟩
    have hB1 := hB0.trans (hb1.mono hB0.size)
    have k2 := (hb1.cell (p := ⟨w.heap.size, 0 + 1, none⟩) hz).trans k1
    have hz1 : w.heap.size < w1.heap.size := Nat.lt_of_lt_of_le hz hb1.size
    have hs1 : w.heap.size ≤ w1.heap.size := Nat.le_of_lt hz1
    simp only [Nat.zero_add] at k2
    have hown0 : (w1.alloc (.cells #[] 2)).ownsRow w1.heap.size 2 1 (.slice (some ⟨w1.heap.size, 0, none⟩) 0 0) 0 [] := World.ownsRow_made w1 #[] 0 (Nat.le_refl _) (Nat.zero_le _) rfl
    clear hc hb1 k1 hz
    go_wp2_with fail
    go_loopw [7, 8] (fun v7 v8 wr => ∃ (k : Nat) (A' : Option Addr) (c' : Nat), v8 = .int .i64 k ∧ k ≤ h.gl.n ∧ v7 = .slice A' (usersT d.gl x0 k).length c' ∧ wr.ownsRow w1.heap.size 2 1 (.slice A' (usersT d.gl x0 k).length c') (usersT d.gl x0 k).length ((usersT d.gl x0 k).flatMap intC) ∧ Below w1.heap.size w1 wr) (fun v7 v8 wr => h.gl.n - (intOf v8).toNat)
    case atStart => exact ⟨0, _, 0, rfl, Nat.zero_le _, rfl, hown0, (Below.refl _ _).alloc (Nat.le_refl _) _⟩
    case round =>
      clear hown0
      obtain ⟨k, A', c', rfl, hk, rfl, ho, hbel⟩ := hrel
      have hsz := hbel.size
      have kr := (hbel.cell (p := ⟨w.heap.size, 1, none⟩) hz1).trans k2
      have hzr : w.heap.size < wr.heap.size := by omega
      have hB3 := hB1.trans (hbel.mono hB1.size)
      by_cases hlt : k < h.gl.n
      · obtain ⟨b1, f1, g, hh, hA, hb0, hb1, hja, hcs, hrg⟩ := gs_at (hr.out.frame good_glyph (Below.sameB hB3 hhi)) hlt
        have hki : (0 : Int) ≤ (k : Int) ∧ (k : Int) < (h.gl.n : Int) := by omega
        have hgp : hh.parts.n ≤ 6 := by rw [← hrg.2.1.1]; exact hpn.out g (List.mem_of_getElem? hja)
        have hnext := usersT_next (x := x0) hja
        have hltU := Lib.hid (usersT_lt (L := d.gl) (x := x0) (k := k))
        have hUl := usersT_len (L := d.gl) (x := x0) (k := k)
        obtain ⟨V, hV⟩ : ∃ V, V = usersT d.gl x0 k := ⟨_, rfl⟩
        rw [← hV] at ho hnext hltU hUl ⊢
        have hgpl := Lib.hid hrg.2.1.1
        have q4 := hcs 4 _ rfl
        have k2a := k2
        rw [hA] at k2a
        have hrp := Lib.hid hrg.2.1
        have hb1w : b1 < hi := hb1
        have hfin := Lib.hid (show usersT d.gl x0 (k + 1) = usJ V k (usedIn g.parts x0) from hnext)
        have hput := Lib.hid (fun (W : World) (b : Bool) (A2 : Option Addr) (c2 : Nat) (ho2 : W.ownsRow w1.heap.size 2 1 (.slice A2 (usJ V k b).length c2) (usJ V k b).length ((usJ V k b).flatMap intC)) (hz : w1.heap.size ≤ W.heap.size) => show Calls Try.prog 119 #[.slice A2 (usJ V k b).length c2, .int .i64 (k : Int)] W (fun e w' => ∃ A' c', e = .returned (.slice A' (V ++ [(k : Int)]).length c') ∧ w'.ownsRow W.heap.size 2 1 (.slice A' (V ++ [(k : Int)]).length c') (V ++ [(k : Int)]).length ((V ++ [(k : Int)]).flatMap intC) ∧ Below W.heap.size W w') from by
          have hx := l00Put_any A2 (usJ V k b).length c2 w1.heap.size W.heap.size (usJ V k b) (k : Int) W (rdS_own intC_len (by omega) ho2 rfl) (Nat.le_refl _) (by have := usJ_len (U := V) (k := k) b; omega) (usJ_le hltU.out b)
          rw [putZ_usJ hltU.out] at hx
          exact hx)
        replace hA := Lib.hid hA
        have ho := Lib.hid ho
        have hB3z := Lib.hid hB3
        replace hja := Lib.hid hja
        clear hcs hrg hnext
        go_wp2_with fail
        obtain ⟨wo, rfl⟩ : ∃ wo, wo = wr := ⟨_, rfl⟩
        go_loopw [7, 9] (fun v7 v9 wr => ∃ (j : Nat) (b : Bool) (K : List Int) (A2 : Option Addr) (c2 : Nat), v9 = .int .i64 j ∧ j ≤ hh.parts.n ∧ b = usedIn (g.parts.take j) x0 ∧ K = usJ V k b ∧ v7 = .slice A2 K.length c2 ∧ wr.ownsRow w1.heap.size 2 1 (.slice A2 K.length c2) K.length (K.flatMap intC) ∧ Below w1.heap.size w1 wr) (fun v7 v9 wr => hh.parts.n - (intOf v9).toNat)
        case atStart => exact ⟨0, false, V, A', c', rfl, Nat.zero_le _, by rw [List.take_zero]; rfl, rfl, rfl, ho.out, hbel⟩
        case round =>
          obtain ⟨j, b, K, A2, c2, rfl, hj, hb, hK, rfl, ho2, hbq⟩ := hrel
          have hsq := hbq.size
          have kq := (hbq.cell (p := ⟨w.heap.size, 1, none⟩) hz1).trans k2a
          have hzq : w.heap.size < wr.heap.size := by omega
          have hBq := hB1.trans (hbq.mono hB1.size)
          have hsb : SameB lo hi wo wr := fun i h1 h2 => (Below.sameB hBq hhi i h1 h2).trans (Below.sameB hB3z.out hhi i h1 h2).symm
          have q4q := (World.cell?_of_block (w := wo) (hsb b1 hb0 hb1)).trans q4
          have hb1q : b1 < wr.heap.size := by omega
          have ho2 := Lib.hid ho2
          by_cases hjl : j < hh.parts.n
          · obtain ⟨p1, g1, ⟨y0, y1, y2⟩, hA1, _, hpw, hjb, hcs1⟩ := (hrp.out.frame (good_flat _) hsb).at hjl
            have u0 := hcs1 0 _ rfl
            simp only [Nat.add_zero] at u0
            rw [hA1] at q4q
            have hpw' : p1 < wr.heap.size := by omega
            have hji : (0 : Int) ≤ (j : Int) ∧ (j : Int) < (hh.parts.n : Int) := by omega
            have hst := usedIn_step (x := x0) hjb
            rw [← hb] at hst
            replace hA1 := Lib.hid hA1
            replace hb := Lib.hid hb
            clear hcs1 hjb
            by_cases hyx : y0 = x0
            · have hcall := hput.out wr b A2 c2 (by rw [← hK]; exact ho2.out) hsq
              rw [← hK] at hcall
              obtain ⟨K2, hK2⟩ : ∃ K2, K2 = V ++ [(k : Int)] := ⟨_, rfl⟩
              rw [← hK2] at hcall
              replace hcall := Lib.hid hcall
              replace hK := Lib.hid hK
              replace hK2 := Lib.hid hK2
              have hst2 : usedIn (g.parts.take (j + 1)) x0 = true := by rw [hst, decide_eq_true hyx]; simp
              have u1 : (y0 == x0) = true := by simp [hyx]
              replace hst := Lib.hid hst
              replace hst2 := Lib.hid hst2
              replace hyx := Lib.hid hyx
              go_wp2_with fail
              refine hcall.out.mono ?_
              rintro e w5 ⟨A3, c3, rfl, ho3, hb3⟩
              have ho3z := Lib.hid (own_lower ho3 hsq)
              have hb5 := hbq.trans (hb3.mono hsq)
              clear ho3 hb3 hcall
              go_wp2_with fail
              go_roundw
              case rel => exact ⟨j + 1, true, K2, A3, c3, by go_num, by omega, hst2.out.symm, hK2.out, rfl, ho3z.out, hb5⟩
              case measure => simp [intOf]; omega
            · have hst2 : usedIn (g.parts.take (j + 1)) x0 = b := by rw [hst, decide_eq_false hyx]; simp
              have u1 : (y0 == x0) = false := by simp [hyx]
              replace hK := Lib.hid hK
              replace hst := Lib.hid hst
              replace hst2 := Lib.hid hst2
              replace hyx := Lib.hid hyx
              go_wp2_with fail
              go_roundw
              case rel => exact ⟨j + 1, b, K, A2, c2, by go_num, by omega, hst2.out.symm, hK.out, rfl, ho2.out, hbq⟩
              case measure => simp [intOf]; omega
          · have hjn : j = hh.parts.n := by omega
            rw [List.take_of_length_le (by rw [hgpl.out]; omega)] at hb
            have hf2 := Lib.hid (show usersT d.gl x0 (k + 1) = K by rw [hK, hfin.out, ← hb])
            replace hK := Lib.hid hK
            replace hb := Lib.hid hb
            replace hjn := Lib.hid hjn
            go_wp2_with fail
            go_roundw
            case rel => exact ⟨k + 1, A2, c2, by go_num, by omega, by rw [hf2.out], by rw [hf2.out]; exact ho2.out, hbq⟩
            case measure => simp [intOf]; omega
      · have hkn : k = h.gl.n := by omega
        have hUk := Lib.hid (show U = usersT d.gl x0 k by rw [hU.out, hkn])
        replace hkn := Lib.hid hkn
        have hoz := Lib.hid (own_lower ho hs1)
        obtain ⟨V, hV⟩ : ∃ V, V = usersT d.gl x0 k := ⟨_, rfl⟩
        rw [← hV] at hoz hUk ⊢
        clear ho
        go_wp2_with fail
        go_ret2
        have hUe := hUk.out
        subst hUe
        exact ⟨A', c', rfl, hoz.out, hB3⟩
end Go.Proofs.Ytgngcllodofimaa

/- The users of a glyph: the program's side. Conditions: as each states. -/
namespace Go.Proofs.Ytgngcllodofimaa
open Go.RowKit
set_option linter.unusedVariables false
set_option maxRecDepth 100000

theorem partGlyph_any (bb : Nat) (x0 x1 x2 gl : Int) (t : Bool) (ht : t = decide (x0 = gl)) (w : World) (hc : w.cell? ⟨bb, 0, none⟩ = some (.int .i64 gl)) (hb : bb < w.heap.size) :
    Calls Try.prog 122 #[.agg #[.int .i64 x0, .int .i64 x1, .int .i64 x2], .pointer (some ⟨bb, 0, none⟩)] w fun e w' => e = .returned (.bool t) ∧ Below w.heap.size w w' := by
  cases t
  · have u : (x0 == gl) = false := by simpa using (of_decide_eq_false ht.symm)
    clear ht
    go_enter Try.func122, Try.ntmps122
    go_wp2_with fail
    go_ret
    exact ⟨rfl, Go.Joins.below_alloc1 _ _⟩
  · have u : (x0 == gl) = true := by simpa using (of_decide_eq_true ht.symm)
    clear ht
    go_enter Try.func122, Try.ntmps122
    go_wp2_with fail
    go_ret
    exact ⟨rfl, Go.Joins.below_alloc1 _ _⟩

set_option maxHeartbeats 2000000 in
theorem partIndex_any (A : Option Addr) (n c lo hi : Nat) (K : List Part) (bb : Nat) (gl : Int) (w : World) (hr : RdS 3 (FlatR partC) w lo hi A n K) (hhi : hi ≤ w.heap.size) (hn : n ≤ 1000000000) (hc : w.cell? ⟨bb, 0, none⟩ = some (.int .i64 gl)) (hb : bb < w.heap.size) :
    Calls Try.prog 176 #[.slice A n c, .func (.func 122) #[] #[.pointer (some ⟨bb, 0, none⟩)]] w fun e w' => ∃ r : Int, e = .returned (.int .i64 r) ∧ decide (0 ≤ r) = usedIn K gl ∧ Below w.heap.size w w' := by
  replace hr := Lib.hid hr
  replace hc := Lib.hid hc
  go_enter Try.func176, Try.ntmps176
  go_wp2_with fail
  go_loopw [8] (fun i wr => ∃ k : Nat, i = .int .i64 k ∧ k ≤ n ∧ usedIn (K.take k) gl = false ∧ Below w.heap.size w wr) (fun i wr => n - (intOf i).toNat)
  case atStart => exact ⟨0, rfl, Nat.zero_le _, rfl, Below.refl _ _⟩
  case round =>
    obtain ⟨k, rfl, hk, hall, hbel⟩ := hrel
    replace hall := Lib.hid hall
    have hsz := hbel.size
    by_cases hlt : k < n
    · obtain ⟨b1, o1, ⟨x0, x1, x2⟩, rfl, _, hbw, hja, hcs⟩ := (hr.out.frame (good_flat _) (Below.sameB hbel hhi)).at hlt
      have q0 := hcs 0 _ rfl
      have q1 := hcs 1 _ rfl
      have q2 := hcs 2 _ rfl
      simp only [Nat.add_zero] at q0 q1 q2
      clear hcs
      obtain ⟨t, ht⟩ : ∃ t, t = decide (x0 = gl) := ⟨_, rfl⟩
      have hst := usedIn_step (x := gl) hja
      rw [hall.out, Bool.false_or, ← ht] at hst
      have hsub : usedIn (K.take (k + 1)) gl = true → usedIn K gl = true := fun h => by
        unfold usedIn at h ⊢
        rw [List.any_eq_true] at h ⊢
        obtain ⟨p, hp, h⟩ := h
        exact ⟨p, List.mem_of_mem_take hp, h⟩
      replace hja := Lib.hid hja
      have hcall := Lib.hid (partGlyph_any bb x0 x1 x2 gl t ht wr ((hbel.cell hb).trans hc.out) (by omega))
      replace ht := Lib.hid ht
      replace hst := Lib.hid hst
      replace hsub := Lib.hid hsub
      have hbw' : b1 < wr.heap.size := by omega
      go_wp2_with fail
      refine hcall.out.mono ?_
      rintro e w1 ⟨rfl, hb1⟩
      cases t
      · go_wp2_with fail
        go_roundw
        case rel => exact ⟨k + 1, by go_num, by omega, hst.out, hbel.trans (hb1.mono hbel.size)⟩
        case measure => simp [intOf]; omega
      · go_wp2_with fail
        go_ret
        exact ⟨k, rfl, by rw [hsub.out hst.out]; simp, hbel.trans (hb1.mono hbel.size)⟩
    · have hkn : k = n := by omega
      have hfin := Lib.hid (show usedIn K gl = false from by have := hall.out; rwa [hkn, List.take_of_length_le (Nat.le_of_eq hr.out.1)] at this)
      replace hkn := Lib.hid hkn
      go_wp2_with fail
      go_ret
      exact ⟨-1, rfl, by rw [hfin.out]; rfl, hbel⟩
theorem partContains_any (A : Option Addr) (n c lo hi : Nat) (K : List Part) (bb : Nat) (gl : Int) (b : Bool) (hbb : b = usedIn K gl) (w : World) (hr : RdS 3 (FlatR partC) w lo hi A n K) (hhi : hi ≤ w.heap.size) (hn : n ≤ 1000000000) (hc : w.cell? ⟨bb, 0, none⟩ = some (.int .i64 gl)) (hb : bb < w.heap.size) :
    Calls Try.prog 121 #[.slice A n c, .func (.func 122) #[] #[.pointer (some ⟨bb, 0, none⟩)]] w fun e w' => e = .returned (.bool b) ∧ Below w.heap.size w w' := by
  have hi := Lib.hid (partIndex_any A n c lo hi K bb gl w hr hhi hn hc hb)
  replace hbb := Lib.hid hbb
  clear hr hc
  go_enter Try.func121, Try.ntmps121
  go_wp2_with fail
  refine hi.out.mono ?_
  rintro e w1 ⟨r, rfl, hd, hb1⟩
  replace hd := Lib.hid hd
  go_wp2_with fail
  go_ret
  exact ⟨ret_bool (by rw [hbb.out]; exact hd.out), hb1⟩

set_option maxHeartbeats 4000000 in
theorem implGlyphUsers_flat (d : GSet) (A0 : Option Addr) (n0 c0 : Nat) (x0 : Int) (U : List Int) (r : Int) (hU : U = useU d x0) (hrq : r = askR d x0) (lo hi : Nat) (w : World) (hr : GsRc w lo hi A0 n0 d.gl) (hhi : hi ≤ w.heap.size) (hm : d.small 1000000000) (hs : ∀ g ∈ d.gl, g.str) :
    Calls Try.prog 48 #[.agg #[.int .i64 d.unit, .slice A0 n0 c0], .int .i64 x0] w fun e w' => ∃ A' c', e = .returned (.tuple #[.slice A' U.length c', .int .i64 r]) ∧ w'.ownsRow w.heap.size 2 1 (.slice A' U.length c') U.length (U.flatMap intC) ∧ Below w.heap.size w w' := by
  have hB0 : Below w.heap.size w ((w.alloc (.cells #[.int .i64 d.unit, .slice A0 n0 c0] 39 (0, 0))).alloc (.cells #[.int .i64 x0] 2 (0, 0))) := Go.Joins.below_alloc2 _ _ _
  have hnew := heap_new2 w (.cells #[.int .i64 d.unit, .slice A0 n0 c0] 39 (0, 0)) (.cells #[.int .i64 x0] 2 (0, 0))
  have hc := Lib.hid (checkGlyph_any d ⟨⟨A0, n0, c0⟩⟩ x0 r hrq lo hi ((w.alloc (.cells #[.int .i64 d.unit, .slice A0 n0 c0] 39 (0, 0))).alloc (.cells #[.int .i64 x0] 2 (0, 0))) (hr.frame good_glyphc (Below.sameB hB0 hhi)) (Nat.le_trans hhi hB0.size) hm hs)
  have k1 : ((w.alloc (.cells #[.int .i64 d.unit, .slice A0 n0 c0] 39 (0, 0))).alloc (.cells #[.int .i64 x0] 2 (0, 0))).cell? ⟨w.heap.size, 0 + 1, none⟩ = some (.slice A0 n0 c0) := by rw [Go.Joins.cell_of_block hnew.1]; rfl
  have k3 : ((w.alloc (.cells #[.int .i64 d.unit, .slice A0 n0 c0] 39 (0, 0))).alloc (.cells #[.int .i64 x0] 2 (0, 0))).cell? ⟨w.heap.size + 1, 0, none⟩ = some (.int .i64 x0) := by rw [Go.Joins.cell_of_block hnew.2]; rfl
  have hz : w.heap.size + 1 < ((w.alloc (.cells #[.int .i64 d.unit, .slice A0 n0 c0] 39 (0, 0))).alloc (.cells #[.int .i64 x0] 2 (0, 0))).heap.size := by simp
  clear hnew
  have hcs := ask_cases d x0
  unfold useU at hU
  rw [← hrq] at hcs hU
  by_cases hq0 : r = 0
  rotate_left
  · rw [if_neg hq0] at hU
    subst hU
    have hq1 : r = 1 ∨ r = 2 := by omega
    replace hrq := Lib.hid hrq
    clear hr hm hs hcs k1 k3 hq0
    rcases hq1 with rfl | rfl
    all_goals
      go_enter Try.func48, Try.ntmps48
      go_wp2_with fail
      refine hc.out.mono ?_
      rintro e w1 ⟨rfl, hb1⟩
      go_wp2_with fail
      go_ret2
      exact ⟨none, 0, rfl, World.ownsRow_nil _ _ _ _, hB0.trans (hb1.mono hB0.size)⟩
  · rw [if_pos hq0] at hU
    obtain ⟨_, hok, hx0, hxn⟩ : r = 0 ∧ setOk d = true ∧ 0 ≤ x0 ∧ x0 < d.gl.length := by rcases hcs with h1 | h1 | h1; omega; omega; exact h1
    subst hq0
    have hl := hr.1
    obtain ⟨hn40, hgok, hfull⟩ := set_is hok
    have hn : n0 ≤ 40 := by omega
    rw [hl] at hU
    have hpn := Lib.hid (fun (g : Gl) (hg : g ∈ d.gl) => (glyph_is (hgok g hg)).2.1)
    replace hU := Lib.hid hU
    replace hrq := Lib.hid hrq
    replace hl := Lib.hid hl
    replace hr := Lib.hid (GsRc.rd hr)
    clear hm hs hcs hok hn40 hgok hfull hxn
    go_enter Try.func48, Try.ntmps48
    go_wp2_with fail
    refine hc.out.mono ?_
    rintro e w1 ⟨rfl, hb1⟩
    have hB1 := hB0.trans (hb1.mono hB0.size)
    have k2 := (hb1.cell (p := ⟨w.heap.size, 0 + 1, none⟩) (by simp; omega)).trans k1
    have k4 := (hb1.cell (p := ⟨w.heap.size + 1, 0, none⟩) hz).trans k3
    have hz1 : w.heap.size + 1 < w1.heap.size := Nat.lt_of_lt_of_le hz hb1.size
    have hs1 : w.heap.size ≤ w1.heap.size := by omega
    simp only [Nat.zero_add] at k2
    clear hc hb1 k1 k3 hz
    go_wp2_with fail
    go_loopw [7, 19] (fun v7 v8 wr => ∃ (k : Nat) (A' : Option Addr) (c' : Nat), v8 = .int .i64 k ∧ k ≤ n0 ∧ v7 = .slice A' (usersT d.gl x0 k).length c' ∧ wr.ownsRow w1.heap.size 2 1 (.slice A' (usersT d.gl x0 k).length c') (usersT d.gl x0 k).length ((usersT d.gl x0 k).flatMap intC) ∧ Below w1.heap.size w1 wr) (fun v7 v8 wr => n0 - (intOf v8).toNat)
    case atStart => exact ⟨0, none, 0, rfl, Nat.zero_le _, rfl, World.ownsRow_nil _ _ _ _, Below.refl _ _⟩
    case round =>
      obtain ⟨k, A', c', rfl, hk, rfl, ho, hbel⟩ := hrel
      have hsz := hbel.size
      have kr := (hbel.cell (p := ⟨w.heap.size, 1, none⟩) (by show w.heap.size < _; omega)).trans k2
      have kq := (hbel.cell (p := ⟨w.heap.size + 1, 0, none⟩) hz1).trans k4
      have hzr : w.heap.size + 1 < wr.heap.size := by omega
      have hB3 := hB1.trans (hbel.mono hB1.size)
      by_cases hlt : k < n0
      · obtain ⟨b1, f1, g, hh, rfl, hb0, hb1, hja, hcs, hrg⟩ := gs_at (hr.out.frame good_glyph (Below.sameB hB3 hhi)) hlt
        have hki : (0 : Int) ≤ (k : Int) ∧ (k : Int) < (n0 : Int) := by omega
        have hgp : hh.parts.n ≤ 6 := by rw [← hrg.2.1.1]; exact hpn.out g (List.mem_of_getElem? hja)
        have hnext := usersT_next (x := x0) hja
        have hUl := usersT_len (L := d.gl) (x := x0) (k := k)
        obtain ⟨V, hV⟩ : ∃ V, V = usersT d.gl x0 k := ⟨_, rfl⟩
        obtain ⟨V2, hV2⟩ : ∃ V2, V2 = usersT d.gl x0 (k + 1) := ⟨_, rfl⟩
        obtain ⟨b, hb⟩ : ∃ b, b = usedIn g.parts x0 := ⟨_, rfl⟩
        rw [← hV] at ho hnext hUl ⊢
        rw [← hV2, ← hb] at hnext
        have q0 := hcs 0 _ rfl
        have q1 := hcs 1 _ rfl
        have q2 := hcs 2 _ rfl
        have q3 := hcs 3 _ rfl
        have q4 := hcs 4 _ rfl
        have q5 := hcs 5 _ rfl
        have q6 := hcs 6 _ rfl
        simp only [Nat.add_zero] at q0 q1 q2 q3 q4 q5 q6
        have hb1w : b1 < wr.heap.size := by omega
        have hcall := Lib.hid (fun (W : World) (hW : Below wr.heap.size wr W) => partContains_any hh.parts.A hh.parts.n hh.parts.c lo hi g.parts (w.heap.size + 1) x0 b hb W (hrg.2.1.frame (good_flat _) (Below.sameB hW (by omega))) (by have := hW.size; omega) (by omega) ((hW.cell hzr).trans kq) (by have := hW.size; omega))
        have ho := Lib.hid ho
        replace hV := Lib.hid hV
        replace hV2 := Lib.hid hV2
        replace hb := Lib.hid hb
        replace hja := Lib.hid hja
        clear hcs hrg
        cases b with
        | true =>
          rw [if_pos rfl] at hnext
          replace hnext := Lib.hid hnext
          go_wp2_with fail
          refine (hcall.out _ (Go.Joins.below_alloc1 _ _)).mono ?_
          rintro e w2 ⟨rfl, hb2⟩
          have hb2s := hb2.size
          simp at hb2s
          have ho2 := Lib.hid (own_below (own_below ho.out (Go.Joins.below_alloc1 _ _)) hb2)
          have hb3 := (hbel.alloc hsz _).trans (hb2.mono (by simp; omega))
          clear hb2 hcall
          go_wp2_with (at_builtin; refine wpApp rfl (.tmp 28) (.tmp 30) elemInt64 rfl (base := w1.heap.size) (v := .slice A' V.length c') rfl (ho2.out.alloc _) rfl (src_at (cs := [.int .i64 (k : Int)]) rfl (by simp [Value.oneCell']) (by simp)) (by omega) (by omega) (by simp; omega) (V.length + 1) rfl ?_; intro A3 c3 w3 ho3 hb4; replace ho3 := Lib.hid ho3)
          go_roundw
          case rel =>
            have hb5 := (hb3.alloc (by omega) _).trans hb4
            refine ⟨k + 1, A3, c3, by go_num, by omega, ?_, ?_, hb5⟩
            · rw [← hV2.out, hnext.out, List.length_append]; rfl
            · rw [← hV2.out, hnext.out, flat_int_snoc, List.length_append]; exact ho3.out
          case measure => simp [intOf]; omega
        | false =>
          rw [if_neg (by simp)] at hnext
          replace hnext := Lib.hid hnext
          go_wp2_with fail
          refine (hcall.out _ (Go.Joins.below_alloc1 _ _)).mono ?_
          rintro e w2 ⟨rfl, hb2⟩
          have hb2s := hb2.size
          simp at hb2s
          have ho2 := Lib.hid (own_below (own_below ho.out (Go.Joins.below_alloc1 _ _)) hb2)
          have hb3 := (hbel.alloc hsz _).trans (hb2.mono (by simp; omega))
          clear hb2 hcall
          go_wp2_with fail
          go_roundw
          case rel =>
            refine ⟨k + 1, A', c', by go_num, by omega, ?_, ?_, hb3⟩
            · rw [← hV2.out, hnext.out]
            · rw [← hV2.out, hnext.out]; exact ho2.out
          case measure => simp [intOf]; omega
      · have hkn : k = n0 := by omega
        have hUk := Lib.hid (show U = usersT d.gl x0 k by rw [hU.out, hkn])
        replace hkn := Lib.hid hkn
        have hoz := Lib.hid (own_lower ho hs1)
        obtain ⟨V, hV⟩ : ∃ V, V = usersT d.gl x0 k := ⟨_, rfl⟩
        rw [← hV] at hoz hUk ⊢
        clear ho
        go_wp2_with fail
        go_ret2
        have hUe := hUk.out
        subst hUe
        exact ⟨A', c', rfl, hoz.out, hB3⟩
theorem implGlyphUsers_any (d : GSet) (h : GSetH) (x0 : Int) (U : List Int) (r : Int) (hU : U = useU d x0) (hrq : r = askR d x0) (lo hi : Nat) (w : World) (hr : GSetRc w lo hi d h) (hhi : hi ≤ w.heap.size) (hm : d.small 1000000000) (hs : ∀ g ∈ d.gl, g.str) :
    Calls Try.prog 48 #[gsV d h, .int .i64 x0] w fun e w' => ∃ A' c', e = .returned (.tuple #[.slice A' U.length c', .int .i64 r]) ∧ w'.ownsRow w.heap.size 2 1 (.slice A' U.length c') U.length (U.flatMap intC) ∧ Below w.heap.size w w' :=
  implGlyphUsers_flat d h.gl.A h.gl.n h.gl.c x0 U r hU hrq lo hi w hr hhi hm hs
theorem useU_len (d : GSet) (x0 : Int) : (useU d x0).length ≤ d.gl.length := by
  unfold useU
  split
  · exact usersT_len
  · exact Nat.zero_le _
end Go.Proofs.Ytgngcllodofimaa

/- The law FnExactGlyphUsers: its walk. Conditions: as it states. -/
namespace Go.Proofs.Ytgngcllodofimaa
open Go.RowKit
set_option linter.unusedVariables false
set_option maxRecDepth 100000

theorem bS_new (w : World) (d : GSet) (h : GSetH) (t : TypeId) : BoxS (w.alloc (.cells #[.int .i64 d.unit, .slice h.gl.A h.gl.n h.gl.c] t (0, 0))) w.heap.size d h := boxS_new (heap_alloc_new w _) rfl

set_option maxHeartbeats 16000000 in
theorem lawGlyphUsers_walk (d : GSet) (h : GSetH) (x0 : Int) {w : World} (hr : GSetRd w 0 w.heap.size d h) (hm : d.small maxLen) (hst : ∀ g ∈ d.gl, g.str) (wx0 : (Lit.int .i64 x0).wf = true) :
    Calls Try.prog 7 #[gsV d h, .int .i64 x0] w fun e w' => e = .returned (.bool true) ∧ Below w.heap.size w w' := by
  obtain ⟨U, hU⟩ : ∃ U, U = useU d x0 := ⟨_, rfl⟩
  obtain ⟨r, hq⟩ : ∃ r, r = askR d x0 := ⟨_, rfl⟩
  have hUl : U.length ≤ d.gl.length := by rw [hU]; exact useU_len d x0
  replace hU := Lib.hid hU
  replace hq := Lib.hid hq
  replace hr := Lib.hid hr
  replace hm := Lib.hid hm
  replace hst := Lib.hid hst
  have hs0 := Lib.hid (bS_new w d h 87)
  go_enter Try.func7, Try.ntmps7
  go_wp2_with fail
  refine (szGlyphSet_any d h 1048576 0 w.heap.size _ (hr.out.frame good_glyph (Below.sameB (Go.Joins.below_alloc1 _ _) (Nat.le_refl _))) (Go.Joins.below_alloc1 _ _).size hm.out hst.out (by omega) (by omega)).mono ?_
  rintro e w1 ⟨rz, rfl, hrz, hb1⟩
  have hz1 := hb1.size
  simp at hz1
  have hB1 : Below w.heap.size w w1 := (Go.Joins.below_alloc1 _ _).trans (hb1.mono (by first | omega | (simp <;> omega)))
  have hs1 := Lib.hid (hs0.out.below hb1 (by first | omega | (simp <;> omega)))
  clear hs0 hb1
  rcases hrz with hn1 | ⟨hn1, hl1, hm1⟩
  · clear hs1
    go_wp2_with fail
    go_ret
    exact ⟨rfl, hB1⟩
  have hUn : U.length ≤ 1048576 := Nat.le_trans hUl hm1.l
  have hgn : h.gl.n ≤ 1048576 := by rw [← hr.out.1]; exact hm1.l
  clear hUl
  replace hm1 := Lib.hid hm1
  have hya : w.heap.size < w1.heap.size := by omega
  clear hl1
  obtain ⟨s0, s1⟩ := hs1.out
  go_wp2_with fail
  refine (toGlyphSet_any d h 0 w.heap.size _ (hr.out.frame good_glyph (Below.sameB hB1 (Nat.le_refl _))) hB1.size hm1.out).mono ?_
  rintro e w2 ⟨k2, rfl, rd2, hb2⟩
  have hB2 := hB1.trans (hb2.mono hB1.size)
  have hyb : w.heap.size < w2.heap.size := Nat.lt_of_lt_of_le hya hb2.size
  have hs2 := Lib.hid (hs1.out.below hb2 (by first | omega | (simp <;> omega)))
  clear s0 s1 hs1 hb2
  replace rd2 := Lib.hid rd2
  go_wp2_with fail
  refine (specGlyphUsers_any d k2 x0 U r hU.out hq.out _ _ _ (GsRc.rd rd2.out) (Nat.le_refl _) (hm1.out.mono (by omega)) hst.out).mono ?_
  rintro e w5 ⟨A5, c5, rfl, ho5, hb5⟩
  have hB5 := hB2.trans (hb5.mono hB2.size)
  have hyc : w.heap.size < w5.heap.size := Nat.lt_of_lt_of_le hyb hb5.size
  have hs5 := Lib.hid (hs2.out.below hb5 (by first | omega | (simp <;> omega)))
  have rdw := Lib.hid (rdS_own intC_len (by omega) ho5 rfl)
  clear hs2 hb5 rd2 ho5
  obtain ⟨s0, s1⟩ := hs5.out
  go_wp2_with fail
  refine (toGlyphSet_mk d h 0 w.heap.size _ (hr.out.frame good_glyph (Below.sameB hB5 (Nat.le_refl _))) hB5.size hm1.out).mono ?_
  rintro e w6 ⟨k6, rfl, rd6, hb6⟩
  have hB6 := hB5.trans (hb6.mono hB5.size)
  have h56 : w5.heap.size ≤ w6.heap.size := hb6.size
  have hyd : w.heap.size < w6.heap.size := Nat.lt_of_lt_of_le hyc hb6.size
  have hs6 := Lib.hid (hs5.out.below hb6 (by first | omega | (simp <;> omega)))
  replace rdw := Lib.hid (rdw.out.frame (good_flat _) (Below.sameB hb6 (Nat.le_refl _)))
  have hk6 : k6.gl.n ≤ 1048576 := by rw [← rd6.1.1]; exact hm1.out.l
  clear s0 s1 hs5 hb6
  replace rd6 := Lib.hid rd6
  go_wp2_with fail
  refine (implGlyphUsers_any d k6 x0 U r hU.out hq.out _ _ _ (rd6.out.1.frame good_glyphc (SameB.alloc (SameB.refl _ _ _) (Nat.le_refl _) _)) (by simp) (hm1.out.mono (by omega)) hst.out).mono ?_
  rintro e w8 ⟨A8, c8, rfl, ho8, hb8⟩
  have g68 : w6.heap.size < w8.heap.size := by have := hb8.size; simp at this; omega
  have hB8 : Below w.heap.size w w8 := (hB6.alloc hB6.size _).trans (hb8.mono (by simp; exact Nat.le_succ_of_le hB6.size))
  have hs8 := Lib.hid ((hs6.out.alloc (by omega) _).below hb8 (by first | omega | (simp <;> omega)))
  have hx8 := Lib.hid (boxS_new (d := d) (h := k6) ((hb8.block _ (by simp)).trans (heap_alloc_new w6 _)) rfl)
  replace rd6 := Lib.hid (rd6.out.frame good_glyphc ((SameB.alloc (SameB.refl _ _ _) (Nat.le_refl _) _).trans (Below.sameB hb8 (by simp))))
  replace rdw := Lib.hid (rdw.out.frame (good_flat _) ((SameB.alloc (SameB.refl _ _ _) h56 _).trans (Below.sameB hb8 (by simp; omega))))
  have ho : Hid (w8.ownsRow (w6.heap.size + 1) 2 1 (.slice A8 U.length c8) U.length (U.flatMap intC)) := by have h := ho8; simp at h; exact h
  have hye : w.heap.size < w8.heap.size := by omega
  clear hs6 hb8 ho8
  go_wp2_with fail
  refine (eqInt64S_any _ _ _ _ _ _ _ _ _ _ U _ (rdS_own intC_len (by omega) ho.out rfl) rdw.out (Nat.le_refl _) (by omega) (by omega)).mono ?_
  rintro e w9 ⟨rfl, hb9⟩
  have hB9 := hB8.trans (hb9.mono hB8.size)
  have h89 : w8.heap.size ≤ w9.heap.size := hb9.size
  have hs9 := Lib.hid (hs8.out.below hb9 (by first | omega | (simp <;> omega)))
  have hx9 := Lib.hid (hx8.out.below hb9 (by first | omega | (simp <;> omega)))
  replace rd6 := Lib.hid (rd6.out.frame good_glyphc (Below.sameB hb9 (by omega)))
  replace rdw := Lib.hid (rdw.out.frame (good_flat _) (Below.sameB hb9 (by omega)))
  replace ho := Lib.hid (own_below ho.out hb9)
  clear hs8 hx8 hb9
  go_wp2_with fail
  go_region_held3 (fun w' => w'.cell? ⟨w6.heap.size, 0, none⟩ = some (.int .i64 d.unit) ∧ w'.cell? ⟨w6.heap.size, 1, none⟩ = some (.slice k6.gl.A k6.gl.n k6.gl.c) ∧ w'.cell? ⟨w.heap.size, 0, none⟩ = some (.int .i64 d.unit) ∧ w'.cell? ⟨w.heap.size, 1, none⟩ = some (.slice h.gl.A h.gl.n h.gl.c)) (first | exact (hx9.out.two hs9.out) | exact (hx10.out.two hs10.out) | exact (hx11.out.two hs11.out))
    (first | (go_at_call 47; (with_reducible refine (toGlyphSet_any d h 0 w.heap.size _ ?_ ?_ hm1.out).mono ?_); exact (hr.out.frame good_glyph (Below.sameB hB9.drew (Nat.le_refl _))); exact hB9.size; rintro e w10 ⟨k10, rfl, rd10, hb10⟩; have hB10 := hB9.drew.trans (hb10.mono hB9.size); have hz10 : w9.heap.size ≤ w10.heap.size := hb10.size; have hs10 := Lib.hid (hs9.out.drew.below hb10 (by first | omega | (simp <;> omega))); have hx10 := Lib.hid (hx9.out.drew.below hb10 (by first | omega | (simp <;> omega))); replace rd6 := Lib.hid (rd6.out.frame good_glyphc ((SameB.refl _ _ w9).drew.trans (Below.sameB hb10 (by show _ ≤ w9.heap.size; omega)))); replace rdw := Lib.hid (rdw.out.frame (good_flat _) ((SameB.refl _ _ w9).drew.trans (Below.sameB hb10 (by show _ ≤ w9.heap.size; omega)))); replace ho := Lib.hid (own_below ho.out.drew hb10); replace rd10 := Lib.hid rd10; clear hb10) | (go_at_call 49; (with_reducible refine (eqGlyphSet_any d k6 k10 _ _ _ _ _ (GsRc.rd (GsRm.c rd6.out)) (GsRc.rd rd10.out) ?_ ?_ ?_).mono ?_); (omega); (exact Nat.le_refl _); exact hm1.out.mono (by omega); rintro e w11 ⟨rfl, hb11⟩; have hB11 := hB10.trans (hb11.mono hB10.size); have hz11 : w10.heap.size ≤ w11.heap.size := hb11.size; have hs11 := Lib.hid (hs10.out.below hb11 (by first | omega | (simp <;> omega))); have hx11 := Lib.hid (hx10.out.below hb11 (by first | omega | (simp <;> omega))); replace rd6 := Lib.hid (rd6.out.frame good_glyphc (Below.sameB hb11 (by omega))); replace rdw := Lib.hid (rdw.out.frame (good_flat _) (Below.sameB hb11 (by omega))); replace ho := Lib.hid (own_below ho.out hb11); clear hb11))
  clear hs10 hs9 hx9 hx10 rd10
  obtain ⟨t0, t1⟩ := hx11.out
  go_wp2_with fail
  refine (markGlyphSet_w d k6 w5.heap.size w6.heap.size 1 _ rd6.out.2 (by omega) (by omega) (by omega) (by omega) hk6).mono ?_
  rintro e w12 ⟨m12, rfl, hm12, hM⟩
  have hB12 := hB11.trans ((hM.below (by omega)).mono (by omega))
  have h1112 : w11.heap.size ≤ w12.heap.size := hM.size
  have hs12 := Lib.hid (hs11.out.below (hM.below (by omega)) (by omega))
  replace rdw := Lib.hid (rdw.out.frame (good_flat _) (hM.sameB (.inl (Nat.le_refl _)) (by omega)))
  replace ho := Lib.hid (own_same ho.out fun g hg => (hM.sameB (lo' := w6.heap.size) (hi' := w11.heap.size) (.inr (Nat.le_refl _)) (Nat.le_refl _)) g (by have := (ho.out.lt g hg).1; omega) (ho.out.lt g hg).2)
  have hm12' : ¬ m12 < 0 := by omega
  clear hM hs11 hx11 t0 t1 rd6 hm12
  have hd12 : decide (m12 < 0) = false := by simpa using hm12'
  clear hm12'
  go_wp2_with fail
  refine (eqInt64S_any _ _ _ _ _ _ _ _ _ _ U _ (rdS_own intC_len (by omega) ho.out rfl) rdw.out (Nat.le_refl _) (by omega) (by omega)).mono ?_
  rintro e w13 ⟨rfl, hb13⟩
  have hB13 := hB12.trans (hb13.mono hB12.size)
  have h1213 : w12.heap.size ≤ w13.heap.size := hb13.size
  have hs13 := Lib.hid (hs12.out.below hb13 (by first | omega | (simp <;> omega)))
  replace rdw := Lib.hid (rdw.out.frame (good_flat _) (Below.sameB hb13 (by omega)))
  replace ho := Lib.hid (own_below ho.out hb13)
  clear hs12 hb13
  go_wp2_with fail
  refine (markInt64S_any _ _ _ _ _ 1 _ ho.out (by omega) (by omega) (by omega)).mono ?_
  rintro e w14 ⟨rfl, hg14, ho14, hz14⟩
  have hb14 := below_app ho.out hg14 (by omega)
  have hB14 := hB13.trans (hb14.mono (by omega))
  have hs14 := Lib.hid (hs13.out.below hb14 (by omega))
  replace rdw := Lib.hid (rdw.out.frame (good_flat _) (Below.sameB hb14 (by omega)))
  clear hs13 hg14 hb14 ho
  have ho := Lib.hid ho14
  clear ho14
  go_wp2_with fail
  refine (heldInt64S_any _ _ _ _ _ 1 _ (rdS_own intC_len (by omega) ho.out (mkInt64_length 1 _)) (by omega) (by omega) (by omega)).mono ?_
  rintro e w14 ⟨rfl, rfl⟩
  have hU0 : decide ((1 : Int) + (U.length : Int) < 0) = false := by simp; omega
  obtain ⟨s0, s1⟩ := hs14.out
  go_wp2_with fail
  refine (toGlyphSet_any d h 0 w.heap.size _ (hr.out.frame good_glyph (Below.sameB hB14 (Nat.le_refl _))) hB14.size hm1.out).mono ?_
  rintro e w15 ⟨k15, rfl, rd15, hb15⟩
  have hB15 := hB14.trans (hb15.mono hB14.size)
  replace rdw := Lib.hid (rdw.out.frame (good_flat _) (Below.sameB hb15 (by omega)))
  replace ho := Lib.hid (own_below ho.out hb15)
  have h1415 := hb15.size
  replace rd15 := Lib.hid rd15
  clear s0 s1 hs14 hb15
  go_wp2_with fail
  refine (implGlyphUsers_any d k15 x0 U r hU.out hq.out _ _ _ rd15.out (Nat.le_refl _) (hm1.out.mono (by omega)) hst.out).mono ?_
  rintro e w16 ⟨A16, c16, rfl, ho16, hb16⟩
  have hB16 := hB15.trans (hb16.mono hB15.size)
  replace rdw := Lib.hid (rdw.out.frame (good_flat _) (Below.sameB hb16 (by omega)))
  replace ho := Lib.hid (own_below ho.out hb16)
  replace ho16 := Lib.hid ho16
  have h1516 := hb16.size
  clear rd15 hb16
  go_wp2_with fail
  refine (eqInt64S_any _ _ _ _ _ _ _ _ _ _ U _ (rdS_own intC_len (by omega) ho16.out rfl) rdw.out (Nat.le_refl _) (by omega) (by omega)).mono ?_
  rintro e w17 ⟨rfl, hb17⟩
  have hB17 := hB16.trans (hb17.mono hB16.size)
  replace ho := Lib.hid (own_below ho.out hb17)
  clear ho16 hb17 rdw
  go_wp2_with fail
  refine (heldInt64S_any _ _ _ _ _ 1 _ (rdS_own intC_len (by omega) ho.out (mkInt64_length 1 _)) (by omega) (by omega) (by omega)).mono ?_
  rintro e w17 ⟨rfl, rfl⟩
  clear ho
  go_wp2_with fail
  go_ret
  exact ⟨rfl, hB17⟩
end Go.Proofs.Ytgngcllodofimaa

