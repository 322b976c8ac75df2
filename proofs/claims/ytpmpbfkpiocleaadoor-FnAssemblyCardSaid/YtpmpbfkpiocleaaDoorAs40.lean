/- The assembling of programs, both sides, and the law. Conditions: as each states. -/
import Derived.Test.YtpmpbfkpiocleaaDoorAs39
import Derived.Test.YtpmpbfkpiocleaaDoorAs36
import Derived.Test.YtpmpbfkpiocleaaDoorAs24
namespace Go.Proofs.YtpmpbfkpiocleaaDoor
open Go.RowKit
set_option linter.unusedVariables false
set_option maxRecDepth 100000

/-- a row of lines in memory -/
def LinesAt (w : World) (A : Option Addr) (n : Nat) (Ls : List (List UInt8)) : Prop := n = Ls.length ∧ (0 < n → ∃ b, A = some ⟨b, 0, none⟩ ∧ b < w.heap.size ∧ ∀ (j : Nat) (l : List UInt8), Ls[j]? = some l → w.cell? ⟨b, j, none⟩ = some (.string (bytesOf l)))
theorem LinesAt.below {w w' : World} {A : Option Addr} {n : Nat} {Ls : List (List UInt8)} (h : LinesAt w A n Ls) (hb : Below w.heap.size w w') : LinesAt w' A n Ls := by
  refine ⟨h.1, fun hn => ?_⟩
  obtain ⟨b, h1, h2, h3⟩ := h.2 hn
  exact ⟨b, h1, Nat.lt_of_lt_of_le h2 hb.size, fun j l hj => (hb.cell (p := ⟨b, j, none⟩) h2).trans (h3 j l hj)⟩
theorem split_len (b : UInt8) : ∀ (n : Nat) (l : List UInt8), l.length ≤ n → (splitF b l).length ≤ l.length + 1 ∧ ∀ a ∈ splitF b l, a.length ≤ l.length := by
  intro n
  induction n with
  | zero =>
    intro l h
    obtain rfl : l = [] := List.length_eq_zero_iff.1 (by omega)
    simp [splitF]
  | succ n ih =>
    intro l h
    rcases first_at b l with h1 | ⟨p, r, rfl, h1⟩
    · rw [splitF_last b l h1]; simp
    · rw [splitF_hit b p r h1]
      have hr := ih r (by simp at h; omega)
      refine ⟨by simp; omega, fun a ha => ?_⟩
      rcases List.mem_cons.1 ha with rfl | ha
      · simp
      · have := hr.2 a ha
        simp; omega
theorem bytes_subB {b : UInt8} {s : ByteArray} {a : List UInt8} (hs : s.size ≤ 1048576) (ha : a ∈ splitF b s.data.toList) : (bytesOf a).size ≤ 1048576 := by
  have h := (split_len b _ s.data.toList (Nat.le_refl _)).2 a ha
  have e : (bytesOf a).size = a.length := rfl
  have e2 : s.data.toList.length = s.size := by simp
  omega

def TLPost (s : ByteArray) (w : World) (e : Ending) (w' : World) : Prop :=
  (e = .returned (.tuple #[.slice none 0 0, .bool false]) ∧ (splitF 10 s.data.toList).getLast? ≠ some [] ∧ Below w.heap.size w w') ∨
  ∃ A n c Ls, e = .returned (.tuple #[.slice A n c, .bool true]) ∧ splitF 10 s.data.toList = Ls ++ [[]] ∧ LinesAt w' A n Ls ∧ Below w.heap.size w w'

theorem textLines_any (s : ByteArray) (w : World) (hm : MaxI w) (hs : s.size ≤ 1048576) :
    Calls Tryd.prog 25 #[.string s] w fun e w' => TLPost s w e w' := by
  obtain ⟨m, hm⟩ := hm
  by_cases h0 : s.size = 0
  · have hse : s = ⟨#[]⟩ := by
      cases s with
      | mk d => simp [ByteArray.size] at h0; rw [h0]
    subst hse
    clear h0 hm
    go_enter Tryd.func25, Tryd.ntmps25
    go_wp2_with fail
    go_ret2
    exact .inr ⟨none, 0, 0, [], rfl, rfl, ⟨rfl, fun h => absurd h (by omega)⟩, Below.refl _ _⟩
  have hne : (s.toList == []) = false := by
    rw [beq_eq_false_iff_ne]
    intro h
    exact h0 (by rw [← bytes_length, h]; rfl)
  have h1s : 0 < s.size := by omega
  obtain ⟨k, hk⟩ : ∃ k, s.size = k + 1 := ⟨s.size - 1, by omega⟩
  have hkl : k < s.data.toList.length := by simp; omega
  have hse : s.data.toList = s.data.toList.take k ++ [s[k]] := by
    have h := List.take_append_drop k s.data.toList
    rw [List.drop_eq_getElem_cons hkl, List.drop_of_length_le (by simp; omega)] at h
    exact h.symm
  have hki : (0 : Int) ≤ (k : Int) ∧ (k : Int) < (s.size : Int) := by omega
  have hki2 : (0 : Int) ≤ (k : Int) ∧ (k : Int) ≤ (s.size : Int) := by omega
  have hkk : (s.size : Int) - 1 = (k : Int) := by omega
  obtain ⟨c, hc⟩ : ∃ c, c = s[k] := ⟨_, rfl⟩
  rw [← hc] at hse
  have hc' := hc.symm
  have hc256 := c.toNat_lt
  by_cases h10 : c = 10
  · subst h10
    have hx : s.extract 0 k = bytesOf (s.data.toList.take k) := by rw [extract_mk]; rfl
    have hsp : Hid (splitF 10 s.data.toList = splitF 10 (s.data.toList.take k) ++ [[]]) := by
      show splitF 10 s.data.toList = _
      have h := splitF_end 10 _ (s.data.toList.take k) (Nat.le_refl _)
      rw [← hse] at h; exact h
    have hcl := Tryd.strings_Split (bytesOf (s.data.toList.take k)) ⟨#[10]⟩ m w (by have e : (bytesOf (s.data.toList.take k)).size = (s.data.toList.take k).length := rfl; rw [e, List.length_take]; omega) hm (by show 1 ≤ 1; omega)
    rw [splitB_is, countB_is] at hcl
    rw [← hx] at hcl
    have hdl : (s.extract 0 k).data.toList = s.data.toList.take k := by rw [hx]; simp [bytesOf]
    rw [hdl] at hcl
    obtain ⟨Ls, hLs⟩ : ∃ Ls, Ls = splitF 10 (s.data.toList.take k) := ⟨_, rfl⟩
    rw [← hLs] at hcl hsp
    replace hcl := Lib.hid hcl
    clear hx hdl hse hm hc hLs
    go_enter Tryd.func25, Tryd.ntmps25
    go_wp2_with fail
    refine hcl.out.mono ?_
    rintro e w1 ⟨rfl, rfl⟩
    go_wp2_with fail
    go_ret2
    refine .inr ⟨_, Ls.length, _, Ls, rfl, hsp.out, ⟨rfl, fun _ => ⟨w.heap.size, rfl, by simp, fun j l hj => ?_⟩⟩, Go.Joins.below_alloc1 _ _⟩
    rw [Go.Joins.cell_of_block (heap_alloc_new w _)]
    simp [hj, bytesOf]
  · have hcn : ((c.toNat : Int) == 10) = false := by
      rw [beq_eq_false_iff_ne]
      intro h
      exact h10 (UInt8.toNat_inj.1 (by show c.toNat = 10; omega))
    have hcn2 : ((c.toNat : Int) != 10) = true := by simp [bne, hcn]
    have hlast : Hid ((splitF 10 s.data.toList).getLast? ≠ some []) := by
      show (splitF 10 s.data.toList).getLast? ≠ some []
      rw [hse]; exact splitF_tail 10 c h10 _ _ (Nat.le_refl _)
    clear hse hm hc h10
    go_enter Tryd.func25, Tryd.ntmps25
    go_wp2_with fail
    go_ret2
    exact .inl ⟨rfl, hlast.out, Below.refl _ _⟩

/-- the program of a text, and its code, as a fact -/
def AsmPost (s : ByteArray) (w : World) (e : Ending) (w' : World) : Prop := ∃ o, TextR s.data.toList o ∧ e = .returned (.tuple #[.string ⟨(asmR o).1.toArray⟩, .int .i64 (asmR o).2]) ∧ Below w.heap.size w w'

theorem asm_some {L : List (Int × Int)} {x : List UInt8} {y : Int} (h : makeR L = (x, y)) : (asmR (some L)).1 = x ∧ (asmR (some L)).2 = y := by
  have e : asmR (some L) = makeR L := rfl
  rw [e, h]; exact ⟨rfl, rfl⟩
set_option maxHeartbeats 8000000 in
theorem implAssemble_any (s : ByteArray) (w : World) (hm : MaxI w) (hs : s.size ≤ 1048576) :
    Calls Tryd.prog 8 #[.string s] w fun e w' => AsmPost s w e w' := by
  have hml := hm.lt
  have hmk := Lib.hid hm
  have htl := Lib.hid (textLines_any s w hm hs)
  have hsub := Lib.hid (fun a (h : a ∈ splitF 10 s.data.toList) => bytes_subB hs h)
  have hcnt := (split_len 10 _ s.data.toList (Nat.le_refl _)).1
  have hsl : s.data.toList.length = s.size := by simp
  rw [hsl] at hcnt
  clear hm hsl
  go_enter Tryd.func8, Tryd.ntmps8
  go_wp2_with fail
  refine htl.out.mono ?_
  rintro e w1 (⟨rfl, hl, hb1⟩ | ⟨A, n, cp, Ls, rfl, hsp, hla, hb1⟩)
  · replace hl := Lib.hid hl
    go_wp2_with fail
    go_ret2
    exact ⟨none, .inl ⟨rfl, hl.out⟩, rfl, hb1⟩
  have hnl := hla.1
  have hn1 : n ≤ 1048577 := by rw [hsp, List.length_append] at hcnt; simp at hcnt; omega
  have hmem : Hid (∀ a ∈ Ls, (bytesOf a).size ≤ 1048576) := fun a ha => hsub.out a (by rw [hsp]; exact List.mem_append_left _ ha)
  have hok : Hid (∀ o, LinesR Ls o → TextR s.data.toList o) := fun o h => .inr ⟨Ls, hsp, h⟩
  have hm1 := Lib.hid (hmk.out.kept hb1 hml)
  have hml1 := hm1.out.lt
  replace hla := Lib.hid hla
  replace hnl := Lib.hid hnl
  clear hsp htl hsub hcnt
  go_wp2_with fail
  go_loopw [6, 20] (fun lv i wr => ∃ (k : Nat) (L : List (Int × Int)) (B : Option Addr) (c : Nat), i = .int .i64 k ∧ k ≤ n ∧ lv = .slice B L.length c ∧ LinesTo Ls k L ∧ wr.ownsRow w1.heap.size 32 2 (.slice B L.length c) L.length (hintCells L) ∧ Below w1.heap.size w1 wr) (fun lv i wr => n - (intOf i).toNat)
  case atStart => exact ⟨0, [], _, _, rfl, Nat.zero_le _, rfl, LinesTo.start Ls, World.ownsRow_nil _ _ _ _, Below.refl _ _⟩
  case round =>
    obtain ⟨k, L, B, c, rfl, hk, rfl, hto, hown, hbel⟩ := hrel
    have hLb : L.length ≤ 1048577 := by have := hto.2.1; omega
    have hsz := hbel.size
    have hBw := hb1.trans (hbel.mono hb1.size)
    replace hto := Lib.hid hto
    replace hown := Lib.hid hown
    by_cases hlt : k < n
    · obtain ⟨b, rfl, hb, hcell⟩ := hla.out.2 (by omega)
      obtain ⟨ln, hln⟩ : ∃ ln, Ls[k]? = some ln := ⟨_, List.getElem?_eq_getElem (by rw [← hnl.out]; exact hlt)⟩
      have q0 := (hbel.cell (p := ⟨b, k, none⟩) hb).trans (hcell k ln hln)
      have hlm := hmem.out ln (List.mem_of_getElem? hln)
      have hb' : b < wr.heap.size := by omega
      have hrd := Lib.hid (readHint_any (bytesOf ln) wr (hm1.out.kept hbel hml1) hlm)
      have hlnH := Lib.hid hln
      have hlb : (bytesOf ln).data.toList = ln := by simp [bytesOf]
      clear hcell hln
      go_wp2_with fail
      refine hrd.out.mono ?_
      rintro e w2 ⟨o, cd, v, hlr, hov, rfl, hb2⟩
      rw [hlb] at hlr
      cases o with
      | none =>
        have hbad := Lib.hid (hto.out.bad hlnH.out hlr)
        clear hlr hov
        go_wp2_with fail
        go_ret2
        exact ⟨none, hok.out none hbad.out, rfl, (hBw.trans (hb2.mono hBw.size)).alloc (hBw.trans (hb2.mono hBw.size)).size _⟩
      | some p =>
        obtain rfl := hov p rfl
        have hstep := Lib.hid (hto.out.step hlnH.out hlr)
        have hown2 := Lib.hid (own_below hown.out hb2)
        have hbel2 : Below w1.heap.size w1 w2 := hbel.trans (hb2.mono hsz)
        have hz2 := hbel2.size
        clear hlr hov hb2
        go_wp2_with (at_builtin; refine wpApp rfl (.tmp 31) (.tmp 33) elemHint rfl (v := .slice B L.length c) (n := L.length) (xs := hintCells L) rfl ((hown2.out.alloc _).alloc _) rfl (src_at (cs := [.int .i64 cd, .int .i64 v]) rfl (by simp [Value.oneCell']) (by simp)) (by omega) (by omega) (by simp; omega) (L.length + 1) rfl ?_; intro A' c' w3 hown3 hb3; replace hown3 := Lib.hid hown3)
        have hb3' : Below w1.heap.size w1 w3 := (((hbel2.alloc hz2 _).alloc (by simp; omega) _)).trans hb3
        clear hb3
        go_roundw
        case rel => exact ⟨k + 1, L ++ [(cd, v)], A', c', by go_num, by omega, by simp, hstep.out, by have := hown3.out; rw [hintCells_append, List.length_append]; exact this, hb3'⟩
        case measure => simp [intOf]; omega
    · have hkn : k = n := by omega
      subst hkn
      have hfin : LinesR Ls (some L) := by
        have := hto.out
        rw [hnl.out] at this
        exact this.done
      replace hfin := Lib.hid hfin
      obtain ⟨x, y, hxy⟩ : ∃ x y, makeR L = (x, y) := ⟨_, _, rfl⟩
      have hpr := Lib.hid (implProgramOf_any B L.length c L wr (rdH_own hown.out rfl) (by omega) x y hxy)
      replace hxy := Lib.hid hxy
      go_wp2_with fail
      refine hpr.out.mono ?_
      rintro e w2 ⟨rfl, hb2⟩
      go_wp2_with fail
      go_ret2
      refine ⟨some L, hok.out _ hfin.out, ?_, hBw.trans (hb2.mono hBw.size)⟩
      rw [(asm_some hxy.out).1, (asm_some hxy.out).2]
      rfl

end Go.Proofs.YtpmpbfkpiocleaaDoor

