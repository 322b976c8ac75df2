/- The lines of a text: impl.textLines. Conditions: as each states. -/
import Derived.Lib.QuietBelow
import Derived.Deep.RegionHeld3
import Derived.Lib.Builder
import Derived.Lib.AppendStr
import Derived.Laws.Externs
import Derived.BigRegion
import Derived.Test.YtgdkabljgabjoaaGreatDoorGw29
import Derived.Test.YtgdkabljgabjoaaGreatDoorGw23
import Derived.Test.YtgdkabljgabjoaaGreatDoorGw21
import Derived.Test.YtgdkabljgabjoaaGreatDoorGw22
import Derived.Test.YtgdkabljgabjoaaGreatDoorGw03
import Derived.Test.YtgdkabljgabjoaaGreatDoorGw05
import Derived.Test.YtgdkabljgabjoaaGreatDoorGw01
import Derived.Test.YtgdkabljgabjoaaGreatDoorShelf
import Derived.Test.YtgdkabljgabjoaaGreatDoorGw09
namespace Go.Proofs.YtgdkabljgabjoaaGreatDoor
open Go.RowKit
set_option linter.unusedVariables false
set_option maxRecDepth 100000

/-- a row of lines in memory -/
def LinesAt (w : World) (A : Option Addr) (n : Nat) (Ls : List (List UInt8)) : Prop := n = Ls.length ∧ (0 < n → ∃ b, A = some ⟨b, 0, none⟩ ∧ b < w.heap.size ∧ ∀ (j : Nat) (l : List UInt8), Ls[j]? = some l → w.cell? ⟨b, j, none⟩ = some (.string (bytesOf l)))
theorem LinesAt.below {w w' : World} {A : Option Addr} {n : Nat} {Ls : List (List UInt8)} (h : LinesAt w A n Ls) (hb : Below w.heap.size w w') : LinesAt w' A n Ls := by
  refine ⟨h.1, fun hn => ?_⟩
  obtain ⟨b, h1, h2, h3⟩ := h.2 hn
  exact ⟨b, h1, Nat.lt_of_lt_of_le h2 hb.size, fun j l hj => (hb.cell (p := ⟨b, j, none⟩) h2).trans (h3 j l hj)⟩
theorem split_len (b : UInt8) : ∀ (n : Nat) (l : List UInt8), l.length ≤ n → (splitF b l).length ≤ l.length + 1 ∧ ∀ a ∈ splitF b l, a.length ≤ l.length := by
  intro n
  induction n with
  | zero =>
    intro l h
    obtain rfl : l = [] := List.length_eq_zero_iff.1 (by omega)
    simp [splitF]
  | succ n ih =>
    intro l h
    rcases first_at b l with h1 | ⟨p, r, rfl, h1⟩
    · rw [splitF_last b l h1]; simp
    · rw [splitF_hit b p r h1]
      have hr := ih r (by simp at h; omega)
      refine ⟨by simp; omega, fun a ha => ?_⟩
      rcases List.mem_cons.1 ha with rfl | ha
      · simp
      · have := hr.2 a ha
        simp; omega
theorem bytes_subB {b : UInt8} {s : ByteArray} {a : List UInt8} (hs : s.size ≤ 1048576) (ha : a ∈ splitF b s.data.toList) : (bytesOf a).size ≤ 1048576 := by
  have h := (split_len b _ s.data.toList (Nat.le_refl _)).2 a ha
  have e : (bytesOf a).size = a.length := rfl
  have e2 : s.data.toList.length = s.size := by simp
  omega

def TLPost (s : ByteArray) (w : World) (e : Ending) (w' : World) : Prop :=
  (e = .returned (.tuple #[.slice none 0 0, .bool false]) ∧ (splitF 10 s.data.toList).getLast? ≠ some [] ∧ Below w.heap.size w w') ∨
  ∃ A n c Ls, e = .returned (.tuple #[.slice A n c, .bool true]) ∧ splitF 10 s.data.toList = Ls ++ [[]] ∧ LinesAt w' A n Ls ∧ Below w.heap.size w w'

theorem textLines_any (s : ByteArray) (w : World) (hm : MaxI w) (hs : s.size ≤ 1048576) :
    Calls Tryz.prog 30 #[.string s] w fun e w' => TLPost s w e w' := by
  obtain ⟨m, hm⟩ := hm
  by_cases h0 : s.size = 0
  · have hse : s = ⟨#[]⟩ := by
      cases s with
      | mk d => simp [ByteArray.size] at h0; rw [h0]
    subst hse
    clear h0 hm
    go_enter Tryz.func30, Tryz.ntmps30
    go_wp2_with fail
    go_ret2
    exact .inr ⟨none, 0, 0, [], rfl, rfl, ⟨rfl, fun h => absurd h (by omega)⟩, Below.refl _ _⟩
  have hne : (s.toList == []) = false := by
    rw [beq_eq_false_iff_ne]
    intro h
    exact h0 (by rw [← bytes_length, h]; rfl)
  have h1s : 0 < s.size := by omega
  obtain ⟨k, hk⟩ : ∃ k, s.size = k + 1 := ⟨s.size - 1, by omega⟩
  have hkl : k < s.data.toList.length := by simp; omega
  have hse : s.data.toList = s.data.toList.take k ++ [s[k]] := by
    have h := List.take_append_drop k s.data.toList
    rw [List.drop_eq_getElem_cons hkl, List.drop_of_length_le (by simp; omega)] at h
    exact h.symm
  have hki : (0 : Int) ≤ (k : Int) ∧ (k : Int) < (s.size : Int) := by omega
  have hki2 : (0 : Int) ≤ (k : Int) ∧ (k : Int) ≤ (s.size : Int) := by omega
  have hkk : (s.size : Int) - 1 = (k : Int) := by omega
  obtain ⟨c, hc⟩ : ∃ c, c = s[k] := ⟨_, rfl⟩
  rw [← hc] at hse
  have hc' := hc.symm
  have hc256 := c.toNat_lt
  by_cases h10 : c = 10
  · subst h10
    have hx : s.extract 0 k = bytesOf (s.data.toList.take k) := by rw [extract_mk]; rfl
    have hsp : Hid (splitF 10 s.data.toList = splitF 10 (s.data.toList.take k) ++ [[]]) := by
      show splitF 10 s.data.toList = _
      have h := splitF_end 10 _ (s.data.toList.take k) (Nat.le_refl _)
      rw [← hse] at h; exact h
    have hcl := Tryz.strings_Split (bytesOf (s.data.toList.take k)) ⟨#[10]⟩ m w (by have e : (bytesOf (s.data.toList.take k)).size = (s.data.toList.take k).length := rfl; rw [e, List.length_take]; omega) hm (by show 1 ≤ 1; omega)
    rw [splitB_is, countB_is] at hcl
    rw [← hx] at hcl
    have hdl : (s.extract 0 k).data.toList = s.data.toList.take k := by rw [hx]; simp [bytesOf]
    rw [hdl] at hcl
    obtain ⟨Ls, hLs⟩ : ∃ Ls, Ls = splitF 10 (s.data.toList.take k) := ⟨_, rfl⟩
    rw [← hLs] at hcl hsp
    replace hcl := Lib.hid hcl
    clear hx hdl hse hm hc hLs
    go_enter Tryz.func30, Tryz.ntmps30
    go_wp2_with fail
    refine hcl.out.mono ?_
    rintro e w1 ⟨rfl, rfl⟩
    go_wp2_with fail
    go_ret2
    refine .inr ⟨_, Ls.length, _, Ls, rfl, hsp.out, ⟨rfl, fun _ => ⟨w.heap.size, rfl, by simp, fun j l hj => ?_⟩⟩, Go.Joins.below_alloc1 _ _⟩
    rw [Go.Joins.cell_of_block (heap_alloc_new w _)]
    simp [hj, bytesOf]
  · have hcn : ((c.toNat : Int) == 10) = false := by
      rw [beq_eq_false_iff_ne]
      intro h
      exact h10 (UInt8.toNat_inj.1 (by show c.toNat = 10; omega))
    have hcn2 : ((c.toNat : Int) != 10) = true := by simp [bne, hcn]
    have hlast : Hid ((splitF 10 s.data.toList).getLast? ≠ some []) := by
      show (splitF 10 s.data.toList).getLast? ≠ some []
      rw [hse]; exact splitF_tail 10 c h10 _ _ (Nat.le_refl _)
    clear hse hm hc h10
    go_enter Tryz.func30, Tryz.ntmps30
    go_wp2_with fail
    go_ret2
    exact .inl ⟨rfl, hlast.out, Below.refl _ _⟩

end Go.Proofs.YtgdkabljgabjoaaGreatDoor

/- The texts of points, both sides. Conditions: as each states. -/
namespace Go.Proofs.YtgdkabljgabjoaaGreatDoor
open Go.RowKit
set_option linter.unusedVariables false
set_option maxRecDepth 100000

theorem decS_sz {n : Int} (h1 : -9223372036854775808 ≤ n) (h2 : n ≤ 9223372036854775807) : (decS n).size ≤ 20 := by
  have := decL_len h1 h2
  simpa [decS, ByteArray.size] using this
def bS (l : List UInt8) : ByteArray := ⟨l.toArray⟩
theorem bS_size (l : List UInt8) : (bS l).size = l.length := rfl
theorem bS_app (a b : List UInt8) : bS a ++ bS b = bS (a ++ b) := by
  unfold bS; rw [ByteArray.mk_append_mk]
theorem bS_dec (n : Int) : decS n = bS (decL n) := rfl
theorem bS_of (s : ByteArray) : s = bS s.data.toList := by cases s; rfl
theorem pt_text (x y : Int) : (decS x ++ (⟨#[44]⟩ : ByteArray)) ++ decS y = bS (ptT x y) := by
  rw [bS_dec, bS_dec, show (⟨#[44]⟩ : ByteArray) = bS [44] from rfl, bS_app, bS_app]
  unfold ptT
  rw [List.append_assoc]

set_option maxHeartbeats 2000000 in
theorem ptText_any (x y : Int) (hv : ptOk x y = true) (w : World) :
    Calls Tryz.prog 69 #[.agg #[.int .i64 x, .int .i64 y]] w fun e w' => e = .returned (.string (bS (ptT x y))) ∧ Below w.heap.size w w' := by
  obtain ⟨⟨h1, h2⟩, h3, h4⟩ := ptOk_iff.1 hv
  have hdx := decS_sz (n := x) (by omega) (by omega)
  have hdy := decS_sz (n := y) (by omega) (by omega)
  have hvp := Lib.hid (validPt_any x y)
  rw [hv] at hvp
  clear hv
  have hb0 : Below w.heap.size w (w.alloc (.cells #[.int .i64 x, .int .i64 y] 102 (0, 0))) := Go.Joins.below_alloc1 _ _
  have HB := Lib.hid (heap_alloc_new w (.cells #[.int .i64 x, .int .i64 y] 102 (0, 0)))
  have hz0 : w.heap.size < (w.alloc (.cells #[.int .i64 x, .int .i64 y] 102 (0, 0))).heap.size := by simp
  go_enter Tryz.func69, Tryz.ntmps69
  go_wp2_with fail
  generalize (w.alloc (.cells #[.int .i64 x, .int .i64 y] 102 (0, 0))) = W at *
  refine (hvp.out W).mono ?_
  rintro e w1 ⟨rfl, hb1⟩
  have hB1 := hb0.trans (hb1.mono hb0.size)
  have HB1 := (hb1.block _ hz0).trans HB.out
  have hz1 : w.heap.size < w1.heap.size := by have := hb1.size; omega
  have hcN := Lib.hid (fun dr os => Calls.regrown_of (implDec_any x (Go.Sort.grow (redrawn w1 dr) os) (by omega) (by omega)))
  have hcD := Lib.hid (fun dr os => Calls.regrown_of (implDec_any y (Go.Sort.grow (redrawn w1 dr) os) (by omega) (by omega)))
  have k0 : ∀ dr os, (Go.Sort.grow (redrawn w1 dr) os).cell? ⟨w.heap.size, 0, none⟩ = some (.int .i64 x) := cell_regrown (by rw [Go.Joins.cell_of_block HB1]; rfl)
  have k1 : ∀ dr os, (Go.Sort.grow (redrawn w1 dr) os).cell? ⟨w.heap.size, 1, none⟩ = some (.int .i64 y) := cell_regrown (by rw [Go.Joins.cell_of_block HB1]; rfl)
  clear HB1 HB hvp hb1 hb0 hz0
  go_wp2_with fail
  refine wp_region_quiet_below (by kernel_rfl) (by kernel_rfl) ?_
  repeat (go_big_quiet_step (first | (with_reducible exact hcN.out _ _) | (with_reducible exact hcD.out _ _)))
  refine wpQuiet_nil ?_
  intro _ hw'
  obtain ⟨⟨dq, osq⟩, hw''⟩ := hw'
  subst hw''
  have hb3 := hB1.trans ((below_regrown w1 dq osq).mono hB1.size)
  generalize Go.Sort.grow (redrawn w1 dq) osq = w2 at hb3 ⊢
  go_wp2_with fail
  go_ret
  exact ⟨ret_string (pt_text x y), hb3⟩
end Go.Proofs.YtgdkabljgabjoaaGreatDoor

/- The text of an outline, the reference's. Conditions: as each states. -/
namespace Go.Proofs.YtgdkabljgabjoaaGreatDoor
open Go.RowKit
set_option linter.unusedVariables false
set_option maxRecDepth 100000

theorem mem_take {α : Type} {L : List α} {k : Nat} {a : α} (h : a ∈ L.take k) : a ∈ L := List.mem_of_mem_take h
theorem ptS_size {x y : Int} (h : ptOk x y = true) : (bS (ptT x y)).size ≤ 41 := ptT_len h

end Go.Proofs.YtgdkabljgabjoaaGreatDoor

/- A strings.Builder of the call's own: what each write does to it. Conditions: as each states. -/
namespace Go.Proofs.YtgdkabljgabjoaaGreatDoor
open Go.RowKit
set_option linter.unusedVariables false
set_option maxRecDepth 100000

theorem blen0 (s : ByteArray) : s.data.toList.length = s.size := by simp
/-- the builder at block b holds the bytes ds -/
def Bld (w : World) (B b : Nat) (ds : List UInt8) : Prop := Lib.IsBuilder 87 5 B b (byteV ds) w
theorem Bld.lt {w : World} {B b : Nat} {ds : List UInt8} (h : Bld w B b ds) : B ≤ b ∧ b < w.heap.size := by
  rcases h with h | h
  · exact ⟨h.1, h.lt⟩
  · exact ⟨h.1, h.lt⟩
theorem bld_new (w : World) : Bld (w.alloc (.cells #[.pointer none, .slice none 0 0] 87 (0, 0))) w.heap.size w.heap.size [] := Lib.fresh_isBuilder _ _ w
theorem Bld.kept {w w' : World} {B b : Nat} {ds : List UInt8} (h : Bld w B b ds) (hb : Below w.heap.size w w') : Bld w' B b ds := by
  have go : ∀ p, Lib.BuilderAt 87 5 B b p (byteV ds) w → Lib.BuilderAt 87 5 B b p (byteV ds) w' := by
    rintro p ⟨hB, v, hh, hown, hne⟩
    have hlt : b < w.heap.size := Lib.BuilderAt.lt ⟨hB, v, hh, hown, hne⟩
    exact ⟨hB, v, (hb.block b hlt).trans hh, own_below hown hb, hne⟩
  rcases h with h | h
  · exact .inl (go _ h)
  · exact .inr (go _ h)

/-- the builder's blocks lie below m -/
def BldLt (w : World) (b m : Nat) : Prop := b < m ∧ ∀ p v, w.heap[b]? = some (.cells #[p, v] 87 (0, 0)) → ∀ g, v.ownBlock = some g → g < m
theorem BldLt.kept {w w' : World} {b m : Nat} (h : BldLt w b m) (hb : Below m w w') : BldLt w' b m := by
  obtain ⟨h1, h2⟩ := h
  exact ⟨h1, fun p v hv => h2 p v (by rw [← hb.block b h1]; exact hv)⟩
set_option maxHeartbeats 1000000 in
theorem copyCheck_any (B b : Nat) (ds : List UInt8) (w : World) (h : Bld w B b ds) :
    Calls Tryz.prog 99 #[.pointer (some ⟨b, 0, none⟩)] w fun e w' => e = .returned (.tuple #[]) ∧ Lib.BuilderAt 87 5 B b (.pointer (some ⟨b, 0, none⟩)) (byteV ds) w' ∧ Below B w w' ∧ w'.heap.size = w.heap.size ∧ ∀ m, BldLt w b m → BldLt w' b m ∧ SameB m w.heap.size w w' := by
  rcases h with h | h
  · have h0 := h.cell0
    have hsh := h.shape
    have hfz := h.frozen0
    have hinfo : ∃ j, Tryz.prog.info? 87 = some j ∧ j.size = 2 := Option.map_eq_some_iff.1 (show (Tryz.prog.info? 87).map (·.size) = some 2 by kernel_rfl)
    obtain ⟨j, hj, hjs⟩ := hinfo
    have hlies : liesAt Tryz.prog Tryz.prog.depth 87 (2 / Tryz.prog.cellsOf 87) 0 87 1 = true := by kernel_rfl
    have hp := h
    replace h := Lib.hid h
    replace hp := Lib.hid hp
    have k1 := Lib.hid (Lib.run_to_unsafe (P := Tryz.prog) (w := w) ⟨b, 0, none⟩ Tryz.underlying85 Tryz.underlying174 hj (by rw [hjs]; decide) hsh (Nat.zero_lt_succ 1))
    have k2 := Lib.hid (Lib.run_from_unsafe (P := Tryz.prog) (w := w) ⟨b, 0, none⟩ Tryz.underlying174 Tryz.underlying85 hj hsh hlies)
    clear hsh hj hjs hlies
    go_enter Tryz.func99, Tryz.ntmps99
    go_wp2
    rw [k1.out]
    simp only [Result.andThen]
    rw [Oper.upon_value]
    go_wp2
    rw [run_callFunc_extern Tryz.func135 (by kernel_rfl) (by kernel_rfl) (by kernel_rfl) (e := Extern.AbiNoEscape.same) (by kernel_rfl)]
    rw [Lib.run_noEscape]
    simp only [Result.andThen]
    rw [Oper.upon_value]
    go_wp2
    rw [k2.out]
    simp only [Result.andThen]
    rw [Oper.upon_value]
    go_wp2
    go_end0
    refine ⟨rfl, h.out.used _, (Below.refl B w).setCell (p := ⟨b, 0, none⟩) h.out.1 _, by simp, fun m hm => ⟨⟨hm.1, fun p v hv g hg => ?_⟩, (SameB.refl _ _ w).setCell (.inl hm.1) _⟩⟩
    obtain ⟨_, v0, hb0, _, _⟩ := h.out
    have h2 := Go.Joins.block_setCell hb0 (i := 0) (.pointer (some ⟨b, 0, none⟩))
    rw [h2] at hv
    simp at hv
    exact hm.2 _ v0 hb0 g (by rw [hv.2]; exact hg)
  · have h0 := h.cell0
    obtain ⟨j, hj, _⟩ := Option.map_eq_some_iff.1 (show (Tryz.prog.info? 87).map (·.size) = some 2 by kernel_rfl)
    replace h := Lib.hid h
    have k1 := Lib.hid (Lib.run_neq_ptr_same (P := Tryz.prog) w ⟨b, 0, none⟩ Tryz.underlying85 hj)
    clear hj
    go_enter Tryz.func99, Tryz.ntmps99
    go_wp2
    rw [k1.out]
    go_wp2
    go_end0
    exact ⟨rfl, h.out, Below.refl B w, rfl, fun m hm => ⟨hm, SameB.refl _ _ w⟩⟩

set_option maxHeartbeats 1000000 in
theorem writeString_any (B b : Nat) (ds : List UInt8) (s : ByteArray) (w : World) (h : Bld w B b ds) (hl : ds.length + s.size ≤ 100000000) (hBw : B ≤ w.heap.size) :
    Calls Tryz.prog 54 #[.pointer (some ⟨b, 0, none⟩), .string s] w fun e w' => e = .returned (.tuple #[.int .i64 s.size, .nilIface]) ∧ Bld w' B b (ds ++ s.data.toList) ∧ Below B w w' ∧ ∀ m, BldLt w b m → SameB m w.heap.size w w' := by
  have hT : (87 : TypeId) ≠ 5 := by decide
  have hbl := h.lt
  have hc := Lib.hid (copyCheck_any B b ds w h)
  clear h
  obtain ⟨i0, hi, hz0, hz1, hz2⟩ := info_parts (show (Tryz.prog.info? 5).map (fun i => (i.zero, i.size, i.bytes)) = some (some (.int .u8 0), 1, 1) by kernel_rfl)
  go_enter Tryz.func54, Tryz.ntmps54
  go_wp2_with fail
  refine hc.out.mono ?_
  rintro e w1 ⟨rfl, h1, hb1, hz1', hfr⟩
  have hz3 := Lib.hid hz1'
  replace hfr := Lib.hid hfr
  obtain ⟨hB, v, hbk, hown, hne⟩ := h1
  obtain ⟨A, cap0, rfl⟩ := own_form hown
  have c0 : w1.cell? ⟨b, 0, none⟩ = some (.pointer (some ⟨b, 0, none⟩)) := by rw [Lib.cell_of_heap hbk]; rfl
  have c1 : w1.cell? ⟨b, 1, none⟩ = some (.slice A (byteV ds).length cap0) := by rw [Lib.cell_of_heap hbk]; rfl
  have hlt : b < w1.heap.size := by omega
  rw [byteV_length] at c1 hown hbk hne
  replace hbk := Lib.hid hbk
  replace hown := Lib.hid hown
  have hBw1 : B ≤ w1.heap.size := by omega
  replace hne := Lib.hid hne
  clear hz1'
  go_wp2_with (at_builtin; refine Lib.wpList_append_own_string _ rfl (.tmp 12) (.tmp 13) 41 9 rfl B 5 i0 Tryz.underlying41 Tryz.underlying9 hi hz0 hz1 hz2 _ _ _ rfl hown.out s rfl (by unfold maxLen; omega) (by omega) hBw1 ?_; intro v' w2 hown2 hg2 _; have hb2 : w2.heap[b]? = some (.cells #[.pointer (some ⟨b, 0, none⟩), .slice A ds.length cap0] 87 (0, 0)) := by { rw [hg2.block b hlt (fun e => hne.out e.symm)]; exact hbk.out }; have d1 : w2.cell? ⟨b, 1, none⟩ = some (.slice A ds.length cap0) := by { rw [Lib.cell_of_heap hb2]; rfl }; have f1 : w2.frozen? ⟨b, 1, none⟩ = false := Lib.frozen_of_heap hb2 1; obtain ⟨ao, cap, rfl⟩ := own_form hown2; replace hb2 := Lib.hid hb2; clear c0 c1)
  have hB2 : Below B w1 w2 := (Below.refl B w1).grown hg2 hBw1 (fun k hk => (hown.out.lt k hk).1)
  have hgr := Lib.hid (show w1.grownBy w2 (Value.slice A ds.length cap0).ownBlock from hg2)
  clear hg2
  go_ret2
  refine ⟨rfl, .inr ?_, (hb1.trans hB2).setCell (p := ⟨b, 1, none⟩) hB _, fun m hm => ?_⟩
  rotate_left
  · obtain ⟨hm1, hs1⟩ := hfr.out m hm
    have hs2 : SameB m w.heap.size w1 w2 := by
      cases ho : (Value.slice A ds.length cap0).ownBlock with
      | none => exact fun k _ k2 => hgr.out.block k (by have := hz3.out; omega) (by rw [ho]; simp)
      | some g =>
        have hg := hm1.2 _ _ hbk.out g ho
        exact fun k k1 k2 => hgr.out.block k (by have := hz3.out; omega) (by rw [ho]; intro e; injection e with e; omega)
    exact (hs1.trans hs2).setCell (.inl hm.1) _
  exact Lib.BuilderAt.put (T := 87) (e := 5) hB hb2.out (bs' := byteV (ds ++ s.data.toList)) (by rw [byteV_length, byteV_append, List.length_append, blen0]; exact hown2) hT
end Go.Proofs.YtgdkabljgabjoaaGreatDoor

/- Bytes as digits, both sides. Printed by mk_hex.py. Conditions: as each states. -/
namespace Go.Proofs.YtgdkabljgabjoaaGreatDoor
open Go.RowKit
set_option linter.unusedVariables false
set_option maxRecDepth 100000

def digB : ByteArray := ⟨#[48, 49, 50, 51, 52, 53, 54, 55, 56, 57, 97, 98, 99, 100, 101, 102]⟩
theorem dig_at : ∀ n : Nat, (h : n < 16) → (digB[n]'h) = hexD n := by
  intro n h
  have : ∀ n : Fin 16, digB[n.val]'(by have := n.isLt; exact this) = hexD n.val := by decide
  exact this ⟨n, h⟩
theorem u8_low (d : UInt8) : bits .and .u8 (d.toNat : Int) 15 = (d.toNat : Int) % 16 := by
  have := d.toNat_lt
  exact bits_mask .u8 8 (by decide) (fun n h0 h1 => by rw [IntKind.wrap_u8]; omega) 4 (by omega) (d.toNat : Int) (by omega) (by omega)
theorem hexT_snoc (l : List UInt8) (b : UInt8) : hexT (l ++ [b]) = hexT l ++ [hexD (b.toNat / 16), hexD (b.toNat % 16)] := flat_snoc _ _ _
theorem hexT_len (l : List UInt8) : (hexT l).length = 2 * l.length := by
  induction l with
  | nil => rfl
  | cons b l ih => unfold hexT at ih ⊢; rw [List.flatMap_cons, List.length_append, ih]; simp; omega
theorem src_pair {w : World} {b : Nat} {u v : Value} {t : TypeId} (h1 : u.oneCell' = true) (h2 : v.oneCell' = true) (hb : b = w.heap.size) : Src (w.alloc (.cells #[u, v] t)) 1 (some ⟨b, 0, none⟩) 2 [u, v] := by
  subst hb
  refine ⟨rfl, fun x hx => ?_, fun _ => ⟨_, rfl, fun j x hj => ?_⟩⟩
  · simp at hx; rcases hx with rfl | rfl <;> assumption
  · have : (⟨w.heap.size, 0, none⟩ : Addr).add j = ⟨w.heap.size, j, none⟩ := by unfold Addr.add; split <;> simp_all
    rw [this, Go.Joins.cell_of_block (heap_alloc_new w _)]
    match j, hj with
    | 0, hj => exact hj
    | 1, hj => exact hj

set_option maxHeartbeats 2000000 in
theorem hexText_any (s : ByteArray) (w : World) (hs : s.size ≤ 1000000) :
    Calls Tryz.prog 70 #[.string s] w fun e w' => e = .returned (.string (bS (hexT s.data.toList))) ∧ Below w.heap.size w w' := by
  have hsl : s.data.toList.length = s.size := by simp
  go_enter Tryz.func70, Tryz.ntmps70
  obtain ⟨i0, hi0, hz0, hs0, hby0⟩ := info_parts (show (Tryz.prog.info? 5).map (fun i => (i.zero, i.size, i.bytes)) = some (some (.int .u8 0), 1, 1) by kernel_rfl)
  go_wp2_with (at_make; refine wpList_make_own _ rfl _ _ 41 rfl w.heap.size 5 i0 (.int .u8 0) 1 Tryz.underlying41 hi0 hz0 hs0 .i64 .i64 _ (2 * s.size) rfl rfl (by first | rfl | (push_cast; rfl) | omega) (by rw [hby0]; omega) (by unfold maxLen; omega) (Nat.le_refl _) ?_; intro w0 hown0 hg0)
  have hb0 : Below w.heap.size w w0 := (Below.refl _ _).grown hg0 (Nat.le_refl _) (by simp)
  clear hg0 hi0 hz0 hs0 hby0

  go_loopw [3, 4] (fun out i wr => ∃ (k : Nat) (A : Option Addr) (c : Nat), i = .int .i64 k ∧ k ≤ s.size ∧ out = .slice A (2 * k) c ∧ wr.ownsRow w.heap.size 5 1 (.slice A (2 * k) c) (2 * k) (byteV (hexT (s.data.toList.take k))) ∧ Below w.heap.size w wr) (fun out i wr => s.size - (intOf i).toNat)
  case atStart => exact ⟨0, some ⟨w.heap.size, 0, none⟩, 2 * s.size, rfl, Nat.zero_le _, rfl, hown0, hb0⟩
  case round =>
    obtain ⟨k, A, c, rfl, hk, rfl, hown, hbel⟩ := hrel
    have hsz := hbel.size
    replace hown := Lib.hid hown
    by_cases hlt : k < s.size
    · obtain ⟨d, hd⟩ : ∃ d, s[k] = d := ⟨_, rfl⟩
      have hd256 := d.toNat_lt
      have hst : Hid (s.data.toList.take (k + 1) = s.data.toList.take k ++ [d]) := by
        show _ = _
        rw [List.take_succ_eq_append_getElem (by omega)]
        congr 2
      have hA0 : (0 : Int) ≤ (d.toNat : Int) / 16 := by omega
      have hA1 : (d.toNat : Int) / 16 < 16 := by omega
      have hC0 : (0 : Int) ≤ (d.toNat : Int) % 16 := by omega
      have hC1 : (d.toNat : Int) % 16 < 16 := by omega
      have hlow := u8_low d
      have e1 : ({ data := #[48, 49, 50, 51, 52, 53, 54, 55, 56, 57, 97, 98, 99, 100, 101, 102] } : ByteArray)[((d.toNat : Int) / 16).toNat]'(by show _ < 16; omega) = hexD (d.toNat / 16) := by
        rw [← dig_at (d.toNat / 16) (by omega)]; rfl
      have e2 : ({ data := #[48, 49, 50, 51, 52, 53, 54, 55, 56, 57, 97, 98, 99, 100, 101, 102] } : ByteArray)[((d.toNat : Int) % 16).toNat]'(by show _ < 16; omega) = hexD (d.toNat % 16) := by
        rw [← dig_at (d.toNat % 16) (by omega)]; rfl
      go_wp2_with fail
      go_region_law (refine stepAppAt rfl (.tmp 15) (.tmp 26) elemU8 rfl (v := .slice A (2 * k) c) (n := 2 * k) (xs := byteV (hexT (s.data.toList.take k))) rfl ((World.ownsRow.drew hown.out).alloc _) rfl (src_pair (u := .int .u8 (hexD (d.toNat / 16)).toNat) (v := .int .u8 (hexD (d.toNat % 16)).toNat) rfl rfl (by simp)) (by omega) (by omega) (by simp; omega) (2 * k + 2) rfl ?_; intro A4 c4 w2 ho2 hg2; have hb2 : Below w.heap.size w w2 := (hbel.drew.alloc (by simp; omega) _).trans (below_app ((World.ownsRow.drew hown.out).alloc _) hg2 (by simp; omega)); replace ho2 := Lib.hid ho2; clear hg2)
      all_goals
        go_wp2_with fail
        go_roundw
        case rel =>
          refine ⟨k + 1, A4, c4, by go_num, by omega, by rw [show 2 * (k + 1) = 2 * k + 2 by omega], ?_, hb2⟩
          rw [show 2 * (k + 1) = 2 * k + 2 by omega, hst.out, hexT_snoc, byteV_append]
          exact ho2.out
        case measure => simp [intOf]; omega
    · have hkn : k = s.size := by omega
      have hh : wr.ownsRow w.heap.size 5 1 (.slice A (2 * k) c) (2 * k) (byteV (hexT s.data.toList)) := by
        have := hown.out
        rwa [List.take_of_length_le (by omega)] at this
      have kr := run_bytes_str (P := Tryz.prog) (src := 41) (dst := 9) (w := wr) (c := c) Tryz.underlying41 Tryz.underlying5 Tryz.underlying9 (src_own hh (byteV_one _)) (by
        intro hA; subst hA
        rcases Nat.eq_zero_or_pos (2 * k) with h0 | h0
        · exact h0
        · obtain ⟨g, hg, _⟩ := own_at hh (by omega)
          cases hg)
      clear hh hkn
      go_wp2_with fail
      go_ret
      exact ⟨rfl, hbel⟩
end Go.Proofs.YtgdkabljgabjoaaGreatDoor

/- The text of a loop, the program's. Conditions: as it states. -/
namespace Go.Proofs.YtgdkabljgabjoaaGreatDoor
open Go.RowKit
set_option linter.unusedVariables false
set_option maxRecDepth 100000

theorem strV_snoc (l : List (List UInt8)) (a : List UInt8) : strV (l ++ [a]) = strV l ++ [.string (bS a)] := by simp [strV, bS]
theorem join_words (K : List Knot) : Lib.join ((K.map fun k => bS (knotT k)).map (·.data.toList)) [32] = loopT K := by
  unfold loopT
  congr 1
  rw [List.map_map]
  rfl

set_option maxHeartbeats 2000000 in
theorem loopText_any (A : Option Addr) (n c lo hi : Nat) (K : List Knot) (hv : loopOk K = true) (w : World) (hr : RdS 3 (FlatR knotC) w lo hi A n K) (hhi : hi ≤ w.heap.size) :
    Calls Tryz.prog 68 #[.agg #[.slice A n c]] w fun e w' => e = .returned (.string (bS (loopT K))) ∧ Below w.heap.size w w' := by
  obtain ⟨i0, hi0, hz0, hs0, hby0⟩ := info_parts (show (Tryz.prog.info? 9).map (fun i => (i.zero, i.size, i.bytes)) = some (some (.string ⟨#[]⟩), 1, 16) by kernel_rfl)
  have hln := hr.1
  obtain ⟨hK60, hK1, hkn⟩ := loopOk_is hv
  have hmax := loopT_max hv
  replace hr := Lib.hid hr
  replace hkn := Lib.hid hkn
  clear hv
  have hb0 : Below w.heap.size w (w.alloc (.cells #[.slice A n c] 113 (0, 0))) := Go.Joins.below_alloc1 _ _
  have HB := Lib.hid (heap_alloc_new w (.cells #[.slice A n c] 113 (0, 0)))
  have hz0' : (w.alloc (.cells #[.slice A n c] 113 (0, 0))).heap.size = w.heap.size + 1 := by simp
  go_enter Tryz.func68, Tryz.ntmps68
  go_wp2_with (at_make; refine wpList_make_own _ rfl _ _ 56 rfl (w.heap.size + 1) 9 i0 (.string ⟨#[]⟩) 1 Tryz.underlying56 hi0 hz0 hs0 .i64 .i64 _ n rfl rfl rfl (by rw [hby0]; omega) (by unfold maxLen; omega) (by simp) ?_; intro w0 hown0 hg0; have hb1 : Below w.heap.size w w0 := hb0.grown hg0 hb0.size (by simp); have HB0 := Lib.hid ((hg0.block w.heap.size (by omega) (by simp)).trans HB.out); have hz1 : w.heap.size + 1 ≤ w0.heap.size := (by have := hg0.size; omega); have q0 : w0.cell? ⟨w.heap.size, 0, none⟩ = some (.slice A n c) := (by rw [Go.Joins.cell_of_block HB0.out]; rfl); have ql : w.heap.size < w0.heap.size := (by omega); replace hown0 := Lib.hid hown0; clear hg0 hb0 HB hz0' hi0 hz0 hs0 hby0)
  go_loopw [3, 13] (fun out i wr => ∃ (k : Nat) (Aw : Option Addr) (cw : Nat), i = .int .i64 k ∧ k ≤ n ∧ out = .slice Aw k cw ∧ wr.ownsRow (w.heap.size + 1) 9 1 (.slice Aw k cw) k (strV ((K.take k).map knotT)) ∧ w.heap.size + 1 ≤ wr.heap.size ∧ Below w.heap.size w wr) (fun out i wr => n - (intOf i).toNat)
  case atStart => exact ⟨0, some ⟨w.heap.size + 1, 0, none⟩, n, rfl, Nat.zero_le _, rfl, by simpa [strV] using hown0.out, hz1, hb1⟩
  case round =>
    clear hown0 q0 ql
    obtain ⟨k, Aw, cw, rfl, hk, rfl, hown, hz, hbel⟩ := hrel
    replace hown := Lib.hid hown
    by_cases hlt : k < n
    · obtain ⟨b, off, x, rfl, _, hb, hx, hcs⟩ := (hr.out.frame (good_flat _) (Below.sameB hbel hhi)).at hlt
      have p0 := hcs 0 _ rfl
      have p1 := hcs 1 _ rfl
      have p2 := hcs 2 _ rfl
      simp only [Nat.add_zero] at p0
      have hvx : ptOk x.1 x.2.1 = true := hkn.out x (List.mem_of_getElem? hx)
      have hbw : b < wr.heap.size := by omega
      have hpz := ptS_size hvx
      have htk := Lib.hid (take_snoc hx)
      have hcall := Lib.hid (fun W => ptText_any x.1 x.2.1 hvx W)
      clear hcs hx hvx
      have hnext : Hid (∀ r : List UInt8, r = knotT x → strV ((K.take k).map knotT) ++ [.string (bS r)] = strV ((K.take (k + 1)).map knotT)) := fun r hr' => by
        rw [htk.out, List.map_append, hr', ← strV_snoc]; rfl
      obtain ⟨x1, x2, z⟩ := x
      dsimp only at p0 p1 p2 hpz hcall hnext
      have hba : Below w.heap.size w (wr.alloc (.cells #[.int .i64 x1, .int .i64 x2, .bool z] 152 (0, 0))) := hbel.alloc hbel.size _
      cases z
      all_goals
        go_wp2_with fail
        refine (hcall.out _).mono ?_
        rintro e w6 ⟨rfl, hb6⟩
        have hb7 := hba.trans (hb6.mono hba.size)
        have hz6 : wr.heap.size + 1 ≤ w6.heap.size := by have := hb6.size; simp at this; exact this
        have ho6 := Lib.hid (own_below (World.ownsRow.alloc hown.out _) hb6)
        clear hb6
        first
          | (go_wp2_with (at_builtin; refine wpApp rfl (.tmp 25) (.tmp 30) elemStr rfl (base := w.heap.size + 1) (v := .slice Aw k cw) (n := k) (xs := strV ((K.take k).map knotT)) rfl (ho6.out.alloc _) rfl (src_at (cs := [.string (bS [126] ++ bS (ptT x1 x2))]) rfl (by simp [Value.oneCell']) rfl) (by omega) (by omega) (by simp; omega) (k + 1) rfl ?_; intro A' c' w7 ho7 hb8)
             go_roundw
             case rel => exact ⟨k + 1, A', c', by go_num, by omega, rfl, by rw [← hnext.out ([126] ++ ptT x1 x2) (by simp [knotT]), ← bS_app]; exact ho7, by have := hb8.size; simp at this; omega, (hb7.alloc hb7.size _).trans (hb8.mono (by omega))⟩
             case measure => simp [intOf]; omega)
          | (go_wp2_with (at_builtin; refine wpApp rfl (.tmp 19) (.tmp 23) elemStr rfl (base := w.heap.size + 1) (v := .slice Aw k cw) (n := k) (xs := strV ((K.take k).map knotT)) rfl (ho6.out.alloc _) rfl (src_at (cs := [.string (bS (ptT x1 x2))]) rfl (by simp [Value.oneCell']) rfl) (by omega) (by omega) (by simp; omega) (k + 1) rfl ?_; intro A' c' w7 ho7 hb8)
             go_roundw
             case rel => exact ⟨k + 1, A', c', by go_num, by omega, rfl, by rw [← hnext.out (ptT x1 x2) (by simp [knotT])]; exact ho7, by have := hb8.size; simp at this; omega, (hb7.alloc hb7.size _).trans (hb8.mono (by omega))⟩
             case measure => simp [intOf]; omega)
    · have hkn' : k = n := by omega
      have hh := hown.out
      rw [hkn', List.take_of_length_le (by omega)] at hh
      obtain ⟨g, hg, _, hgl, hnc, hcell, _⟩ := own_at hh (by omega)
      subst hg
      have hxl : (K.map fun k => bS (knotT k)).length = n := by rw [List.length_map]; exact hln
      have hj := Tryz.strings_Join g 0 cw (K.map fun k => bS (knotT k)) ⟨#[32]⟩ wr (fun j x hj => by
        rw [Nat.zero_add]
        have h1 := hcell j (by have := (List.getElem?_eq_some_iff.1 hj).1; omega)
        rw [h1]
        rw [List.getElem?_map] at hj
        unfold strV
        rw [List.getElem?_map, List.getElem?_map]
        cases hk : K[j]? with
        | none => rw [hk] at hj; cases hj
        | some y => rw [hk] at hj; simp at hj; subst hj; rfl) hgl (by omega) (by omega) (by rw [show (⟨#[32]⟩ : ByteArray).data.toList = [32] from rfl, join_words]; omega)
      rw [hxl, show (⟨#[32]⟩ : ByteArray).data.toList = [32] from rfl, join_words] at hj
      replace hj := Lib.hid hj
      have hkn2 := Lib.hid hkn'
      subst hkn'
      clear hh hcell hnc
      go_wp2_with fail
      refine hj.out.mono ?_
      rintro e w9 ⟨rfl, hb9⟩
      have hb10 := hbel.trans (hb9.mono hbel.size)
      go_wp2_with fail
      go_ret
      exact ⟨rfl, hb10⟩
end Go.Proofs.YtgdkabljgabjoaaGreatDoor

/- The text of a glyph: plain facts. Conditions: as each states. -/
namespace Go.Proofs.YtgdkabljgabjoaaGreatDoor
set_option linter.unusedVariables false
set_option maxRecDepth 100000

structure GlT (g : Gl) : Prop where
  nm : g.name.size ≤ 12
  code : -1 ≤ g.code ∧ g.code ≤ 65535
  adv : 0 ≤ g.adv ∧ g.adv ≤ 262144
  out : outOk g.out = true
  pl : g.parts.length ≤ 6
  al : g.anchors.length ≤ 6
  hl : g.hints.size ≤ 400
  ps : ∀ p ∈ g.parts, (0 ≤ p.1 ∧ p.1 ≤ 39) ∧ ptOk p.2.1 p.2.2 = true
  ans : ∀ a ∈ g.anchors, a.1.size ≤ 12 ∧ ptOk a.2.1 a.2.2 = true
theorem nameB_le {s : ByteArray} (h : nameB s = true) : s.size ≤ 12 := by
  unfold nameB at h
  simp only [Bool.and_eq_true, decide_eq_true_eq] at h
  exact h.1.1.2
theorem glyphOk_is {g : Gl} (h : glyphOk g = true) : GlT g := by
  unfold glyphOk at h
  simp only [Bool.and_eq_true, decide_eq_true_eq] at h
  obtain ⟨⟨⟨⟨⟨⟨⟨⟨⟨h0, h1⟩, h2⟩, h3⟩, h4⟩, h5⟩, h6⟩, h7⟩, h8⟩, _⟩ := h
  refine ⟨nameB_le h0, inB_iff.1 h1, inB_iff.1 h2, h3, h4, h5, h6, fun p hp => ?_, fun a ha => ?_⟩
  · have := List.all_eq_true.1 h7 p hp
    unfold partOk at this
    rw [Bool.and_eq_true] at this
    exact ⟨inB_iff.1 this.1, this.2⟩
  · obtain ⟨j, hj⟩ := List.getElem?_of_mem ha
    have := range_at h8 (List.getElem?_eq_some_iff.1 hj).1
    rw [anchAt_eq hj, Bool.and_eq_true, Bool.and_eq_true] at this
    exact ⟨nameB_le this.1.1, this.1.2⟩
theorem dec_20 {n : Int} (h1 : -1000000 ≤ n) (h2 : n ≤ 1000000) : (decL n).length ≤ 20 := decL_len (by omega) (by omega)
theorem data_len (s : ByteArray) : s.data.toList.length = s.size := by simp
theorem headT_len {g : Gl} (h : GlT g) : (headT g.name.data.toList g.code g.adv).length ≤ 61 := by
  have a := dec_20 (n := g.code) (by have := h.code; omega) (by have := h.code; omega)
  have b := dec_20 (n := g.adv) (by have := h.adv; omega) (by have := h.adv; omega)
  have c := h.nm
  unfold headT
  simp only [List.length_append, List.length_cons, List.length_nil, data_len]
  omega
theorem partL_len {p : Part} (h : (0 ≤ p.1 ∧ p.1 ≤ 39) ∧ ptOk p.2.1 p.2.2 = true) : (partL p).length ≤ 68 := by
  have a := dec_20 (n := p.1) (by omega) (by omega)
  have b := ptT_len h.2
  unfold partL
  simp only [List.length_append, List.length_cons, List.length_nil]
  omega
theorem anchL_len {a : Anch} (h : a.1.size ≤ 12 ∧ ptOk a.2.1 a.2.2 = true) : (anchL a).length ≤ 62 := by
  have b := ptT_len h.2
  unfold anchL
  simp only [List.length_append, List.length_cons, List.length_nil, data_len]
  omega
theorem hintL_len {s : ByteArray} (h : s.size ≤ 400) : (hintL s.data.toList).length ≤ 807 := by
  have b := hexT_len s.data.toList
  rw [data_len] at b
  unfold hintL
  split
  · simp
  · simp only [List.length_append, List.length_cons, List.length_nil]
    omega
theorem loopL_len {K : List Knot} (h : loopOk K = true) : (loopL K).length ≤ 2586 := by
  have := loopT_max h
  unfold loopL
  simp only [List.length_append, List.length_cons, List.length_nil]
  omega
theorem flat_max {α : Type} {f : α → List UInt8} {B N : Nat} {L : List α} (h : ∀ a ∈ L, (f a).length ≤ B) (hn : L.length ≤ N) : (L.flatMap f).length ≤ B * N := Nat.le_trans (flat_len f B L h) (Nat.mul_le_mul_left B hn)
theorem flat_take_max {α : Type} {f : α → List UInt8} {B N : Nat} {L : List α} (h : ∀ a ∈ L, (f a).length ≤ B) (hn : L.length ≤ N) (k : Nat) : ((L.take k).flatMap f).length ≤ B * N :=
  flat_max (fun a ha => h a (mem_take ha)) (by rw [List.length_take]; omega)
theorem loops_max {g : Gl} (h : GlT g) (k : Nat) : ((g.out.take k).flatMap loopL).length ≤ 31032 := by
  obtain ⟨h1, h2⟩ := outOk_is h.out
  exact flat_take_max (fun K hK => loopL_len (h2 K hK)) h1 k
theorem parts_max {g : Gl} (h : GlT g) (k : Nat) : ((g.parts.take k).flatMap partL).length ≤ 408 := flat_take_max (fun p hp => partL_len (h.ps p hp)) h.pl k
theorem anchs_max {g : Gl} (h : GlT g) (k : Nat) : ((g.anchors.take k).flatMap anchL).length ≤ 372 := flat_take_max (fun a ha => anchL_len (h.ans a ha)) h.al k
theorem glyphT_max {g : Gl} (h : GlT g) : (glyphT g).length ≤ 33000 := by
  have a := headT_len h
  have b := loops_max h g.out.length
  have c := parts_max h g.parts.length
  have d := anchs_max h g.anchors.length
  have e := hintL_len h.hl
  rw [List.take_length] at b c d
  unfold glyphT
  simp only [List.length_append, List.length_cons, List.length_nil]
  omega
theorem head_text (nm : ByteArray) (c a : Int) : ((((((⟨#[103, 108, 121, 112, 104, 32]⟩ : ByteArray) ++ nm) ++ ⟨#[32]⟩) ++ decS c) ++ ⟨#[32]⟩) ++ decS a) ++ ⟨#[10]⟩ = bS (headT nm.data.toList c a) := by
  conv => lhs; rw [bS_of nm]
  show ((((((bS [103, 108, 121, 112, 104, 32]) ++ _) ++ bS [32]) ++ bS (decL c)) ++ bS [32]) ++ bS (decL a)) ++ bS [10] = _
  simp only [bS_app]
  rfl
theorem loop_text (K : List Knot) : ((⟨#[108, 111, 111, 112, 32]⟩ : ByteArray) ++ bS (loopT K)) ++ ⟨#[10]⟩ = bS (loopL K) := by
  show ((bS [108, 111, 111, 112, 32]) ++ _) ++ bS [10] = _
  simp only [bS_app]
  rfl
theorem part_text (p : Part) : ((((⟨#[112, 97, 114, 116, 32]⟩ : ByteArray) ++ decS p.1) ++ ⟨#[32]⟩) ++ bS (ptT p.2.1 p.2.2)) ++ ⟨#[10]⟩ = bS (partL p) := by
  show ((((bS [112, 97, 114, 116, 32]) ++ bS (decL p.1)) ++ bS [32]) ++ _) ++ bS [10] = _
  simp only [bS_app]
  rfl
theorem anch_text (a : Anch) : ((((⟨#[97, 110, 99, 104, 111, 114, 32]⟩ : ByteArray) ++ a.1) ++ ⟨#[32]⟩) ++ bS (ptT a.2.1 a.2.2)) ++ ⟨#[10]⟩ = bS (anchL a) := by
  conv => lhs; rw [bS_of a.1]
  show ((((bS [97, 110, 99, 104, 111, 114, 32]) ++ _) ++ bS [32]) ++ _) ++ bS [10] = _
  simp only [bS_app]
  rfl
theorem hint_text {s : ByteArray} (h : s ≠ ⟨#[]⟩) : ((⟨#[104, 105, 110, 116, 115, 32]⟩ : ByteArray) ++ bS (hexT s.data.toList)) ++ ⟨#[10]⟩ = bS (hintL s.data.toList) := by
  show ((bS [104, 105, 110, 116, 115, 32]) ++ _) ++ bS [10] = _
  simp only [bS_app]
  unfold hintL
  rw [if_neg (fun e => h (by rw [bS_of s, e]; rfl))]
theorem hint_none : hintL (⟨#[]⟩ : ByteArray).data.toList = [] := rfl
end Go.Proofs.YtgdkabljgabjoaaGreatDoor

