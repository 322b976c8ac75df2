/- A strings.Builder of the call's own: what each write does to it. Conditions: as each states. -/
import Derived.Lib.Builder
import Derived.Lib.AppendStr
import Derived.Laws.Externs
import Derived.Test.YtpmpbfkpiocleaaDoorAs01
import Derived.Test.YtpmpbfkpiocleaaDoorAs27
import Derived.Test.YtpmpbfkpiocleaaDoorAs02
import Derived.Test.YtpmpbfkpiocleaaDoorShelf
import Derived.Test.YtpmpbfkpiocleaaDoorAs26
namespace Go.Proofs.YtpmpbfkpiocleaaDoor
open Go.RowKit
set_option linter.unusedVariables false
set_option maxRecDepth 100000

theorem blen0 (s : ByteArray) : s.data.toList.length = s.size := by simp
/-- the builder at block b holds the bytes ds -/
def Bld (w : World) (B b : Nat) (ds : List UInt8) : Prop := Lib.IsBuilder 46 5 B b (byteV ds) w
theorem Bld.lt {w : World} {B b : Nat} {ds : List UInt8} (h : Bld w B b ds) : B ≤ b ∧ b < w.heap.size := by
  rcases h with h | h
  · exact ⟨h.1, h.lt⟩
  · exact ⟨h.1, h.lt⟩
theorem bld_new (w : World) : Bld (w.alloc (.cells #[.pointer none, .slice none 0 0] 46 (0, 0))) w.heap.size w.heap.size [] := Lib.fresh_isBuilder _ _ w
theorem Bld.kept {w w' : World} {B b : Nat} {ds : List UInt8} (h : Bld w B b ds) (hb : Below w.heap.size w w') : Bld w' B b ds := by
  have go : ∀ p, Lib.BuilderAt 46 5 B b p (byteV ds) w → Lib.BuilderAt 46 5 B b p (byteV ds) w' := by
    rintro p ⟨hB, v, hh, hown, hne⟩
    have hlt : b < w.heap.size := Lib.BuilderAt.lt ⟨hB, v, hh, hown, hne⟩
    exact ⟨hB, v, (hb.block b hlt).trans hh, own_below hown hb, hne⟩
  rcases h with h | h
  · exact .inl (go _ h)
  · exact .inr (go _ h)

/-- the builder's blocks lie below m -/
def BldLt (w : World) (b m : Nat) : Prop := b < m ∧ ∀ p v, w.heap[b]? = some (.cells #[p, v] 46 (0, 0)) → ∀ g, v.ownBlock = some g → g < m
theorem Bld.within {w : World} {B b : Nat} {ds : List UInt8} (h : Bld w B b ds) : BldLt w b w.heap.size := by
  have go : ∀ p, Lib.BuilderAt 46 5 B b p (byteV ds) w → BldLt w b w.heap.size := by
    rintro p ⟨hB, v, hh, hown, hne⟩
    refine ⟨Lib.BuilderAt.lt ⟨hB, v, hh, hown, hne⟩, fun p' v' h' g hg => ?_⟩
    rw [hh] at h'
    simp at h'
    rw [← h'.2] at hg
    exact (hown.lt g hg).2
  rcases h with h | h
  · exact go _ h
  · exact go _ h
theorem BldLt.kept {w w' : World} {b m : Nat} (h : BldLt w b m) (hb : Below m w w') : BldLt w' b m := by
  obtain ⟨h1, h2⟩ := h
  exact ⟨h1, fun p v hv => h2 p v (by rw [← hb.block b h1]; exact hv)⟩
set_option maxHeartbeats 1000000 in
theorem copyCheck_any (B b : Nat) (ds : List UInt8) (w : World) (h : Bld w B b ds) :
    Calls Tryd.prog 32 #[.pointer (some ⟨b, 0, none⟩)] w fun e w' => e = .returned (.tuple #[]) ∧ Lib.BuilderAt 46 5 B b (.pointer (some ⟨b, 0, none⟩)) (byteV ds) w' ∧ Below B w w' ∧ w'.heap.size = w.heap.size ∧ ∀ m, BldLt w b m → BldLt w' b m ∧ SameB m w.heap.size w w' := by
  rcases h with h | h
  · have h0 := h.cell0
    have hsh := h.shape
    have hfz := h.frozen0
    have hinfo : ∃ j, Tryd.prog.info? 46 = some j ∧ j.size = 2 := Option.map_eq_some_iff.1 (show (Tryd.prog.info? 46).map (·.size) = some 2 by kernel_rfl)
    obtain ⟨j, hj, hjs⟩ := hinfo
    have hlies : liesAt Tryd.prog Tryd.prog.depth 46 (2 / Tryd.prog.cellsOf 46) 0 46 1 = true := by kernel_rfl
    have hp := h
    replace h := Lib.hid h
    replace hp := Lib.hid hp
    have k1 := Lib.hid (Lib.run_to_unsafe (P := Tryd.prog) (w := w) ⟨b, 0, none⟩ Tryd.underlying44 Tryd.underlying86 hj (by rw [hjs]; decide) hsh (Nat.zero_lt_succ 1))
    have k2 := Lib.hid (Lib.run_from_unsafe (P := Tryd.prog) (w := w) ⟨b, 0, none⟩ Tryd.underlying86 Tryd.underlying44 hj hsh hlies)
    clear hsh hj hjs hlies
    go_enter Tryd.func32, Tryd.ntmps32
    go_wp2
    rw [k1.out]
    simp only [Result.andThen]
    rw [Oper.upon_value]
    go_wp2
    rw [run_callFunc_extern Tryd.func40 (by kernel_rfl) (by kernel_rfl) (by kernel_rfl) (e := Extern.AbiNoEscape.same) (by kernel_rfl)]
    rw [Lib.run_noEscape]
    simp only [Result.andThen]
    rw [Oper.upon_value]
    go_wp2
    rw [k2.out]
    simp only [Result.andThen]
    rw [Oper.upon_value]
    go_wp2
    go_end0
    refine ⟨rfl, h.out.used _, (Below.refl B w).setCell (p := ⟨b, 0, none⟩) h.out.1 _, by simp, fun m hm => ⟨⟨hm.1, fun p v hv g hg => ?_⟩, (SameB.refl _ _ w).setCell (.inl hm.1) _⟩⟩
    obtain ⟨_, v0, hb0, _, _⟩ := h.out
    have h2 := Go.Joins.block_setCell hb0 (i := 0) (.pointer (some ⟨b, 0, none⟩))
    rw [h2] at hv
    simp at hv
    exact hm.2 _ v0 hb0 g (by rw [hv.2]; exact hg)
  · have h0 := h.cell0
    obtain ⟨j, hj, _⟩ := Option.map_eq_some_iff.1 (show (Tryd.prog.info? 46).map (·.size) = some 2 by kernel_rfl)
    replace h := Lib.hid h
    have k1 := Lib.hid (Lib.run_neq_ptr_same (P := Tryd.prog) w ⟨b, 0, none⟩ Tryd.underlying44 hj)
    clear hj
    go_enter Tryd.func32, Tryd.ntmps32
    go_wp2
    rw [k1.out]
    go_wp2
    go_end0
    exact ⟨rfl, h.out, Below.refl B w, rfl, fun m hm => ⟨hm, SameB.refl _ _ w⟩⟩

set_option maxHeartbeats 1000000 in
theorem writeByte_any (B b : Nat) (ds : List UInt8) (c : UInt8) (w : World) (h : Bld w B b ds) (hl : ds.length ≤ 100000000) (hBw : B ≤ w.heap.size) :
    Calls Tryd.prog 17 #[.pointer (some ⟨b, 0, none⟩), .int .u8 c.toNat] w fun e w' => e = .returned .nilIface ∧ Bld w' B b (ds ++ [c]) ∧ Below B w w' ∧ ∀ m, BldLt w b m → SameB m w.heap.size w w' := by
  have hT : (46 : TypeId) ≠ 5 := by decide
  have hbl := h.lt
  have hc := Lib.hid (copyCheck_any B b ds w h)
  clear h
  go_enter Tryd.func17, Tryd.ntmps17
  go_wp2_with fail
  refine hc.out.mono ?_
  rintro e w1 ⟨rfl, h1, hb1, hz1, hfr⟩
  have hz3 := Lib.hid hz1
  replace hfr := Lib.hid hfr
  obtain ⟨hB, v, hbk, hown, hne⟩ := h1
  obtain ⟨A, cap, rfl⟩ := own_form hown
  have c0 : w1.cell? ⟨b, 0, none⟩ = some (.pointer (some ⟨b, 0, none⟩)) := by rw [Lib.cell_of_heap hbk]; rfl
  have c1 : w1.cell? ⟨b, 1, none⟩ = some (.slice A (byteV ds).length cap) := by rw [Lib.cell_of_heap hbk]; rfl
  have hlt : b < w1.heap.size := by omega
  rw [byteV_length] at c1 hown hbk
  replace hbk := Lib.hid hbk
  replace hown := Lib.hid hown
  have hBw1 : B ≤ w1.heap.size := by omega
  have hne' := Lib.hid (show (Value.slice A ds.length cap).ownBlock ≠ some b from by rw [byteV_length] at hne; exact hne)
  clear hne hz1
  go_wp2_with (at_builtin; refine wpAppAt rfl (.tmp 11) (.tmp 13) elemU8 rfl (v := .slice A ds.length cap) (n := ds.length) (xs := byteV ds) rfl (hown.out.alloc _) rfl (src_at (cs := [.int .u8 c.toNat]) rfl (by simp [Value.oneCell']) rfl) (by omega) (by omega) (by simp; omega) (ds.length + 1) rfl ?_; intro A' c' w2 hown2 hg2 _; have hb2 : w2.heap[b]? = some (.cells #[.pointer (some ⟨b, 0, none⟩), .slice A ds.length cap] 46 (0, 0)) := by { rw [hg2.block b (by simp; omega) (fun e => hne'.out e.symm), Below.heap_alloc _ _ _ hlt]; exact hbk.out }; have d1 : w2.cell? ⟨b, 1, none⟩ = some (.slice A ds.length cap) := by { rw [Lib.cell_of_heap hb2]; rfl }; have f1 : w2.frozen? ⟨b, 1, none⟩ = false := Lib.frozen_of_heap hb2 1; replace hb2 := Lib.hid hb2; clear c0 c1)
  have hB2 : Below B w1 w2 := ((Below.refl B w1).alloc hBw1 _).grown hg2 (by simp; omega) (fun k hk => (hown.out.lt k hk).1)
  have hgr := Lib.hid hg2
  clear hg2
  go_ret
  refine ⟨rfl, .inr ?_, (hb1.trans hB2).setCell (p := ⟨b, 1, none⟩) hB _, fun m hm => ?_⟩
  rotate_left
  · obtain ⟨hm1, hs1⟩ := hfr.out m hm
    have hs2 : SameB m w.heap.size w1 w2 := by
      cases ho : (Value.slice A ds.length cap).ownBlock with
      | none => exact ((SameB.refl _ _ w1).alloc (by rw [hz3.out]; exact Nat.le_refl _) _).trans (fun k _ k2 => hgr.out.block k (by simp; have := hz3.out; omega) (by rw [ho]; simp))
      | some g =>
        have hg := hm1.2 _ _ hbk.out g ho
        exact ((SameB.refl _ _ w1).alloc (by rw [hz3.out]; exact Nat.le_refl _) _).trans (fun k k1 k2 => hgr.out.block k (by simp; have := hz3.out; omega) (by rw [ho]; intro e; injection e with e; omega))
    exact (hs1.trans hs2).setCell (.inl hm.1) _
  have := Lib.BuilderAt.put (T := 46) (e := 5) hB hb2.out (bs' := byteV (ds ++ [c])) (v' := .slice A' (ds.length + 1) c') (by rw [byteV_length, byteV_append, List.length_append]; exact hown2) hT
  exact this

set_option maxHeartbeats 1000000 in
theorem writeString_any (B b : Nat) (ds : List UInt8) (s : ByteArray) (w : World) (h : Bld w B b ds) (hl : ds.length + s.size ≤ 100000000) (hBw : B ≤ w.heap.size) :
    Calls Tryd.prog 19 #[.pointer (some ⟨b, 0, none⟩), .string s] w fun e w' => e = .returned (.tuple #[.int .i64 s.size, .nilIface]) ∧ Bld w' B b (ds ++ s.data.toList) ∧ Below B w w' ∧ ∀ m, BldLt w b m → SameB m w.heap.size w w' := by
  have hT : (46 : TypeId) ≠ 5 := by decide
  have hbl := h.lt
  have hc := Lib.hid (copyCheck_any B b ds w h)
  clear h
  obtain ⟨i0, hi, hz0, hz1, hz2⟩ := info_parts (show (Tryd.prog.info? 5).map (fun i => (i.zero, i.size, i.bytes)) = some (some (.int .u8 0), 1, 1) by kernel_rfl)
  go_enter Tryd.func19, Tryd.ntmps19
  go_wp2_with fail
  refine hc.out.mono ?_
  rintro e w1 ⟨rfl, h1, hb1, hz1', hfr⟩
  have hz3 := Lib.hid hz1'
  replace hfr := Lib.hid hfr
  obtain ⟨hB, v, hbk, hown, hne⟩ := h1
  obtain ⟨A, cap0, rfl⟩ := own_form hown
  have c0 : w1.cell? ⟨b, 0, none⟩ = some (.pointer (some ⟨b, 0, none⟩)) := by rw [Lib.cell_of_heap hbk]; rfl
  have c1 : w1.cell? ⟨b, 1, none⟩ = some (.slice A (byteV ds).length cap0) := by rw [Lib.cell_of_heap hbk]; rfl
  have hlt : b < w1.heap.size := by omega
  rw [byteV_length] at c1 hown hbk hne
  replace hbk := Lib.hid hbk
  replace hown := Lib.hid hown
  have hBw1 : B ≤ w1.heap.size := by omega
  replace hne := Lib.hid hne
  clear hz1'
  go_wp2_with (at_builtin; refine Lib.wpList_append_own_string _ rfl (.tmp 12) (.tmp 13) 22 9 rfl B 5 i0 Tryd.underlying22 Tryd.underlying9 hi hz0 hz1 hz2 _ _ _ rfl hown.out s rfl (by unfold maxLen; omega) (by omega) hBw1 ?_; intro v' w2 hown2 hg2 _; have hb2 : w2.heap[b]? = some (.cells #[.pointer (some ⟨b, 0, none⟩), .slice A ds.length cap0] 46 (0, 0)) := by { rw [hg2.block b hlt (fun e => hne.out e.symm)]; exact hbk.out }; have d1 : w2.cell? ⟨b, 1, none⟩ = some (.slice A ds.length cap0) := by { rw [Lib.cell_of_heap hb2]; rfl }; have f1 : w2.frozen? ⟨b, 1, none⟩ = false := Lib.frozen_of_heap hb2 1; obtain ⟨ao, cap, rfl⟩ := own_form hown2; replace hb2 := Lib.hid hb2; clear c0 c1)
  have hB2 : Below B w1 w2 := (Below.refl B w1).grown hg2 hBw1 (fun k hk => (hown.out.lt k hk).1)
  have hgr := Lib.hid (show w1.grownBy w2 (Value.slice A ds.length cap0).ownBlock from hg2)
  clear hg2
  go_ret2
  refine ⟨rfl, .inr ?_, (hb1.trans hB2).setCell (p := ⟨b, 1, none⟩) hB _, fun m hm => ?_⟩
  rotate_left
  · obtain ⟨hm1, hs1⟩ := hfr.out m hm
    have hs2 : SameB m w.heap.size w1 w2 := by
      cases ho : (Value.slice A ds.length cap0).ownBlock with
      | none => exact fun k _ k2 => hgr.out.block k (by have := hz3.out; omega) (by rw [ho]; simp)
      | some g =>
        have hg := hm1.2 _ _ hbk.out g ho
        exact fun k k1 k2 => hgr.out.block k (by have := hz3.out; omega) (by rw [ho]; intro e; injection e with e; omega)
    exact (hs1.trans hs2).setCell (.inl hm.1) _
  exact Lib.BuilderAt.put (T := 46) (e := 5) hB hb2.out (bs' := byteV (ds ++ s.data.toList)) (by rw [byteV_length, byteV_append, List.length_append, blen0]; exact hown2) hT
end Go.Proofs.YtpmpbfkpiocleaaDoor

/- Making a program: whether all instructions are valid, the program's bytes. Conditions: as each states. -/
namespace Go.Proofs.YtpmpbfkpiocleaaDoor
open Go.RowKit
set_option linter.unusedVariables false
set_option maxRecDepth 100000

theorem notValidG_any (c o : Int) (w : World) :
    Calls Tryd.prog 14 #[hintV c o] w fun e w' => e = .returned (.bool (!validHint c o)) ∧ Below w.heap.size w w' := by
  go_enter Tryd.func14, Tryd.ntmps14
  go_wp2_with (go_at_call 15; refine (implValidHint_any _ _ _).mono ?_; rintro e w1 ⟨rfl, hb1⟩)
  go_ret
  exact ⟨rfl, ((Below.refl _ _).alloc (Nat.le_refl _) _).trans (hb1.mono (by simp))⟩

theorem indexFuncG_any (A : Option Addr) (n c : Nat) (L : List (Int × Int)) (w : World) (hr : RdH w A n L) (hn : n ≤ 1000000000) :
    Calls Tryd.prog 31 #[.slice A n c, .func (.func 14) #[] #[]] w fun e w' => ∃ r : Int, e = .returned (.int .i64 r) ∧ decide (0 ≤ r) = !allValid L ∧ Below w.heap.size w w' := by
  go_enter Tryd.func31, Tryd.ntmps31
  go_wp2_with fail
  go_loopw [8] (fun i wr => ∃ k : Nat, i = .int .i64 k ∧ k ≤ n ∧ allValid (L.take k) = true ∧ Below w.heap.size w wr) (fun i wr => n - (intOf i).toNat)
  case atStart => exact ⟨0, rfl, Nat.zero_le _, rfl, Below.refl _ _⟩
  case round =>
    obtain ⟨k, rfl, hk, hall, hbel⟩ := hrel
    replace hall := Lib.hid hall
    by_cases hlt : k < n
    · obtain ⟨hl, hcs⟩ := hr
      obtain ⟨b, off, rfl, hb, hcs⟩ := hcs (by omega)
      obtain ⟨h1, h2⟩ := hcs k hlt
      rw [← hbel.cell (p := ⟨b, off + k * 2, none⟩) hb] at h1
      rw [← hbel.cell (p := ⟨b, off + k * 2 + 1, none⟩) hb] at h2
      have hsp : ∀ p, L.getD k (0, 0) = p → L.take (k + 1) = L.take k ++ [p] := by
        rintro p rfl
        rw [List.take_succ_eq_append_getElem (by omega)]
        simp [hl, hlt]
      have hmem : L.getD k (0, 0) ∈ L := by
        rw [List.getD_eq_getElem?_getD, List.getElem?_eq_getElem (by omega)]; simp
      generalize L.getD k (0, 0) = p at h1 h2 hsp hmem
      replace hsp := Lib.hid (hsp p rfl)
      replace hl := Lib.hid hl
      clear hcs
      by_cases hv : validHint p.1 p.2 = true
      · go_wp2_with (go_at_call 14; refine (notValidG_any _ _ _).mono ?_; rintro e w1 ⟨rfl, hb1⟩)
        go_roundw
        case rel => exact ⟨k + 1, by go_num, by omega, by rw [hsp.out]; unfold allValid; rw [List.all_append]; have := hall.out; unfold allValid at this; rw [this]; simp [hv], hbel.trans (hb1.mono hbel.size)⟩
        case measure => simp [intOf]; omega
      · have hv' : validHint p.1 p.2 = false := by simpa using hv
        clear hv
        go_wp2_with (go_at_call 14; refine (notValidG_any _ _ _).mono ?_; rintro e w1 ⟨rfl, hb1⟩)
        go_ret
        refine ⟨k, rfl, ?_, hbel.trans (hb1.mono hbel.size)⟩
        have : allValid L = false := by unfold allValid; rw [List.all_eq_false]; exact ⟨p, hmem, by simp [hv']⟩
        rw [this]; simp
    · have hl := hr.1
      replace hl := Lib.hid hl
      clear hr
      go_wp2_with fail
      go_ret
      refine ⟨-1, rfl, ?_, hbel⟩
      have := hall.out
      rw [List.take_of_length_le (by rw [hl.out]; omega)] at this
      rw [this]; simp

theorem containsFuncG_any (A : Option Addr) (n c : Nat) (L : List (Int × Int)) (w : World) (hr : RdH w A n L) (hn : n ≤ 1000000000) :
    Calls Tryd.prog 13 #[.slice A n c, .func (.func 14) #[] #[]] w fun e w' => e = .returned (.bool (!allValid L)) ∧ Below w.heap.size w w' := by
  have hi := Lib.hid (indexFuncG_any A n c L w hr hn)
  go_enter Tryd.func13, Tryd.ntmps13
  go_wp2_with fail
  refine hi.out.mono ?_
  rintro e w1 ⟨r, rfl, hd, hb1⟩
  replace hd := Lib.hid hd
  go_wp2_with fail
  go_ret
  exact ⟨ret_bool hd.out, hb1⟩


/-- the low byte -/
def b8 (n : Int) : UInt8 := UInt8.ofNat (n % 256).toNat
theorem b8_nat (n : Int) : ((b8 n).toNat : Int) = n % 256 := by
  unfold b8
  rw [UInt8.toNat_ofNat']
  omega
theorem wrap_u8 (n : Int) : IntKind.u8.wrap n = ((b8 n).toNat : Int) := by
  rw [b8_nat]; simp [IntKind.wrap, IntKind.signed, IntKind.bits]
def opL (c o : Int) : List UInt8 := if opBytes c = 0 then [] else if opBytes c = 1 then [b8 o] else [b8 (o / 256), b8 o]
def hintL (p : Int × Int) : List UInt8 := b8 p.1 :: opL p.1 p.2
def progL (L : List (Int × Int)) : List UInt8 := L.flatMap hintL
theorem progL_snoc (L : List (Int × Int)) (p : Int × Int) : progL (L ++ [p]) = progL L ++ hintL p := by simp [progL]
theorem hintL_len (p : Int × Int) : (hintL p).length ≤ 3 := by unfold hintL opL; split <;> (try split) <;> simp
theorem progL_len (L : List (Int × Int)) : (progL L).length ≤ 3 * L.length := by
  induction L with
  | nil => simp [progL]
  | cons p L ih =>
    have : progL (p :: L) = hintL p ++ progL L := by simp [progL]
    rw [this, List.length_append, List.length_cons]
    have := hintL_len p
    omega
/-- what a program's making comes to -/
def makeR (L : List (Int × Int)) : List UInt8 × Int :=
  if allValid L = false then ([], 1) else if nestB (codesOf L) = false then ([], 6) else if 400 < (progL L).length then ([], 5) else (progL L, 0)
theorem valid_at {L : List (Int × Int)} (h : allValid L = true) {k : Nat} {p : Int × Int} (hk : L[k]? = some p) : validHint p.1 p.2 = true := by
  unfold allValid at h
  rw [List.all_eq_true] at h
  exact h p (List.mem_of_getElem? hk)
end Go.Proofs.YtpmpbfkpiocleaaDoor

