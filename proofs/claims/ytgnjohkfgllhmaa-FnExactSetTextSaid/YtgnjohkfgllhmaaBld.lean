/- A strings.Builder of the call's own: what each write does to it. Conditions: as each states. -/
import Derived.Test.YtgnjohkfgllhmaaMem
import Derived.Test.YtgnjohkfgllhmaaDec
import Derived.Test.YtgnjohkfgllhmaaDat
import Derived.Test.YtgnjohkfgllhmaaShelf
import Derived.Lib.Builder
import Derived.Lib.AppendStr
import Derived.Laws.Externs
namespace Go.Proofs.Ytgnjohkfgllhmaa
open Go.RowKit
set_option linter.unusedVariables false
set_option maxRecDepth 100000

theorem blen0 (s : ByteArray) : s.data.toList.length = s.size := by simp
/-- the builder at block b holds the bytes ds -/
def Bld (w : World) (B b : Nat) (ds : List UInt8) : Prop := Lib.IsBuilder 99 5 B b (byteV ds) w
theorem Bld.lt {w : World} {B b : Nat} {ds : List UInt8} (h : Bld w B b ds) : B ≤ b ∧ b < w.heap.size := by
  rcases h with h | h
  · exact ⟨h.1, h.lt⟩
  · exact ⟨h.1, h.lt⟩
theorem bld_new (w : World) : Bld (w.alloc (.cells #[.pointer none, .slice none 0 0] 99 (0, 0))) w.heap.size w.heap.size [] := Lib.fresh_isBuilder _ _ w
theorem Bld.kept {w w' : World} {B b : Nat} {ds : List UInt8} (h : Bld w B b ds) (hb : Below w.heap.size w w') : Bld w' B b ds := by
  have go : ∀ p, Lib.BuilderAt 99 5 B b p (byteV ds) w → Lib.BuilderAt 99 5 B b p (byteV ds) w' := by
    rintro p ⟨hB, v, hh, hown, hne⟩
    have hlt : b < w.heap.size := Lib.BuilderAt.lt ⟨hB, v, hh, hown, hne⟩
    exact ⟨hB, v, (hb.block b hlt).trans hh, own_below hown hb, hne⟩
  rcases h with h | h
  · exact .inl (go _ h)
  · exact .inr (go _ h)

/-- the builder's blocks lie below m -/
def BldLt (w : World) (b m : Nat) : Prop := b < m ∧ ∀ p v, w.heap[b]? = some (.cells #[p, v] 99 (0, 0)) → ∀ g, v.ownBlock = some g → g < m
theorem Bld.within {w : World} {B b : Nat} {ds : List UInt8} (h : Bld w B b ds) : BldLt w b w.heap.size := by
  have go : ∀ p, Lib.BuilderAt 99 5 B b p (byteV ds) w → BldLt w b w.heap.size := by
    rintro p ⟨hB, v, hh, hown, hne⟩
    refine ⟨Lib.BuilderAt.lt ⟨hB, v, hh, hown, hne⟩, fun p' v' h' g hg => ?_⟩
    rw [hh] at h'
    simp at h'
    rw [← h'.2] at hg
    exact (hown.lt g hg).2
  rcases h with h | h
  · exact go _ h
  · exact go _ h
theorem BldLt.kept {w w' : World} {b m : Nat} (h : BldLt w b m) (hb : Below m w w') : BldLt w' b m := by
  obtain ⟨h1, h2⟩ := h
  exact ⟨h1, fun p v hv => h2 p v (by rw [← hb.block b h1]; exact hv)⟩
set_option maxHeartbeats 1000000 in
theorem copyCheck_any (B b : Nat) (ds : List UInt8) (w : World) (h : Bld w B b ds) :
    Calls Try.prog 98 #[.pointer (some ⟨b, 0, none⟩)] w fun e w' => e = .returned (.tuple #[]) ∧ Lib.BuilderAt 99 5 B b (.pointer (some ⟨b, 0, none⟩)) (byteV ds) w' ∧ Below B w w' ∧ w'.heap.size = w.heap.size ∧ ∀ m, BldLt w b m → BldLt w' b m ∧ SameB m w.heap.size w w' := by
  rcases h with h | h
  · have h0 := h.cell0
    have hsh := h.shape
    have hfz := h.frozen0
    have hinfo : ∃ j, Try.prog.info? 99 = some j ∧ j.size = 2 := Option.map_eq_some_iff.1 (show (Try.prog.info? 99).map (·.size) = some 2 by kernel_rfl)
    obtain ⟨j, hj, hjs⟩ := hinfo
    have hlies : liesAt Try.prog Try.prog.depth 99 (2 / Try.prog.cellsOf 99) 0 99 1 = true := by kernel_rfl
    have hp := h
    replace h := Lib.hid h
    replace hp := Lib.hid hp
    have k1 := Lib.hid (Lib.run_to_unsafe (P := Try.prog) (w := w) ⟨b, 0, none⟩ Try.underlying97 Try.underlying195 hj (by rw [hjs]; decide) hsh (Nat.zero_lt_succ 1))
    have k2 := Lib.hid (Lib.run_from_unsafe (P := Try.prog) (w := w) ⟨b, 0, none⟩ Try.underlying195 Try.underlying97 hj hsh hlies)
    clear hsh hj hjs hlies
    go_enter Try.func98, Try.ntmps98
    go_wp2
    rw [k1.out]
    simp only [Result.andThen]
    rw [Oper.upon_value]
    go_wp2
    rw [run_callFunc_extern Try.func128 (by kernel_rfl) (by kernel_rfl) (by kernel_rfl) (e := Extern.AbiNoEscape.same) (by kernel_rfl)]
    rw [Lib.run_noEscape]
    simp only [Result.andThen]
    rw [Oper.upon_value]
    go_wp2
    rw [k2.out]
    simp only [Result.andThen]
    rw [Oper.upon_value]
    go_wp2
    go_end0
    refine ⟨rfl, h.out.used _, (Below.refl B w).setCell (p := ⟨b, 0, none⟩) h.out.1 _, by simp, fun m hm => ⟨⟨hm.1, fun p v hv g hg => ?_⟩, (SameB.refl _ _ w).setCell (.inl hm.1) _⟩⟩
    obtain ⟨_, v0, hb0, _, _⟩ := h.out
    have h2 := Go.Joins.block_setCell hb0 (i := 0) (.pointer (some ⟨b, 0, none⟩))
    rw [h2] at hv
    simp at hv
    exact hm.2 _ v0 hb0 g (by rw [hv.2]; exact hg)
  · have h0 := h.cell0
    obtain ⟨j, hj, _⟩ := Option.map_eq_some_iff.1 (show (Try.prog.info? 99).map (·.size) = some 2 by kernel_rfl)
    replace h := Lib.hid h
    have k1 := Lib.hid (Lib.run_neq_ptr_same (P := Try.prog) w ⟨b, 0, none⟩ Try.underlying97 hj)
    clear hj
    go_enter Try.func98, Try.ntmps98
    go_wp2
    rw [k1.out]
    go_wp2
    go_end0
    exact ⟨rfl, h.out, Below.refl B w, rfl, fun m hm => ⟨hm, SameB.refl _ _ w⟩⟩

set_option maxHeartbeats 1000000 in
theorem writeString_any (B b : Nat) (ds : List UInt8) (s : ByteArray) (w : World) (h : Bld w B b ds) (hl : ds.length + s.size ≤ 100000000) (hBw : B ≤ w.heap.size) :
    Calls Try.prog 49 #[.pointer (some ⟨b, 0, none⟩), .string s] w fun e w' => e = .returned (.tuple #[.int .i64 s.size, .nilIface]) ∧ Bld w' B b (ds ++ s.data.toList) ∧ Below B w w' ∧ ∀ m, BldLt w b m → SameB m w.heap.size w w' := by
  have hT : (99 : TypeId) ≠ 5 := by decide
  have hbl := h.lt
  have hc := Lib.hid (copyCheck_any B b ds w h)
  clear h
  obtain ⟨i0, hi, hz0, hz1, hz2⟩ := info_parts (show (Try.prog.info? 5).map (fun i => (i.zero, i.size, i.bytes)) = some (some (.int .u8 0), 1, 1) by kernel_rfl)
  go_enter Try.func49, Try.ntmps49
  go_wp2_with fail
  refine hc.out.mono ?_
  rintro e w1 ⟨rfl, h1, hb1, hz1', hfr⟩
  have hz3 := Lib.hid hz1'
  replace hfr := Lib.hid hfr
  obtain ⟨hB, v, hbk, hown, hne⟩ := h1
  obtain ⟨A, cap0, rfl⟩ := own_form hown
  have c0 : w1.cell? ⟨b, 0, none⟩ = some (.pointer (some ⟨b, 0, none⟩)) := by rw [Lib.cell_of_heap hbk]; rfl
  have c1 : w1.cell? ⟨b, 1, none⟩ = some (.slice A (byteV ds).length cap0) := by rw [Lib.cell_of_heap hbk]; rfl
  have hlt : b < w1.heap.size := by omega
  rw [byteV_length] at c1 hown hbk hne
  replace hbk := Lib.hid hbk
  replace hown := Lib.hid hown
  have hBw1 : B ≤ w1.heap.size := by omega
  replace hne := Lib.hid hne
  clear hz1'
  go_wp2_with (at_builtin; refine Lib.wpList_append_own_string _ rfl (.tmp 12) (.tmp 13) 22 9 rfl B 5 i0 Try.underlying22 Try.underlying9 hi hz0 hz1 hz2 _ _ _ rfl hown.out s rfl (by unfold maxLen; omega) (by omega) hBw1 ?_; intro v' w2 hown2 hg2 _; have hb2 : w2.heap[b]? = some (.cells #[.pointer (some ⟨b, 0, none⟩), .slice A ds.length cap0] 99 (0, 0)) := by { rw [hg2.block b hlt (fun e => hne.out e.symm)]; exact hbk.out }; have d1 : w2.cell? ⟨b, 1, none⟩ = some (.slice A ds.length cap0) := by { rw [Lib.cell_of_heap hb2]; rfl }; have f1 : w2.frozen? ⟨b, 1, none⟩ = false := Lib.frozen_of_heap hb2 1; obtain ⟨ao, cap, rfl⟩ := own_form hown2; replace hb2 := Lib.hid hb2; clear c0 c1)
  have hB2 : Below B w1 w2 := (Below.refl B w1).grown hg2 hBw1 (fun k hk => (hown.out.lt k hk).1)
  have hgr := Lib.hid (show w1.grownBy w2 (Value.slice A ds.length cap0).ownBlock from hg2)
  clear hg2
  go_ret2
  refine ⟨rfl, .inr ?_, (hb1.trans hB2).setCell (p := ⟨b, 1, none⟩) hB _, fun m hm => ?_⟩
  rotate_left
  · obtain ⟨hm1, hs1⟩ := hfr.out m hm
    have hs2 : SameB m w.heap.size w1 w2 := by
      cases ho : (Value.slice A ds.length cap0).ownBlock with
      | none => exact fun k _ k2 => hgr.out.block k (by have := hz3.out; omega) (by rw [ho]; simp)
      | some g =>
        have hg := hm1.2 _ _ hbk.out g ho
        exact fun k k1 k2 => hgr.out.block k (by have := hz3.out; omega) (by rw [ho]; intro e; injection e with e; omega)
    exact (hs1.trans hs2).setCell (.inl hm.1) _
  exact Lib.BuilderAt.put (T := 99) (e := 5) hB hb2.out (bs' := byteV (ds ++ s.data.toList)) (by rw [byteV_length, byteV_append, List.length_append, blen0]; exact hown2) hT
end Go.Proofs.Ytgnjohkfgllhmaa
