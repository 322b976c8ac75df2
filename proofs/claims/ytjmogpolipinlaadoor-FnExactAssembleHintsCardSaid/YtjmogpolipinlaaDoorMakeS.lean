/- The reference's making of a program. Conditions: as each states. -/
import Derived.Test.YtjmogpolipinlaaDoorMakeP
import Derived.Laws.NewBlocks
import Derived.Lib.SmallJoins
namespace Go.Proofs.YtjmogpolipinlaaDoor
open Go.RowKit
set_option linter.unusedVariables false
set_option maxRecDepth 100000

theorem src_two {w : World} {b : Nat} {u v : Value} {t : TypeId} (h1 : u.oneCell' = true) (h2 : v.oneCell' = true) (hb : b = w.heap.size) : Src (w.alloc (.cells #[u, v] t)) 1 (some ⟨b, 0, none⟩) 2 [u, v] := by
  subst hb
  refine ⟨rfl, fun x hx => ?_, fun _ => ⟨_, rfl, fun j x hj => ?_⟩⟩
  · simp at hx; rcases hx with rfl | rfl <;> assumption
  · have : (⟨w.heap.size, 0, none⟩ : Addr).add j = ⟨w.heap.size, j, none⟩ := by unfold Addr.add; split <;> simp_all
    rw [this, Go.Joins.cell_of_block (heap_alloc_new w _)]
    match j, hj with
    | 0, hj => exact hj
    | 1, hj => exact hj
theorem take_next {L : List (Int × Int)} {k : Nat} {p : Int × Int} (h : L[k]? = some p) : L.take (k + 1) = L.take k ++ [p] := by
  have hl := (List.getElem?_eq_some_iff.1 h).1
  rw [List.take_succ_eq_append_getElem hl]
  rw [List.getElem?_eq_getElem hl] at h
  injection h with h
  rw [h]
theorem rdH_at {w : World} {A : Option Addr} {n : Nat} {L : List (Int × Int)} (h : RdH w A n L) {k : Nat} (hk : k < n) : ∃ b off p, A = some ⟨b, off, none⟩ ∧ b < w.heap.size ∧ L[k]? = some p ∧ w.cell? ⟨b, off + k * 2, none⟩ = some (.int .i64 p.1) ∧ w.cell? ⟨b, off + k * 2 + 1, none⟩ = some (.int .i64 p.2) := by
  obtain ⟨hl, h⟩ := h
  obtain ⟨b, off, rfl, hb, hc⟩ := h (by omega)
  obtain ⟨h1, h2⟩ := hc k hk
  have hg : L[k]? = some (L.getD k (0, 0)) := by
    rw [List.getD_eq_getElem?_getD, List.getElem?_eq_getElem (by omega)]; rfl
  exact ⟨b, off, _, rfl, hb, hg, h1, h2⟩
theorem cell_kept {w w' : World} {row : Option Nat} (hg : w.grownBy w' row) {b : Nat} (hb : b < w.heap.size) (hne : some b ≠ row) (j : Nat) : w'.cell? ⟨b, j, none⟩ = w.cell? ⟨b, j, none⟩ :=
  World.cell?_of_block (w := w) (hg.block b hb hne)

set_option maxHeartbeats 8000000 in
theorem l19Program_any (A : Option Addr) (n c : Nat) (L : List (Int × Int)) (w : World) (hr : RdH w A n L) (hn : n ≤ 10000000) (hv : allValid L = true) :
    Calls Tryd.prog 63 #[.slice A n c] w fun e w' => e = .returned (.string ⟨(progL L).toArray⟩) ∧ Below w.heap.size w w' := by
  have hll := Lib.hid hr.1
  replace hv := Lib.hid hv
  replace hr := Lib.hid hr
  go_enter Tryd.func63, Tryd.ntmps63
  go_wp2_with fail
  go_loopw [3, 4] (fun out i wr => ∃ (k : Nat) (ds : List UInt8) (A2 : Option Addr) (c2 : Nat), i = .int .i64 k ∧ k ≤ n ∧ ds = progL (L.take k) ∧ out = .slice A2 ds.length c2 ∧ wr.ownsRow w.heap.size 5 1 (.slice A2 ds.length c2) ds.length (byteV ds) ∧ Below w.heap.size w wr) (fun out i wr => n - (intOf i).toNat)
  case atStart => exact ⟨0, [], _, _, rfl, Nat.zero_le _, rfl, rfl, World.ownsRow_lit w _ _ (Nat.le_refl _) (by decide) (by simp), (Below.refl _ _).alloc (Nat.le_refl _) _⟩
  case round =>
    obtain ⟨k, ds, A2, c2, rfl, hk, hds, rfl, hown, hbel⟩ := hrel
    have hdl : ds.length ≤ 100000000 := by
      have := progL_len (L.take k)
      have := List.length_take_le k L
      rw [hds]; omega
    have hsz := hbel.size
    replace hds := Lib.hid hds
    have hob : (Value.slice A2 ds.length c2).ownBlock ≠ some wr.heap.size := by
      intro e
      have := (hown.lt _ e).2
      omega
    replace hob := Lib.hid hob
    replace hown := Lib.hid hown
    by_cases hlt : k < n
    · obtain ⟨b, off, ⟨x, y⟩, rfl, hb, hja, q1, q2⟩ := rdH_at (hr.out.below hbel) hlt
      have hvx := valid_at hv.out hja
      have hst := Lib.hid (take_next hja)
      replace hja := Lib.hid hja
      have hx44 : 0 ≤ x ∧ x ≤ 44 := by
        simp only [validHint, Bool.and_eq_true] at hvx
        exact inB_iff.1 hvx.1
      replace hvx := Lib.hid hvx
      have hx8 : (x : Int) = ((b8 x).toNat : Int) := by rw [b8_nat]; omega
      have hwx : IntKind.u8.wrap x = ((b8 x).toNat : Int) := wrap_u8 x
      replace hx8 := Lib.hid hx8
      have hy9 : y / 256 % 256 = ((b8 (y / 256)).toNat : Int) := (b8_nat _).symm
      have hy8 : IntKind.u8.wrap y = ((b8 y).toNat : Int) := wrap_u8 y
      rcases opBytes_cases x with hop | hop | hop
      · go_wp2_with (first | (at_builtin; refine wpAppAt rfl (.tmp 17) (.tmp 21) elemU8 rfl (v := .slice A2 ds.length c2) (n := ds.length) (xs := byteV ds) rfl ((hown.out.alloc _).alloc _) rfl (src_at (cs := [.int .u8 (b8 x).toNat]) rfl (by simp [Value.oneCell']) (by simp)) (by omega) (by omega) (by simp; omega) (ds.length + 1) rfl ?_; intro A3 c3 w2 hown2 hg2 _; have e0 : w2.cell? ⟨wr.heap.size, 0, none⟩ = some (.int .i64 x) := by { rw [cell_kept hg2 (by simp; omega) (fun e => hob.out e.symm)]; go_simp }; have e1 : w2.cell? ⟨wr.heap.size, 1, none⟩ = some (.int .i64 y) := by { rw [cell_kept hg2 (by simp; omega) (fun e => hob.out e.symm)]; go_simp }; have hz2 : wr.heap.size + 1 < w2.heap.size := by { have := hg2.size; simp at this; omega }; have hB2 : Below w.heap.size w w2 := (((hbel.alloc hsz _).alloc (by simp; omega) _).grown hg2 (by simp; omega) (fun k hk => (hown.out.lt k hk).1)); replace hown2 := Lib.hid hown2; clear hg2) | (go_at_call 50; refine (l19Bytes_any _ _).mono ?_; rintro e w' ⟨rfl, rfl⟩))
        go_roundw
        case rel =>
          refine ⟨k + 1, ds ++ [b8 x], A3, c3, by go_num, by omega, by rw [hst.out, progL_snoc, ← hds.out]; simp [hintL, opL, hop], by simp, ?_, hB2⟩
          have := hown2.out
          rw [byteV_append, List.length_append]
          simpa [byteV] using this
        case measure => simp [intOf]; omega
      · go_wp2_with (first | (at_builtin; refine wpAppAt rfl (.tmp 28) (.tmp 32) elemU8 rfl (v := .slice A3 (ds.length + 1) c3) (n := ds.length + 1) (xs := byteV ds ++ [.int .u8 (b8 x).toNat]) rfl (hown2.out.alloc _) rfl (src_at (cs := [.int .u8 (b8 y).toNat]) rfl (by simp [Value.oneCell']) (by simp)) (by omega) (by omega) (by simp; omega) (ds.length + 1 + 1) rfl ?_; intro A4 c4 w3 hown3 hg3 _; have hB3 : Below w.heap.size w w3 := ((hB2.alloc hB2.size _).grown hg3 (by simp; exact Nat.le_succ_of_le hB2.size) (fun k hk => (hown2.out.lt k hk).1)); replace hown3 := Lib.hid hown3; clear hg3) | (at_builtin; refine wpAppAt rfl (.tmp 17) (.tmp 21) elemU8 rfl (v := .slice A2 ds.length c2) (n := ds.length) (xs := byteV ds) rfl ((hown.out.alloc _).alloc _) rfl (src_at (cs := [.int .u8 (b8 x).toNat]) rfl (by simp [Value.oneCell']) (by simp)) (by omega) (by omega) (by simp; omega) (ds.length + 1) rfl ?_; intro A3 c3 w2 hown2 hg2 _; have e0 : w2.cell? ⟨wr.heap.size, 0, none⟩ = some (.int .i64 x) := by { rw [cell_kept hg2 (by simp; omega) (fun e => hob.out e.symm)]; go_simp }; have e1 : w2.cell? ⟨wr.heap.size, 1, none⟩ = some (.int .i64 y) := by { rw [cell_kept hg2 (by simp; omega) (fun e => hob.out e.symm)]; go_simp }; have hz2 : wr.heap.size + 1 < w2.heap.size := by { have := hg2.size; simp at this; omega }; have hB2 : Below w.heap.size w w2 := (((hbel.alloc hsz _).alloc (by simp; omega) _).grown hg2 (by simp; omega) (fun k hk => (hown.out.lt k hk).1)); replace hown2 := Lib.hid hown2; clear hg2) | (go_at_call 50; refine (l19Bytes_any _ _).mono ?_; rintro e w' ⟨rfl, rfl⟩))
        go_roundw
        case rel =>
          refine ⟨k + 1, ds ++ [b8 x, b8 y], A4, c4, by go_num, by omega, by rw [hst.out, progL_snoc, ← hds.out]; simp [hintL, opL, hop], by simp, ?_, hB3⟩
          have := hown3.out
          rw [byteV_append, List.length_append]
          simpa [byteV] using this
        case measure => simp [intOf]; omega
      · go_wp2_with (first | (at_builtin; refine wpAppAt rfl (.tmp 36) (.tmp 44) elemU8 rfl (v := .slice A3 (ds.length + 1) c3) (n := ds.length + 1) (xs := byteV ds ++ [.int .u8 (b8 x).toNat]) rfl (hown2.out.alloc _) rfl (src_two (u := .int .u8 (b8 (y / 256)).toNat) (v := .int .u8 (b8 y).toNat) rfl rfl (by simp)) (by omega) (by omega) (by simp; omega) (ds.length + 1 + 2) rfl ?_; intro A4 c4 w3 hown3 hg3 _; have hB3 : Below w.heap.size w w3 := ((hB2.alloc hB2.size _).grown hg3 (by simp; exact Nat.le_succ_of_le hB2.size) (fun k hk => (hown2.out.lt k hk).1)); replace hown3 := Lib.hid hown3; clear hg3) | (at_builtin; refine wpAppAt rfl (.tmp 17) (.tmp 21) elemU8 rfl (v := .slice A2 ds.length c2) (n := ds.length) (xs := byteV ds) rfl ((hown.out.alloc _).alloc _) rfl (src_at (cs := [.int .u8 (b8 x).toNat]) rfl (by simp [Value.oneCell']) (by simp)) (by omega) (by omega) (by simp; omega) (ds.length + 1) rfl ?_; intro A3 c3 w2 hown2 hg2 _; have e0 : w2.cell? ⟨wr.heap.size, 0, none⟩ = some (.int .i64 x) := by { rw [cell_kept hg2 (by simp; omega) (fun e => hob.out e.symm)]; go_simp }; have e1 : w2.cell? ⟨wr.heap.size, 1, none⟩ = some (.int .i64 y) := by { rw [cell_kept hg2 (by simp; omega) (fun e => hob.out e.symm)]; go_simp }; have hz2 : wr.heap.size + 1 < w2.heap.size := by { have := hg2.size; simp at this; omega }; have hB2 : Below w.heap.size w w2 := (((hbel.alloc hsz _).alloc (by simp; omega) _).grown hg2 (by simp; omega) (fun k hk => (hown.out.lt k hk).1)); replace hown2 := Lib.hid hown2; clear hg2) | (go_at_call 50; refine (l19Bytes_any _ _).mono ?_; rintro e w' ⟨rfl, rfl⟩))
        go_roundw
        case rel =>
          refine ⟨k + 1, ds ++ [b8 x, b8 (y / 256), b8 y], A4, c4, by go_num, by omega, by rw [hst.out, progL_snoc, ← hds.out]; simp [hintL, opL, hop], by simp, ?_, hB3⟩
          have := hown3.out
          rw [byteV_append, List.length_append]
          simpa [byteV] using this
        case measure => simp [intOf]; omega
    · have hkn : k = n := by omega
      have hfin : ds = progL L := by rw [hds.out, hkn, List.take_of_length_le (by rw [hll.out]; exact Nat.le_refl _)]
      replace hkn := Lib.hid hkn
      have kc := Lib.hid (fun W (h : Src W 1 A2 ds.length (byteV ds)) (hA : A2 = none → ds.length = 0) => run_bytes_str (P := Tryd.prog) (w := W) (src := 28) (dst := 9) (e := 5) Tryd.underlying28 Tryd.underlying5 Tryd.underlying9 (c := c2) h hA)
      have kr := kc.out wr (src_own hown.out (byteV_one ds)) (fun h => by
        rcases hown.out.2 with ⟨_, h0⟩ | ⟨g, cap, cur, hv, _⟩
        · exact h0
        · injection hv with h1; rw [h] at h1; cases h1)
      clear kc
      replace hfin := Lib.hid hfin
      go_wp2_with fail
      go_ret
      exact ⟨ret_string (by rw [hfin.out]), hbel⟩
end Go.Proofs.YtjmogpolipinlaaDoor
