/- Contracts of the functions that give a number in decimal. Conditions: as each states. -/
import Derived.BigQuiet
import Derived.Outline
import Derived.Test.YtgdkabljgabjoaaGreatDoorRa14
import Derived.Test.YtgdkabljgabjoaaGreatDoorProg
namespace Go.Proofs.YtgdkabljgabjoaaGreatDoor
open Go.RowKit
set_option linter.unusedVariables false
set_option maxRecDepth 100000

theorem elemU8 : Elem Tryz.prog 41 5 1 1 := elem_mk (z := .int .u8 0) Tryz.underlying41 (by kernel_rfl) rfl (by omega)

theorem l01Dec_any (n : Int) (w : World) (h1 : -9223372036854775808 ≤ n) (h2 : n ≤ 9223372036854775807) :
    Calls Tryz.prog 74 #[.int .i64 n] w fun e w' => e = .returned (.string (decS n)) ∧ Below w.heap.size w w' := by
  go_enter Tryz.func74, Tryz.ntmps74
  go_wp2
  go_loopw [3, 4] (fun out k wr => ∃ (x : Int) (ds : List UInt8) (A : Option Addr) (c : Nat), k = .int .i64 x ∧ -9223372036854775808 ≤ x ∧ x ≤ 9223372036854775807 ∧ (digs x.natAbs ++ ds = digs n.natAbs) ∧ out = .slice A ds.length c ∧ wr.ownsRow w.heap.size 5 1 (.slice A ds.length c) ds.length (byteV ds) ∧ Below w.heap.size w wr) (fun out k wr => (intOf k).natAbs)
  case atStart => exact ⟨n, [], _, _, rfl, h1, h2, by simp, rfl, World.ownsRow_lit w _ _ (Nat.le_refl _) (by decide) (by simp), (Below.refl _ _).alloc (Nat.le_refl _) _⟩
  case round =>
    obtain ⟨x, ds, A, c, rfl, hx1, hx2, hds, rfl, hown, hbel⟩ := hrel
    replace hds := Lib.hid hds
    have hlen : ds.length ≤ 19 := by
      have := digs_len19 (n := n.natAbs) (by omega)
      rw [← hds.out, List.length_append] at this; omega
    replace hown := Lib.hid hown
    have hsz := hbel.size
    by_cases hx0 : 0 < x
    · have hne : (x == 0) = false := by simp; omega
      have hst := Lib.hid (digs_step (n := x.natAbs) (by omega))
      go_wp2_with (at_builtin; refine wpApp rfl (.tmp 21) (.tmp 22) elemU8 rfl (base := w.heap.size) (n := 1) (xs := [.int .u8 (48 + x % 10)]) rfl (World.ownsRow_lit wr #[.int .u8 (48 + x % 10)] 1 (by omega) (by decide) (by simp)) rfl (src_own (hown.out.alloc _) (byteV_one ds)) (by omega) (by omega) (by simp; omega) (ds.length + 1) (by omega) ?_)
      intro A' c' w1 hown1 hb1
      have hb2 := (hbel.alloc hsz _).trans hb1
      replace hown1 := Lib.hid hown1
      clear hb1
      go_wp2
      go_roundw
      case rel =>
        refine ⟨x / 10, UInt8.ofNat (48 + x.natAbs % 10) :: ds, A', c', rfl, by omega, by omega, ?_, rfl, ?_, hb2⟩
        · have : (x / 10).natAbs = x.natAbs / 10 := by omega
          rw [this, ← hds.out, hst.out]; simp
        · rw [byteV_digit x.natAbs ds (48 + x % 10) (by omega)]; exact hown1.out
      case measure => simp [intOf]; omega
    by_cases hx1 : x < 0
    · have hne : (x == 0) = false := by simp; omega
      have hst := Lib.hid (digs_step (n := x.natAbs) (by omega))
      obtain ⟨hm1, hm2, hm3, hm4⟩ := tmod10_neg hx1
      replace hm3 := Lib.hid hm3
      replace hm4 := Lib.hid hm4
      have hq1 : -9223372036854775808 ≤ x.tdiv 10 := by rw [hm4.out]; omega
      have hq2 : x.tdiv 10 ≤ 0 := by rw [hm4.out]; omega
      by_cases hz : x.tmod 10 < 0
      · go_wp2_with (at_builtin; refine wpApp rfl (.tmp 21) (.tmp 22) elemU8 rfl (base := w.heap.size) (n := 1) (xs := [.int .u8 (48 + -(x.tmod 10))]) rfl (World.ownsRow_lit wr #[.int .u8 (48 + -(x.tmod 10))] 1 (by omega) (by decide) (by simp)) rfl (src_own (hown.out.alloc _) (byteV_one ds)) (by omega) (by omega) (by simp; omega) (ds.length + 1) (by omega) ?_)
        intro A' c' w1 hown1 hb1
        have hb2 := (hbel.alloc hsz _).trans hb1
        replace hown1 := Lib.hid hown1
        clear hb1
        go_wp2
        go_roundw
        case rel =>
          refine ⟨x.tdiv 10, UInt8.ofNat (48 + x.natAbs % 10) :: ds, A', c', rfl, by omega, by omega, ?_, rfl, ?_, hb2⟩
          · rw [natAbs_tdiv10, ← hds.out, hst.out]; simp
          · rw [byteV_digit x.natAbs ds (48 + -(x.tmod 10)) (by rw [hm3.out]; omega)]; exact hown1.out
        case measure => simp only [intOf]; have := natAbs_tdiv10 x; omega
      · go_wp2_with (at_builtin; refine wpApp rfl (.tmp 21) (.tmp 22) elemU8 rfl (base := w.heap.size) (n := 1) (xs := [.int .u8 (48 + x.tmod 10)]) rfl (World.ownsRow_lit wr #[.int .u8 (48 + x.tmod 10)] 1 (by omega) (by decide) (by simp)) rfl (src_own (hown.out.alloc _) (byteV_one ds)) (by omega) (by omega) (by simp; omega) (ds.length + 1) (by omega) ?_)
        intro A' c' w1 hown1 hb1
        have hb2 := (hbel.alloc hsz _).trans hb1
        replace hown1 := Lib.hid hown1
        clear hb1
        go_wp2
        go_roundw
        case rel =>
          refine ⟨x.tdiv 10, UInt8.ofNat (48 + x.natAbs % 10) :: ds, A', c', rfl, by omega, by omega, ?_, rfl, ?_, hb2⟩
          · rw [natAbs_tdiv10, ← hds.out, hst.out]; simp
          · rw [byteV_digit x.natAbs ds (48 + x.tmod 10) (by have := hm3.out; omega)]; exact hown1.out
        case measure => simp only [intOf]; have := natAbs_tdiv10 x; omega
    · obtain rfl : x = 0 := by omega
      have hds' : ds = digs n.natAbs := by have := hds.out; simpa [digs_zero] using this
      have hstr := run_bytes_str (P := Tryz.prog) (src := 41) (dst := 9) (w := wr) (c := c) Tryz.underlying41 Tryz.underlying5 Tryz.underlying9 (src_own hown.out (byteV_one ds)) (by
        rintro rfl
        rcases hown.out.2 with ⟨h, _⟩ | ⟨g, _, _, h, _⟩
        · injection h
        · injection h with h; cases h)
      replace hds' := Lib.hid hds'
      by_cases hn0 : n = 0
      · subst hn0
        have hl : ds.length = 0 := by rw [hds'.out]; rfl
        go_wp2
        go_ret
        exact ⟨rfl, hbel⟩
      · have hl : 0 < ds.length := List.length_pos_iff.2 (by rw [hds'.out]; exact digs_ne (by omega))
        have hl2 : ((ds.length : Int) == 0) = false := beq_eq_false_iff_ne.2 (by omega)
        by_cases hneg : n < 0
        · go_wp2
          go_ret
          refine ⟨ret_string ?_, hbel⟩
          unfold decS decL dec1
          rw [if_pos hneg, if_neg (by omega), ← hds'.out]
          exact ByteArray.mk_append_mk [45] ds
        · go_wp2
          go_ret
          refine ⟨ret_string ?_, hbel⟩
          unfold decS decL dec1
          rw [if_neg (by omega), if_neg (by omega), ← hds'.out]
          rfl

/-- the buffer of the digits: from p on it holds ds -/
def DBuf (w : World) (B p : Nat) (ds : List UInt8) : Prop := ∃ cs : List Value, w.heap[B]? = some (.cells cs.toArray 148 (0, 0)) ∧ cs.length = 20 ∧ p + ds.length = 20 ∧ cs.drop p = byteV ds
theorem DBuf.le {w : World} {B p : Nat} {ds : List UInt8} (h : DBuf w B p ds) : p ≤ 20 := by obtain ⟨_, _, _, h, _⟩ := h; omega
theorem DBuf.len {w : World} {B p : Nat} {ds : List UInt8} (h : DBuf w B p ds) : p + ds.length = 20 := by obtain ⟨_, _, _, h, _⟩ := h; omega
theorem DBuf.cell {w : World} {B p : Nat} {ds : List UInt8} (h : DBuf w B p ds) (q : Nat) (hq : q < 20) : ∃ v, w.cell? ⟨B, q, none⟩ = some v := by
  obtain ⟨cs, h1, h2, _, _⟩ := h
  exact ⟨cs[q], by rw [cell_of_row _ _ _ _ _ _ h1]; simp [h2, hq]⟩
theorem DBuf.frozen {w : World} {B p : Nat} {ds : List UInt8} (h : DBuf w B p ds) (q : Nat) : w.frozen? ⟨B, q, none⟩ = false := by
  obtain ⟨cs, h1, h2, _, _⟩ := h
  simp [World.frozen?, h1]
theorem dbuf_new (w : World) : DBuf (w.alloc (.cells #[.int .u8 0, .int .u8 0, .int .u8 0, .int .u8 0, .int .u8 0, .int .u8 0, .int .u8 0, .int .u8 0, .int .u8 0, .int .u8 0, .int .u8 0, .int .u8 0, .int .u8 0, .int .u8 0, .int .u8 0, .int .u8 0, .int .u8 0, .int .u8 0, .int .u8 0, .int .u8 0] 148)) w.heap.size 20 [] :=
  ⟨_, heap_alloc_new w _, rfl, rfl, rfl⟩
theorem DBuf.set {w : World} {B q : Nat} {ds : List UInt8} (h : DBuf w B (q + 1) ds) (c : UInt8) : DBuf (w.setCell ⟨B, q, none⟩ (.int .u8 c.toNat)) B q (c :: ds) := by
  obtain ⟨cs, h1, h2, h3, h4⟩ := h
  refine ⟨cs.set q (.int .u8 c.toNat), ?_, by simp [h2], by simp; omega, ?_⟩
  · simp [World.setCell, Array.getElem?_modify, h1]
  · rw [List.drop_eq_getElem_cons (by simp; omega)]
    simp only [List.getElem_set_self, byteV, List.map_cons]
    congr 1
    rw [List.drop_set_of_lt (by omega), h4]; rfl

theorem DBuf.src {w : World} {B p : Nat} {ds : List UInt8} (h : DBuf w B p ds) : Src w 1 (some ⟨B, p, none⟩) (20 - p) (byteV ds) := by
  obtain ⟨cs, h1, h2, h3, h4⟩ := h
  refine ⟨by simp; omega, byteV_one ds, fun _ => ⟨_, rfl, fun j u hu => ?_⟩⟩
  have : (⟨B, p, none⟩ : Addr).add j = ⟨B, p + j, none⟩ := by unfold Addr.add; split <;> simp_all
  rw [this, cell_of_row _ _ _ _ _ _ h1]
  rw [← h4, List.getElem?_drop] at hu
  simpa using hu
theorem run_sliceDig (B q : Nat) (hq : q < 20) (W : World) : (Instr.sliceAt 148 (.pointer (some ⟨B, 0, none⟩)) (some (.int .i64 (q : Int))) none none).run Tryz.prog W = .ok (.slice (some ⟨B, q, none⟩) (20 - q) (20 - q)) W := by
  have e : Tryz.prog.arrayLen 148 = 20 := by kernel_rfl
  have e2 : ∀ W, (sizeOf (Tryz.prog.elem 148)).run Tryz.prog W = .ok 1 W := fun W => by kernel_rfl
  rw [run_sliceAt_array_l (P := Tryz.prog) W 148 ⟨B, 0, none⟩ (by kernel_rfl) .i64 q (by omega) (by rw [e]; omega), e2, e]
  simp only [Result.andThen, slicedAt, Int.toNat_natCast, Addr.add]
  rw [if_neg (by omega)]
  by_cases h0 : q = 0
  · subst h0; simp
  · simp [h0]
theorem run_digStr {W : World} {B q : Nat} {ds : List UInt8} (hd : DBuf W B q ds) : (convert 41 9 (.slice (some ⟨B, q, none⟩) (20 - q) (20 - q))).run Tryz.prog W = .ok (.string ⟨ds.toArray⟩) W :=
  run_bytes_str (P := Tryz.prog) (src := 41) (dst := 9) Tryz.underlying41 Tryz.underlying5 Tryz.underlying9 hd.src (by intro h; cases h)

theorem u64_neg {n : Int} (h1 : -9223372036854775808 ≤ n) (h2 : n < 0) : IntKind.u64.wrap (-IntKind.u64.wrap n) = ((n.natAbs : Nat) : Int) := by
  simp only [IntKind.wrap, IntKind.signed, IntKind.bits]
  simp
  omega

theorem implDec_any (n : Int) (w : World) (h1 : -9223372036854775808 ≤ n) (h2 : n ≤ 9223372036854775807) :
    Calls Tryz.prog 55 #[.int .i64 n] w fun e w' => e = .returned (.string (decS n)) ∧ Below w.heap.size w w' := by
  by_cases hneg : n < 0
  · go_enter Tryz.func55, Tryz.ntmps55
    go_wp2
    go_loopw [4, 5] (fun at_ u wr => ∃ (x : Nat) (ds : List UInt8) (p : Nat), at_ = .int .i64 p ∧ u = .int .u64 x ∧ x ≤ 9223372036854775808 ∧ DBuf wr w.heap.size p ds ∧ (x ≠ 0 ∧ digs x ++ ds = dec1 n.natAbs ∨ x = 0 ∧ ds = [] ∧ dec1 n.natAbs = [48]) ∧ Below w.heap.size w wr) (fun at_ u wr => (intOf at_).toNat)
    case atStart =>
      refine ⟨n.natAbs, [], 20, rfl, by rw [u64_neg h1 hneg], by omega, dbuf_new w, ?_, (Below.refl _ _).alloc (Nat.le_refl _) _⟩
      by_cases h0 : n.natAbs = 0
      · right; exact ⟨h0, rfl, by rw [h0]; rfl⟩
      · left; exact ⟨h0, by unfold dec1; rw [if_neg h0]; simp⟩
    case round =>
      obtain ⟨x, ds, p, rfl, rfl, hx, hbuf, hinv, hbel⟩ := hrel
      have hp : p ≤ 20 := hbuf.le
      have hp0 : 1 ≤ p := by
        have h := hbuf.len
        have h2 : ds.length + 1 ≤ 19 ∨ ds.length = 0 := by
          rcases hinv with ⟨h0, hd⟩ | ⟨_, rfl, _⟩
          · have h3 := dec1_len (n := n.natAbs) (by omega)
            have h4 : 0 < (digs x).length := List.length_pos_iff.2 (digs_ne h0)
            rw [← hd, List.length_append] at h3
            left; omega
          · right; rfl
        omega
      obtain ⟨q, rfl⟩ : ∃ q, p = q + 1 := ⟨p - 1, by omega⟩
      obtain ⟨vold, hcell⟩ := hbuf.cell q (by omega)
      have hfr := hbuf.frozen q
      have hset := hbuf.set (UInt8.ofNat (48 + x % 10))
      have h8 : ((UInt8.ofNat (48 + x % 10)).toNat : Int) = 48 + (x : Int) % 10 := by rw [UInt8.toNat_ofNat']; omega
      rw [h8] at hset
      replace hset := Lib.hid hset
      clear h8
      replace hinv := Lib.hid hinv
      have hlenq := hbuf.len
      by_cases hx10 : x < 10
      · have ht : ((x : Int) / 10 == 0) = true := by simp; omega
        have hfin : UInt8.ofNat (48 + x % 10) :: ds = dec1 n.natAbs := by
          rcases hinv.out with ⟨h0, hd⟩ | ⟨rfl, rfl, hd⟩
          · rw [← hd, digs_step h0, show x / 10 = 0 by omega]; rfl
          · rw [hd]; rfl
        replace hfin := Lib.hid hfin
        have hl19 : ds.length + 1 ≤ 19 := by
          have h3 := dec1_len (n := n.natAbs) (by omega)
          rw [← hfin.out] at h3
          simpa using h3
        obtain ⟨r, rfl⟩ : ∃ r, q = r + 1 := ⟨q - 1, by omega⟩
        obtain ⟨vold2, hcell2⟩ := hbuf.cell r (by omega)
        have hfr2 := hbuf.frozen r
        have hsl := run_sliceDig w.heap.size r (by omega)
        have hstr := run_digStr (hset.out.set 45)
        have hof : ((45 : UInt8).toNat : Int) = 45 := rfl
        rw [hof] at hstr
        clear hof
        go_wp2
        go_ret
        refine ⟨ret_string ?_, (hbel.setCell (Nat.le_refl _) _).setCell (Nat.le_refl _) _⟩
        unfold decS decL
        rw [if_pos (by omega), ← hfin.out]; simp
      · have ht : ((x : Int) / 10 == 0) = false := by simp; omega
        go_wp2
        go_roundw
        case rel =>
          refine ⟨x / 10, UInt8.ofNat (48 + x % 10) :: ds, q, rfl, by go_num, by omega, hset.out, ?_, hbel.setCell (Nat.le_refl _) _⟩
          rcases hinv.out with ⟨h0, hd⟩ | ⟨h0, _⟩
          · left; exact ⟨by omega, by rw [← hd, digs_step h0]; simp⟩
          · omega
        case measure => simp [intOf] <;> omega
  · go_enter Tryz.func55, Tryz.ntmps55
    go_wp2
    go_loopw [4, 5] (fun at_ u wr => ∃ (x : Nat) (ds : List UInt8) (p : Nat), at_ = .int .i64 p ∧ u = .int .u64 x ∧ x ≤ 9223372036854775808 ∧ DBuf wr w.heap.size p ds ∧ (x ≠ 0 ∧ digs x ++ ds = dec1 n.natAbs ∨ x = 0 ∧ ds = [] ∧ dec1 n.natAbs = [48]) ∧ Below w.heap.size w wr) (fun at_ u wr => (intOf at_).toNat)
    case atStart =>
      refine ⟨n.natAbs, [], 20, rfl, by go_num, by omega, dbuf_new w, ?_, (Below.refl _ _).alloc (Nat.le_refl _) _⟩
      by_cases h0 : n.natAbs = 0
      · right; exact ⟨h0, rfl, by rw [h0]; rfl⟩
      · left; exact ⟨h0, by unfold dec1; rw [if_neg h0]; simp⟩
    case round =>
      obtain ⟨x, ds, p, rfl, rfl, hx, hbuf, hinv, hbel⟩ := hrel
      have hp : p ≤ 20 := hbuf.le
      have hp0 : 1 ≤ p := by
        have h := hbuf.len
        have h2 : ds.length + 1 ≤ 19 ∨ ds.length = 0 := by
          rcases hinv with ⟨h0, hd⟩ | ⟨_, rfl, _⟩
          · have h3 := dec1_len (n := n.natAbs) (by omega)
            have h4 : 0 < (digs x).length := List.length_pos_iff.2 (digs_ne h0)
            rw [← hd, List.length_append] at h3
            left; omega
          · right; rfl
        omega
      obtain ⟨q, rfl⟩ : ∃ q, p = q + 1 := ⟨p - 1, by omega⟩
      obtain ⟨vold, hcell⟩ := hbuf.cell q (by omega)
      have hfr := hbuf.frozen q
      have hset := hbuf.set (UInt8.ofNat (48 + x % 10))
      have h8 : ((UInt8.ofNat (48 + x % 10)).toNat : Int) = 48 + (x : Int) % 10 := by rw [UInt8.toNat_ofNat']; omega
      rw [h8] at hset
      replace hset := Lib.hid hset
      clear h8
      replace hinv := Lib.hid hinv
      have hlenq := hbuf.len
      by_cases hx10 : x < 10
      · have ht : ((x : Int) / 10 == 0) = true := by simp; omega
        have hfin : UInt8.ofNat (48 + x % 10) :: ds = dec1 n.natAbs := by
          rcases hinv.out with ⟨h0, hd⟩ | ⟨rfl, rfl, hd⟩
          · rw [← hd, digs_step h0, show x / 10 = 0 by omega]; rfl
          · rw [hd]; rfl
        replace hfin := Lib.hid hfin
        have hsl := run_sliceDig w.heap.size q (by omega)
        have hstr := run_digStr hset.out
        go_wp2
        go_ret
        refine ⟨ret_string ?_, hbel.setCell (Nat.le_refl _) _⟩
        unfold decS decL
        rw [if_neg (by omega), ← hfin.out]; simp
      · have ht : ((x : Int) / 10 == 0) = false := by simp; omega
        go_wp2
        go_roundw
        case rel =>
          refine ⟨x / 10, UInt8.ofNat (48 + x % 10) :: ds, q, rfl, by go_num, by omega, hset.out, ?_, hbel.setCell (Nat.le_refl _) _⟩
          rcases hinv.out with ⟨h0, hd⟩ | ⟨h0, _⟩
          · left; exact ⟨by omega, by rw [← hd, digs_step h0]; simp⟩
          · omega
        case measure => simp [intOf] <;> omega
end Go.Proofs.YtgdkabljgabjoaaGreatDoor

