/- Contracts of the functions that give a number in decimal. Conditions: as each states. -/
import Derived.BigQuiet
import Derived.Outline
import Derived.Deep.RegionHeld3
import Derived.Test.YtgdkabljgabjoaaGreatDoorGw21
import Derived.Test.YtgdkabljgabjoaaGreatDoorProg
import Derived.Test.YtgdkabljgabjoaaGreatDoorGw05
import Derived.Test.YtgdkabljgabjoaaGreatDoorShelf
namespace Go.Proofs.YtgdkabljgabjoaaGreatDoor
open Go.RowKit
set_option linter.unusedVariables false
set_option maxRecDepth 100000

theorem elemU8 : Elem Tryz.prog 41 5 1 1 := elem_mk (z := .int .u8 0) Tryz.underlying41 (by kernel_rfl) rfl (by omega)

/-- the buffer of the digits: from p on it holds ds -/
def DBuf (w : World) (B p : Nat) (ds : List UInt8) : Prop := ∃ cs : List Value, w.heap[B]? = some (.cells cs.toArray 148 (0, 0)) ∧ cs.length = 20 ∧ p + ds.length = 20 ∧ cs.drop p = byteV ds
theorem DBuf.le {w : World} {B p : Nat} {ds : List UInt8} (h : DBuf w B p ds) : p ≤ 20 := by obtain ⟨_, _, _, h, _⟩ := h; omega
theorem DBuf.len {w : World} {B p : Nat} {ds : List UInt8} (h : DBuf w B p ds) : p + ds.length = 20 := by obtain ⟨_, _, _, h, _⟩ := h; omega
theorem DBuf.cell {w : World} {B p : Nat} {ds : List UInt8} (h : DBuf w B p ds) (q : Nat) (hq : q < 20) : ∃ v, w.cell? ⟨B, q, none⟩ = some v := by
  obtain ⟨cs, h1, h2, _, _⟩ := h
  exact ⟨cs[q], by rw [cell_of_row _ _ _ _ _ _ h1]; simp [h2, hq]⟩
theorem DBuf.frozen {w : World} {B p : Nat} {ds : List UInt8} (h : DBuf w B p ds) (q : Nat) : w.frozen? ⟨B, q, none⟩ = false := by
  obtain ⟨cs, h1, h2, _, _⟩ := h
  simp [World.frozen?, h1]
theorem dbuf_new (w : World) : DBuf (w.alloc (.cells #[.int .u8 0, .int .u8 0, .int .u8 0, .int .u8 0, .int .u8 0, .int .u8 0, .int .u8 0, .int .u8 0, .int .u8 0, .int .u8 0, .int .u8 0, .int .u8 0, .int .u8 0, .int .u8 0, .int .u8 0, .int .u8 0, .int .u8 0, .int .u8 0, .int .u8 0, .int .u8 0] 148)) w.heap.size 20 [] :=
  ⟨_, heap_alloc_new w _, rfl, rfl, rfl⟩
theorem DBuf.set {w : World} {B q : Nat} {ds : List UInt8} (h : DBuf w B (q + 1) ds) (c : UInt8) : DBuf (w.setCell ⟨B, q, none⟩ (.int .u8 c.toNat)) B q (c :: ds) := by
  obtain ⟨cs, h1, h2, h3, h4⟩ := h
  refine ⟨cs.set q (.int .u8 c.toNat), ?_, by simp [h2], by simp; omega, ?_⟩
  · simp [World.setCell, Array.getElem?_modify, h1]
  · rw [List.drop_eq_getElem_cons (by simp; omega)]
    simp only [List.getElem_set_self, byteV, List.map_cons]
    congr 1
    rw [List.drop_set_of_lt (by omega), h4]; rfl

theorem DBuf.src {w : World} {B p : Nat} {ds : List UInt8} (h : DBuf w B p ds) : Src w 1 (some ⟨B, p, none⟩) (20 - p) (byteV ds) := by
  obtain ⟨cs, h1, h2, h3, h4⟩ := h
  refine ⟨by simp; omega, byteV_one ds, fun _ => ⟨_, rfl, fun j u hu => ?_⟩⟩
  have : (⟨B, p, none⟩ : Addr).add j = ⟨B, p + j, none⟩ := by unfold Addr.add; split <;> simp_all
  rw [this, cell_of_row _ _ _ _ _ _ h1]
  rw [← h4, List.getElem?_drop] at hu
  simpa using hu
theorem run_sliceDig (B q : Nat) (hq : q < 20) (W : World) : (Instr.sliceAt 148 (.pointer (some ⟨B, 0, none⟩)) (some (.int .i64 (q : Int))) none none).run Tryz.prog W = .ok (.slice (some ⟨B, q, none⟩) (20 - q) (20 - q)) W := by
  have e : Tryz.prog.arrayLen 148 = 20 := by kernel_rfl
  have e2 : ∀ W, (sizeOf (Tryz.prog.elem 148)).run Tryz.prog W = .ok 1 W := fun W => by kernel_rfl
  rw [run_sliceAt_array_l (P := Tryz.prog) W 148 ⟨B, 0, none⟩ (by kernel_rfl) .i64 q (by omega) (by rw [e]; omega), e2, e]
  simp only [Result.andThen, slicedAt, Int.toNat_natCast, Addr.add]
  rw [if_neg (by omega)]
  by_cases h0 : q = 0
  · subst h0; simp
  · simp [h0]
theorem run_digStr {W : World} {B q : Nat} {ds : List UInt8} (hd : DBuf W B q ds) : (convert 41 9 (.slice (some ⟨B, q, none⟩) (20 - q) (20 - q))).run Tryz.prog W = .ok (.string ⟨ds.toArray⟩) W :=
  run_bytes_str (P := Tryz.prog) (src := 41) (dst := 9) Tryz.underlying41 Tryz.underlying5 Tryz.underlying9 hd.src (by intro h; cases h)

theorem u64_neg {n : Int} (h1 : -9223372036854775808 ≤ n) (h2 : n < 0) : IntKind.u64.wrap (-IntKind.u64.wrap n) = ((n.natAbs : Nat) : Int) := by
  simp only [IntKind.wrap, IntKind.signed, IntKind.bits]
  simp
  omega

theorem implDec_any (n : Int) (w : World) (h1 : -9223372036854775808 ≤ n) (h2 : n ≤ 9223372036854775807) :
    Calls Tryz.prog 55 #[.int .i64 n] w fun e w' => e = .returned (.string (decS n)) ∧ Below w.heap.size w w' := by
  by_cases hneg : n < 0
  · go_enter Tryz.func55, Tryz.ntmps55
    go_wp2
    go_loopw [4, 5] (fun at_ u wr => ∃ (x : Nat) (ds : List UInt8) (p : Nat), at_ = .int .i64 p ∧ u = .int .u64 x ∧ x ≤ 9223372036854775808 ∧ DBuf wr w.heap.size p ds ∧ (x ≠ 0 ∧ digs x ++ ds = dec1 n.natAbs ∨ x = 0 ∧ ds = [] ∧ dec1 n.natAbs = [48]) ∧ Below w.heap.size w wr) (fun at_ u wr => (intOf at_).toNat)
    case atStart =>
      refine ⟨n.natAbs, [], 20, rfl, by rw [u64_neg h1 hneg], by omega, dbuf_new w, ?_, (Below.refl _ _).alloc (Nat.le_refl _) _⟩
      by_cases h0 : n.natAbs = 0
      · right; exact ⟨h0, rfl, by rw [h0]; rfl⟩
      · left; exact ⟨h0, by unfold dec1; rw [if_neg h0]; simp⟩
    case round =>
      obtain ⟨x, ds, p, rfl, rfl, hx, hbuf, hinv, hbel⟩ := hrel
      have hp : p ≤ 20 := hbuf.le
      have hp0 : 1 ≤ p := by
        have h := hbuf.len
        have h2 : ds.length + 1 ≤ 19 ∨ ds.length = 0 := by
          rcases hinv with ⟨h0, hd⟩ | ⟨_, rfl, _⟩
          · have h3 := dec1_len (n := n.natAbs) (by omega)
            have h4 : 0 < (digs x).length := List.length_pos_iff.2 (digs_ne h0)
            rw [← hd, List.length_append] at h3
            left; omega
          · right; rfl
        omega
      obtain ⟨q, rfl⟩ : ∃ q, p = q + 1 := ⟨p - 1, by omega⟩
      obtain ⟨vold, hcell⟩ := hbuf.cell q (by omega)
      have hfr := hbuf.frozen q
      have hset := hbuf.set (UInt8.ofNat (48 + x % 10))
      have h8 : ((UInt8.ofNat (48 + x % 10)).toNat : Int) = 48 + (x : Int) % 10 := by rw [UInt8.toNat_ofNat']; omega
      rw [h8] at hset
      replace hset := Lib.hid hset
      clear h8
      replace hinv := Lib.hid hinv
      have hlenq := hbuf.len
      by_cases hx10 : x < 10
      · have ht : ((x : Int) / 10 == 0) = true := by simp; omega
        have hfin : UInt8.ofNat (48 + x % 10) :: ds = dec1 n.natAbs := by
          rcases hinv.out with ⟨h0, hd⟩ | ⟨rfl, rfl, hd⟩
          · rw [← hd, digs_step h0, show x / 10 = 0 by omega]; rfl
          · rw [hd]; rfl
        replace hfin := Lib.hid hfin
        have hl19 : ds.length + 1 ≤ 19 := by
          have h3 := dec1_len (n := n.natAbs) (by omega)
          rw [← hfin.out] at h3
          simpa using h3
        obtain ⟨r, rfl⟩ : ∃ r, q = r + 1 := ⟨q - 1, by omega⟩
        obtain ⟨vold2, hcell2⟩ := hbuf.cell r (by omega)
        have hfr2 := hbuf.frozen r
        have hsl := run_sliceDig w.heap.size r (by omega)
        have hstr := run_digStr (hset.out.set 45)
        have hof : ((45 : UInt8).toNat : Int) = 45 := rfl
        rw [hof] at hstr
        clear hof
        go_wp2
        go_ret
        refine ⟨ret_string ?_, (hbel.setCell (Nat.le_refl _) _).setCell (Nat.le_refl _) _⟩
        unfold decS decL
        rw [if_pos (by omega), ← hfin.out]; simp
      · have ht : ((x : Int) / 10 == 0) = false := by simp; omega
        go_wp2
        go_roundw
        case rel =>
          refine ⟨x / 10, UInt8.ofNat (48 + x % 10) :: ds, q, rfl, by go_num, by omega, hset.out, ?_, hbel.setCell (Nat.le_refl _) _⟩
          rcases hinv.out with ⟨h0, hd⟩ | ⟨h0, _⟩
          · left; exact ⟨by omega, by rw [← hd, digs_step h0]; simp⟩
          · omega
        case measure => simp [intOf] <;> omega
  · go_enter Tryz.func55, Tryz.ntmps55
    go_wp2
    go_loopw [4, 5] (fun at_ u wr => ∃ (x : Nat) (ds : List UInt8) (p : Nat), at_ = .int .i64 p ∧ u = .int .u64 x ∧ x ≤ 9223372036854775808 ∧ DBuf wr w.heap.size p ds ∧ (x ≠ 0 ∧ digs x ++ ds = dec1 n.natAbs ∨ x = 0 ∧ ds = [] ∧ dec1 n.natAbs = [48]) ∧ Below w.heap.size w wr) (fun at_ u wr => (intOf at_).toNat)
    case atStart =>
      refine ⟨n.natAbs, [], 20, rfl, by go_num, by omega, dbuf_new w, ?_, (Below.refl _ _).alloc (Nat.le_refl _) _⟩
      by_cases h0 : n.natAbs = 0
      · right; exact ⟨h0, rfl, by rw [h0]; rfl⟩
      · left; exact ⟨h0, by unfold dec1; rw [if_neg h0]; simp⟩
    case round =>
      obtain ⟨x, ds, p, rfl, rfl, hx, hbuf, hinv, hbel⟩ := hrel
      have hp : p ≤ 20 := hbuf.le
      have hp0 : 1 ≤ p := by
        have h := hbuf.len
        have h2 : ds.length + 1 ≤ 19 ∨ ds.length = 0 := by
          rcases hinv with ⟨h0, hd⟩ | ⟨_, rfl, _⟩
          · have h3 := dec1_len (n := n.natAbs) (by omega)
            have h4 : 0 < (digs x).length := List.length_pos_iff.2 (digs_ne h0)
            rw [← hd, List.length_append] at h3
            left; omega
          · right; rfl
        omega
      obtain ⟨q, rfl⟩ : ∃ q, p = q + 1 := ⟨p - 1, by omega⟩
      obtain ⟨vold, hcell⟩ := hbuf.cell q (by omega)
      have hfr := hbuf.frozen q
      have hset := hbuf.set (UInt8.ofNat (48 + x % 10))
      have h8 : ((UInt8.ofNat (48 + x % 10)).toNat : Int) = 48 + (x : Int) % 10 := by rw [UInt8.toNat_ofNat']; omega
      rw [h8] at hset
      replace hset := Lib.hid hset
      clear h8
      replace hinv := Lib.hid hinv
      have hlenq := hbuf.len
      by_cases hx10 : x < 10
      · have ht : ((x : Int) / 10 == 0) = true := by simp; omega
        have hfin : UInt8.ofNat (48 + x % 10) :: ds = dec1 n.natAbs := by
          rcases hinv.out with ⟨h0, hd⟩ | ⟨rfl, rfl, hd⟩
          · rw [← hd, digs_step h0, show x / 10 = 0 by omega]; rfl
          · rw [hd]; rfl
        replace hfin := Lib.hid hfin
        have hsl := run_sliceDig w.heap.size q (by omega)
        have hstr := run_digStr hset.out
        go_wp2
        go_ret
        refine ⟨ret_string ?_, hbel.setCell (Nat.le_refl _) _⟩
        unfold decS decL
        rw [if_neg (by omega), ← hfin.out]; simp
      · have ht : ((x : Int) / 10 == 0) = false := by simp; omega
        go_wp2
        go_roundw
        case rel =>
          refine ⟨x / 10, UInt8.ofNat (48 + x % 10) :: ds, q, rfl, by go_num, by omega, hset.out, ?_, hbel.setCell (Nat.le_refl _) _⟩
          rcases hinv.out with ⟨h0, hd⟩ | ⟨h0, _⟩
          · left; exact ⟨by omega, by rw [← hd, digs_step h0]; simp⟩
          · omega
        case measure => simp [intOf] <;> omega
end Go.Proofs.YtgdkabljgabjoaaGreatDoor

/- Digits read back, both sides. Conditions: as each states. -/
namespace Go.Proofs.YtgdkabljgabjoaaGreatDoor
open Go.RowKit
set_option linter.unusedVariables false
set_option maxRecDepth 100000
set_option maxRecDepth 100000

/-- what reading digits comes to -/
def HXPost (s : ByteArray) (w : World) (e : Ending) (w' : World) : Prop :=
  ∃ (r : ByteArray) (t : Bool), e = .returned (.tuple #[.string r, .bool t]) ∧ r.size ≤ s.size ∧ (∀ l, s.data.toList = hexT l → t = true ∧ r.data.toList = l) ∧ Below w.heap.size w w'
theorem hexT_length (l : List UInt8) : (hexT l).length = 2 * l.length := by
  induction l with
  | nil => rfl
  | cons b l ih => unfold hexT at ih ⊢; rw [List.flatMap_cons, List.length_append, ih]; simp; omega
theorem hex_get {s : ByteArray} {l : List UInt8} {k : Nat} (h : s.data.toList = hexT l) (hk : 2 * k + 1 < s.size) : ∃ b, l[k]? = some b ∧ hexV (s[2 * k]'(by omega)) = (b.toNat / 16 : Nat) ∧ hexV (s[2 * k + 1]) = (b.toNat % 16 : Nat) := by
  have hl := congrArg List.length h
  rw [hexT_length] at hl
  have hl2 : s.data.toList.length = s.size := by simp
  have hkl : k < l.length := by omega
  have hb := (List.getElem?_eq_getElem hkl)
  obtain ⟨h1, h2⟩ := hexT_at hb
  have hb8 := l[k].toNat_lt
  rw [← h] at h1 h2
  refine ⟨_, hb, ?_, ?_⟩
  · have e : s[2 * k] = hexD (l[k].toNat / 16) := by
      rw [List.getElem?_eq_getElem (by omega)] at h1
      exact Option.some.inj h1
    rw [e, hexV_D (by omega)]
  · have e : s[2 * k + 1] = hexD (l[k].toNat % 16) := by
      rw [List.getElem?_eq_getElem (by omega)] at h2
      exact Option.some.inj h2
    rw [e, hexV_D (by omega)]
end Go.Proofs.YtgdkabljgabjoaaGreatDoor

/- Digits read back, the program's side. Conditions: as each states. -/
namespace Go.Proofs.YtgdkabljgabjoaaGreatDoor
open Go.RowKit
set_option linter.unusedVariables false
set_option maxRecDepth 100000
set_option maxRecDepth 100000

def hexDigits : ByteArray := ⟨#[48, 49, 50, 51, 52, 53, 54, 55, 56, 57, 97, 98, 99, 100, 101, 102]⟩
theorem hexV_index (c : UInt8) : Lib.indexByte hexDigits.data.toList c = hexV c := by
  have : ∀ n : Fin 256, Lib.indexByte hexDigits.data.toList (UInt8.ofNat n.val) = hexV (UInt8.ofNat n.val) := by decide +kernel
  have h := this ⟨c.toNat, c.toNat_lt⟩
  simpa using h
theorem idx_any (c : UInt8) (w : World) : Calls Tryz.prog 119 #[.string ⟨#[48, 49, 50, 51, 52, 53, 54, 55, 56, 57, 97, 98, 99, 100, 101, 102]⟩, .int .u8 c.toNat] w fun e w' => e = .returned (.int .i64 (hexV c)) ∧ w = w' := by
  refine (Tryz.strings_IndexByte hexDigits (c.toNat : Int) w).mono ?_
  rintro e w' ⟨rfl, rfl⟩
  refine ⟨?_, rfl⟩
  have : ((c.toNat : Int)).toNat.toUInt8 = c := by
    rw [Int.toNat_natCast]; exact UInt8.ofNat_toNat
  rw [this, hexV_index]
theorem or_hex {a b : Int} (h : (-1 ≤ a ∧ a < 16) ∧ (-1 ≤ b ∧ b < 16) ∧ ¬ a < 0 ∧ ¬ b < 0) : bits .or .i64 (a * 16) b = 16 * a + b := by
  have : ∀ a b : Fin 16, bits .or .i64 ((a.val : Int) * 16) (b.val : Int) = 16 * (a.val : Int) + (b.val : Int) := by decide +kernel
  have h2 := this ⟨a.toNat, by omega⟩ ⟨b.toNat, by omega⟩
  simp only at h2
  rwa [Int.toNat_of_nonneg (by omega), Int.toNat_of_nonneg (by omega)] at h2
set_option maxHeartbeats 4000000 in
theorem readHex_any (s : ByteArray) (w : World) (hs : s.size ≤ 1048576) :
    Calls Tryz.prog 81 #[.string s] w fun e w' => HXPost s w e w' := by
  by_cases hev : s.size % 2 = 0
  rotate_left
  · have hrem : (s.size : Int).tmod 2 = 1 := by rw [Int.tmod_eq_emod_of_nonneg (by omega)]; omega
    replace hev := Lib.hid hev
    go_enter Tryz.func81, Tryz.ntmps81
    go_wp2_with fail
    go_ret2
    refine ⟨⟨#[]⟩, false, rfl, Nat.zero_le _, fun l hl => ?_, Below.refl _ _⟩
    have h1 := congrArg List.length hl
    rw [hexT_length] at h1
    have h2 : s.data.toList.length = s.size := by simp
    have := hev.out
    omega
  have hrem : (s.size : Int).tmod 2 = 0 := by rw [Int.tmod_eq_emod_of_nonneg (by omega)]; omega
  obtain ⟨N, hN⟩ : ∃ N, s.size = 2 * N := ⟨s.size / 2, by omega⟩
  have hdiv : (s.size : Int).tdiv 2 = (N : Int) := by rw [Int.tdiv_eq_ediv_of_nonneg (by omega)]; omega
  have hwN : wrap64 (N : Int) = (N : Int) := IntWalk.wrap64_in _ (by omega)
  replace hN := Lib.hid hN
  clear hev
  go_enter Tryz.func81, Tryz.ntmps81
  obtain ⟨i0, hi0, hz0, hs0, hby0⟩ := info_parts (show (Tryz.prog.info? 5).map (fun i => (i.zero, i.size, i.bytes)) = some (some (.int .u8 0), 1, 1) by kernel_rfl)
  go_wp2_with (at_make; refine wpList_make_own _ rfl _ _ 41 rfl w.heap.size 5 i0 (.int .u8 0) 1 Tryz.underlying41 hi0 hz0 hs0 .i64 .i64 _ N rfl rfl (by first | rfl | (push_cast; rfl) | omega) (by rw [hby0]; have := hN.out; omega) (by unfold maxLen; have := hN.out; omega) (Nat.le_refl _) ?_; intro w0 hown0 hg0)
  have hb0 : Below w.heap.size w w0 := (Below.refl _ _).grown hg0 (Nat.le_refl _) (by simp)
  clear hg0 hi0 hz0 hs0 hby0
  go_loopw [4, 5] (fun out i wr => ∃ (k : Nat) (A : Option Addr) (c : Nat) (ds : List UInt8), i = .int .i64 (2 * (k : Int)) ∧ 2 * k ≤ s.size ∧ ds.length = k ∧ out = .slice A k c ∧ wr.ownsRow w.heap.size 5 1 (.slice A k c) k (byteV ds) ∧ (∀ l, s.data.toList = hexT l → ds = l.take k) ∧ Below w.heap.size w wr) (fun out i wr => s.size - (intOf i).toNat)
  case atStart => exact ⟨0, some ⟨w.heap.size, 0, none⟩, N, [], rfl, by omega, rfl, rfl, hown0, fun l _ => by simp, hb0⟩
  case round =>
    clear hown0 hb0
    obtain ⟨k, A, c, ds, rfl, hk, hds, rfl, hrow, hc, hbel⟩ := hrel
    have hNn := hN.out
    replace hds := Lib.hid hds
    by_cases hlt : 2 * k < s.size
    · have hlt1 : 2 * k + 1 < s.size := by omega
      have hti : 2 * (k : Int) < (s.size : Int) := by omega
      have hti1 : 2 * (k : Int) + 1 < (s.size : Int) := by omega
      have hti0 : 0 ≤ 2 * (k : Int) ∧ 0 ≤ 2 * (k : Int) + 1 := by omega
      have hw1 : IntKind.i64.wrap (2 * (k : Int) + 1) = 2 * (k : Int) + 1 := IntWalk.i64_in _ (by omega)
      have hn0 : (2 * (k : Int)).toNat = 2 * k := by omega
      have hn1 : (2 * (k : Int) + 1).toNat = 2 * k + 1 := by omega
      have ha := hexV_bd (s[2 * k]'(by omega))
      have hb := hexV_bd s[2 * k + 1]
      have hgt := Lib.hid (fun l h => hex_get (l := l) h hlt1)
      obtain ⟨a, hea⟩ : ∃ a, a = hexV (s[2 * k]'(by omega)) := ⟨_, rfl⟩
      obtain ⟨b, heb⟩ : ∃ b, b = hexV s[2 * k + 1] := ⟨_, rfl⟩
      rw [← hea] at ha
      rw [← heb] at hb
      have hI0 := Lib.hid (fun W => idx_any (s[2 * k]'(by omega)) W)
      have hI1 := Lib.hid (fun W => idx_any s[2 * k + 1] W)
      rw [← hea] at hI0
      rw [← heb] at hI1
      replace hea := Lib.hid hea
      replace heb := Lib.hid heb
      clear hNn
      by_cases h1 : a < 0
      · go_wp2_with fail
        go_region_law (first | (go_simp; go_at_call 119; (first | (with_reducible refine (hI0.out _).mono ?_) | (with_reducible refine (hI1.out _).mono ?_)); rintro e w1 ⟨rfl, rfl⟩; dsimp only))
        all_goals
          go_wp2_with fail
          go_ret2
          exact ⟨⟨#[]⟩, false, rfl, Nat.zero_le _, fun l hl => by obtain ⟨x, _, e1, _⟩ := hgt.out l hl; rw [← hea.out] at e1; omega, hbel.drew⟩
      by_cases h2 : b < 0
      · go_wp2_with fail
        go_region_law (first | (go_simp; go_at_call 119; (first | (with_reducible refine (hI0.out _).mono ?_) | (with_reducible refine (hI1.out _).mono ?_)); rintro e w1 ⟨rfl, rfl⟩; dsimp only))
        all_goals
          go_wp2_with fail
          go_ret2
          exact ⟨⟨#[]⟩, false, rfl, Nat.zero_le _, fun l hl => by obtain ⟨x, _, _, e1⟩ := hgt.out l hl; rw [← heb.out] at e1; omega, hbel.drew⟩
      obtain ⟨y, hy⟩ : ∃ y : UInt8, (y.toNat : Int) = 16 * a + b := ⟨UInt8.ofNat (16 * a + b).toNat, by rw [UInt8.toNat_ofNat']; omega⟩
      have hor : bits .or .i64 (a * 16) b = (y.toNat : Int) := by rw [or_hex ⟨ha, hb, h1, h2⟩, hy]
      have hmod : (y.toNat : Int) % 256 = (y.toNat : Int) := by omega
      have hyl : Hid (∀ l, s.data.toList = hexT l → ds ++ [y] = l.take (k + 1)) := fun l hl => by
        obtain ⟨x, h5, e1, e2⟩ := hgt.out l hl
        rw [← hea.out] at e1
        rw [← heb.out] at e2
        have hxy : y = x := UInt8.toNat_inj.1 (by omega)
        rw [hc l hl, hxy, List.take_add_one, h5]; rfl
      replace hy := Lib.hid hy
      replace hc := Lib.hid hc
      replace hrow := Lib.hid hrow
      clear hgt
      go_wp2_with fail
      go_region_law (first | (go_simp; go_at_call 119; (first | (with_reducible refine (hI0.out _).mono ?_) | (with_reducible refine (hI1.out _).mono ?_)); rintro e w1 ⟨rfl, rfl⟩; dsimp only))
      all_goals
        go_wp2_with (at_builtin; refine wpAppAt rfl (.tmp 37) (.tmp 43) elemU8 rfl (v := .slice A k c) (n := k) (xs := byteV ds) rfl ((World.ownsRow.drew hrow.out).alloc _) rfl (src_at (cs := [.int .u8 y.toNat]) rfl (by simp [Value.oneCell']) rfl) (by omega) (by omega) (by have := hbel.size; simp; omega) (k + 1) rfl ?_; intro A5 c5 w5 ho5 hg5 _; replace ho5 := Lib.hid ho5; replace hg5 := Lib.hid hg5)
        go_roundw
        case rel =>
          refine ⟨k + 1, A5, c5, ds ++ [y], by go_num, by omega, by have := hds.out; simp; omega, rfl, ?_, hyl.out, ?_⟩
          · rw [byteV_append]; exact ho5.out
          · exact (hbel.drew.alloc (by simpa using hbel.size) _).grown hg5.out (by have := hbel.size; simp; omega) (fun g hgk => (hrow.out.lt g hgk).1)
        case measure => simp [intOf]; omega
    · have hti : ¬ 2 * (k : Int) < (s.size : Int) := by omega
      have hsz : ds.length ≤ s.size := by have := hds.out; omega
      have hll : Hid (∀ l, s.data.toList = hexT l → ds = l) := fun l hl => by
        have h1 := congrArg List.length hl
        rw [hexT_length] at h1
        have h2 : s.data.toList.length = s.size := by simp
        rw [hc l hl, List.take_of_length_le (by omega)]
      have kr := run_bytes_str (P := Tryz.prog) (src := 41) (dst := 9) (w := wr) (c := c) Tryz.underlying41 Tryz.underlying5 Tryz.underlying9 (src_own hrow (byteV_one _)) (by
        intro hA; subst hA
        rcases Nat.eq_zero_or_pos k with h0 | h0
        · exact h0
        · obtain ⟨g, hg, _⟩ := own_at hrow (by omega)
          cases hg)
      clear hc hrow hNn
      go_wp2_with fail
      go_ret2
      exact ⟨⟨ds.toArray⟩, true, rfl, hsz, fun l hl => ⟨rfl, by simpa using hll.out l hl⟩, hbel⟩
end Go.Proofs.YtgdkabljgabjoaaGreatDoor

/- The number that digits say: plain facts. No program in sight. Conditions: none. -/
namespace Go.Proofs.YtgdkabljgabjoaaGreatDoor
open Go.RowKit
set_option linter.unusedVariables false
set_option maxRecDepth 100000

def isDig (c : UInt8) : Bool := decide (48 ≤ c.toNat) && decide (c.toNat ≤ 57)
/-- the number of digits, from a on -/
def valF (a : Nat) (l : List UInt8) : Nat := l.foldl (fun a c => 10 * a + (c.toNat - 48)) a
def val (l : List UInt8) : Nat := valF 0 l
theorem val_snoc (l : List UInt8) (c : UInt8) : val (l ++ [c]) = 10 * val l + (c.toNat - 48) := by simp [val, valF, List.foldl_append]
theorem valF_lt : ∀ (l : List UInt8) (a : Nat), l.all isDig = true → valF a l < (a + 1) * 10 ^ l.length := by
  intro l
  induction l with
  | nil => intro a _; simp [valF]
  | cons c l ih =>
    intro a h
    rw [List.all_cons, Bool.and_eq_true] at h
    have h2 : c.toNat ≤ 57 := by have := h.1; simp [isDig] at this; omega
    have h1 := ih (10 * a + (c.toNat - 48)) h.2
    have h3 : (10 * a + (c.toNat - 48) + 1) * 10 ^ l.length ≤ (10 * a + 10) * 10 ^ l.length := Nat.mul_le_mul_right _ (by omega)
    have h4 : (a + 1) * 10 ^ (l.length + 1) = (10 * a + 10) * 10 ^ l.length := by rw [Nat.pow_succ]; grind
    show valF (10 * a + (c.toNat - 48)) l < (a + 1) * 10 ^ (l.length + 1)
    omega
theorem val_lt (l : List UInt8) (h : l.all isDig = true) : val l < 10 ^ l.length := by
  have := valF_lt l 0 h
  simpa [val] using this
theorem digs_digits : ∀ (f n : Nat), n ≤ f → (digs n).all isDig = true := by
  intro f
  induction f with
  | zero => intro n h; obtain rfl : n = 0 := by omega
            rfl
  | succ f ih =>
    intro n h
    by_cases h0 : n = 0
    · subst h0; rfl
    · rw [digs_step h0, List.all_append, ih (n / 10) (by omega)]
      have : (UInt8.ofNat (48 + n % 10)).toNat = 48 + n % 10 := by rw [UInt8.toNat_ofNat']; omega
      simp only [List.all_cons, List.all_nil, isDig, this, Bool.and_true, Bool.true_and, Bool.and_eq_true, decide_eq_true_eq]
      omega
theorem digs_val : ∀ (f n : Nat), n ≤ f → val (digs n) = n := by
  intro f
  induction f with
  | zero => intro n h; obtain rfl : n = 0 := by omega
            rfl
  | succ f ih =>
    intro n h
    by_cases h0 : n = 0
    · subst h0; rfl
    · rw [digs_step h0, val_snoc, ih (n / 10) (by omega)]
      have : (UInt8.ofNat (48 + n % 10)).toNat = 48 + n % 10 := by rw [UInt8.toNat_ofNat']; omega
      rw [this]; omega
theorem dec1_digits (n : Nat) : (dec1 n).all isDig = true := by
  unfold dec1; split
  · rfl
  · exact digs_digits n n (Nat.le_refl _)
theorem dec1_val (n : Nat) : val (dec1 n) = n := by
  unfold dec1; split
  · rename_i h; subst h; rfl
  · exact digs_val n n (Nat.le_refl _)
theorem dec1_ne (n : Nat) : dec1 n ≠ [] := by
  unfold dec1; split
  · simp
  · exact digs_ne ‹_›
theorem dec1_len18 {n : Nat} (h : n < 10 ^ 18) : (dec1 n).length ≤ 18 := by
  unfold dec1; split
  · simp
  · exact digs_len 18 n h
theorem dec1_head (n : Nat) : (dec1 n).head? ≠ some 45 := by
  have h := dec1_digits n
  cases hd : dec1 n with
  | nil => simp
  | cons c l =>
    rw [hd] at h
    simp [isDig] at h
    intro e
    simp at e
    subst e
    have := h.1.1
    simp at this

/-- s is the decimal form of n, of 18 digits at most -/
def IsDec (s : ByteArray) (n : Int) : Prop := s = decS n ∧ n.natAbs < 10 ^ 18
theorem decS_inj_list {a b : Int} (h : decS a = decS b) : decL a = decL b := by
  unfold decS at h
  injection h with h
  simpa using h
theorem decL_neg {n : Int} (h : n < 0) : decL n = 45 :: dec1 n.natAbs := by simp [decL, h]
theorem decL_pos {n : Int} (h : 0 ≤ n) : decL n = dec1 n.natAbs := by unfold decL; rw [if_neg (by omega)]; rfl
theorem IsDec.unique {s : ByteArray} {a b : Int} (ha : IsDec s a) (hb : IsDec s b) : a = b := by
  have h := decS_inj_list (ha.1.symm.trans hb.1)
  rcases Int.lt_or_le a 0 with h1 | h1 <;> rcases Int.lt_or_le b 0 with h2 | h2
  · rw [decL_neg h1, decL_neg h2] at h
    injection h with _ h
    have := congrArg val h
    rw [dec1_val, dec1_val] at this
    omega
  · rw [decL_neg h1, decL_pos h2] at h
    exact absurd (by rw [← h]; rfl) (dec1_head b.natAbs)
  · rw [decL_pos h1, decL_neg h2] at h
    exact absurd (by rw [h]; rfl) (dec1_head a.natAbs)
  · rw [decL_pos h1, decL_pos h2] at h
    have := congrArg val h
    rw [dec1_val, dec1_val] at this
    omega
end Go.Proofs.YtgdkabljgabjoaaGreatDoor

