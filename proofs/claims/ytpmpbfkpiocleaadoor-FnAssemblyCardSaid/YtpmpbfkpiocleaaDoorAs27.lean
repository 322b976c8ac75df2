/- The decimal digits of a number: plain facts. No program in sight. Conditions: none. -/
import Derived.BigQuiet
import Derived.Outline
import Derived.Test.YtpmpbfkpiocleaaDoorAs01
import Derived.Test.YtpmpbfkpiocleaaDoorProg
namespace Go.Proofs.YtpmpbfkpiocleaaDoor
open Go.RowKit
set_option linter.unusedVariables false
set_option maxRecDepth 100000

/-- the digits of a number, none of 0 -/
def digsF : Nat → Nat → List UInt8
  | 0, _ => []
  | f + 1, n => if n = 0 then [] else digsF f (n / 10) ++ [UInt8.ofNat (48 + n % 10)]
def digs (n : Nat) : List UInt8 := digsF n n

theorem digsF_enough : ∀ (f g n : Nat), n ≤ f → n ≤ g → digsF f n = digsF g n := by
  intro f
  induction f with
  | zero =>
    intro g n h _
    have : n = 0 := by omega
    subst this
    cases g <;> simp [digsF]
  | succ f ih =>
    intro g n h h'
    cases g with
    | zero =>
      have : n = 0 := by omega
      subst this
      simp [digsF]
    | succ g =>
      simp only [digsF]
      split
      · rfl
      · rw [ih g (n / 10) (by omega) (by omega)]
theorem digs_zero : digs 0 = [] := rfl
theorem digs_step {n : Nat} (h : n ≠ 0) : digs n = digs (n / 10) ++ [UInt8.ofNat (48 + n % 10)] := by
  unfold digs
  cases n with
  | zero => exact absurd rfl h
  | succ n =>
    simp only [digsF, Nat.add_eq_zero_iff, Nat.succ_ne_self, and_false, if_false]
    rw [digsF_enough n ((n + 1) / 10) ((n + 1) / 10) (by omega) (Nat.le_refl _)]
theorem digs_len : ∀ (f n : Nat), n < 10 ^ f → (digs n).length ≤ f := by
  intro f
  induction f with
  | zero => intro n h; have : n = 0 := by simpa using h
            subst this; simp [digs_zero]
  | succ f ih =>
    intro n h
    by_cases h0 : n = 0
    · subst h0; simp [digs_zero]
    · rw [digs_step h0]
      have := ih (n / 10) (by rw [Nat.pow_succ] at h; omega)
      simp; omega
theorem digs_len19 {n : Nat} (h : n ≤ 9223372036854775808) : (digs n).length ≤ 19 := digs_len 19 n (by omega)
theorem digs_ne {n : Nat} (h : n ≠ 0) : digs n ≠ [] := by rw [digs_step h]; simp

/-- the decimal form -/
def dec1 (n : Nat) : List UInt8 := if n = 0 then [48] else digs n
def decL (n : Int) : List UInt8 := (if n < 0 then [45] else []) ++ dec1 n.natAbs
def decS (n : Int) : ByteArray := ⟨(decL n).toArray⟩
theorem dec1_len {n : Nat} (h : n ≤ 9223372036854775808) : (dec1 n).length ≤ 19 := by
  unfold dec1; split
  · simp
  · exact digs_len19 h
theorem decL_len {n : Int} (h1 : -9223372036854775808 ≤ n) (h2 : n ≤ 9223372036854775807) : (decL n).length ≤ 20 := by
  unfold decL
  have := dec1_len (n := n.natAbs) (by omega)
  rw [List.length_append]
  split <;> simp <;> omega

end Go.Proofs.YtpmpbfkpiocleaaDoor

/- Contracts of the functions that give a number in decimal. Conditions: as each states. -/
namespace Go.Proofs.YtpmpbfkpiocleaaDoor
open Go.RowKit
set_option linter.unusedVariables false
set_option maxRecDepth 100000

theorem elemU8 : Elem Tryd.prog 22 5 1 1 := elem_mk (z := .int .u8 0) Tryd.underlying22 (by kernel_rfl) rfl (by omega)

/-- the buffer of the digits: from p on it holds ds -/
def DBuf (w : World) (B p : Nat) (ds : List UInt8) : Prop := ∃ cs : List Value, w.heap[B]? = some (.cells cs.toArray 89 (0, 0)) ∧ cs.length = 20 ∧ p + ds.length = 20 ∧ cs.drop p = byteV ds
theorem DBuf.le {w : World} {B p : Nat} {ds : List UInt8} (h : DBuf w B p ds) : p ≤ 20 := by obtain ⟨_, _, _, h, _⟩ := h; omega
theorem DBuf.len {w : World} {B p : Nat} {ds : List UInt8} (h : DBuf w B p ds) : p + ds.length = 20 := by obtain ⟨_, _, _, h, _⟩ := h; omega
theorem DBuf.cell {w : World} {B p : Nat} {ds : List UInt8} (h : DBuf w B p ds) (q : Nat) (hq : q < 20) : ∃ v, w.cell? ⟨B, q, none⟩ = some v := by
  obtain ⟨cs, h1, h2, _, _⟩ := h
  exact ⟨cs[q], by rw [cell_of_row _ _ _ _ _ _ h1]; simp [h2, hq]⟩
theorem DBuf.frozen {w : World} {B p : Nat} {ds : List UInt8} (h : DBuf w B p ds) (q : Nat) : w.frozen? ⟨B, q, none⟩ = false := by
  obtain ⟨cs, h1, h2, _, _⟩ := h
  simp [World.frozen?, h1]
theorem dbuf_new (w : World) : DBuf (w.alloc (.cells #[.int .u8 0, .int .u8 0, .int .u8 0, .int .u8 0, .int .u8 0, .int .u8 0, .int .u8 0, .int .u8 0, .int .u8 0, .int .u8 0, .int .u8 0, .int .u8 0, .int .u8 0, .int .u8 0, .int .u8 0, .int .u8 0, .int .u8 0, .int .u8 0, .int .u8 0, .int .u8 0] 89)) w.heap.size 20 [] :=
  ⟨_, heap_alloc_new w _, rfl, rfl, rfl⟩
theorem DBuf.set {w : World} {B q : Nat} {ds : List UInt8} (h : DBuf w B (q + 1) ds) (c : UInt8) : DBuf (w.setCell ⟨B, q, none⟩ (.int .u8 c.toNat)) B q (c :: ds) := by
  obtain ⟨cs, h1, h2, h3, h4⟩ := h
  refine ⟨cs.set q (.int .u8 c.toNat), ?_, by simp [h2], by simp; omega, ?_⟩
  · simp [World.setCell, Array.getElem?_modify, h1]
  · rw [List.drop_eq_getElem_cons (by simp; omega)]
    simp only [List.getElem_set_self, byteV, List.map_cons]
    congr 1
    rw [List.drop_set_of_lt (by omega), h4]; rfl

theorem DBuf.src {w : World} {B p : Nat} {ds : List UInt8} (h : DBuf w B p ds) : Src w 1 (some ⟨B, p, none⟩) (20 - p) (byteV ds) := by
  obtain ⟨cs, h1, h2, h3, h4⟩ := h
  refine ⟨by simp; omega, byteV_one ds, fun _ => ⟨_, rfl, fun j u hu => ?_⟩⟩
  have : (⟨B, p, none⟩ : Addr).add j = ⟨B, p + j, none⟩ := by unfold Addr.add; split <;> simp_all
  rw [this, cell_of_row _ _ _ _ _ _ h1]
  rw [← h4, List.getElem?_drop] at hu
  simpa using hu
theorem run_sliceDig (B q : Nat) (hq : q < 20) (W : World) : (Instr.sliceAt 89 (.pointer (some ⟨B, 0, none⟩)) (some (.int .i64 (q : Int))) none none).run Tryd.prog W = .ok (.slice (some ⟨B, q, none⟩) (20 - q) (20 - q)) W := by
  have e : Tryd.prog.arrayLen 89 = 20 := by kernel_rfl
  have e2 : ∀ W, (sizeOf (Tryd.prog.elem 89)).run Tryd.prog W = .ok 1 W := fun W => by kernel_rfl
  rw [run_sliceAt_array_l (P := Tryd.prog) W 89 ⟨B, 0, none⟩ (by kernel_rfl) .i64 q (by omega) (by rw [e]; omega), e2, e]
  simp only [Result.andThen, slicedAt, Int.toNat_natCast, Addr.add]
  rw [if_neg (by omega)]
  by_cases h0 : q = 0
  · subst h0; simp
  · simp [h0]
theorem run_digStr {W : World} {B q : Nat} {ds : List UInt8} (hd : DBuf W B q ds) : (convert 22 9 (.slice (some ⟨B, q, none⟩) (20 - q) (20 - q))).run Tryd.prog W = .ok (.string ⟨ds.toArray⟩) W :=
  run_bytes_str (P := Tryd.prog) (src := 22) (dst := 9) Tryd.underlying22 Tryd.underlying5 Tryd.underlying9 hd.src (by intro h; cases h)

theorem u64_neg {n : Int} (h1 : -9223372036854775808 ≤ n) (h2 : n < 0) : IntKind.u64.wrap (-IntKind.u64.wrap n) = ((n.natAbs : Nat) : Int) := by
  simp only [IntKind.wrap, IntKind.signed, IntKind.bits]
  simp
  omega

theorem implDec_any (n : Int) (w : World) (h1 : -9223372036854775808 ≤ n) (h2 : n ≤ 9223372036854775807) :
    Calls Tryd.prog 34 #[.int .i64 n] w fun e w' => e = .returned (.string (decS n)) ∧ Below w.heap.size w w' := by
  by_cases hneg : n < 0
  · go_enter Tryd.func34, Tryd.ntmps34
    go_wp2
    go_loopw [4, 5] (fun at_ u wr => ∃ (x : Nat) (ds : List UInt8) (p : Nat), at_ = .int .i64 p ∧ u = .int .u64 x ∧ x ≤ 9223372036854775808 ∧ DBuf wr w.heap.size p ds ∧ (x ≠ 0 ∧ digs x ++ ds = dec1 n.natAbs ∨ x = 0 ∧ ds = [] ∧ dec1 n.natAbs = [48]) ∧ Below w.heap.size w wr) (fun at_ u wr => (intOf at_).toNat)
    case atStart =>
      refine ⟨n.natAbs, [], 20, rfl, by rw [u64_neg h1 hneg], by omega, dbuf_new w, ?_, (Below.refl _ _).alloc (Nat.le_refl _) _⟩
      by_cases h0 : n.natAbs = 0
      · right; exact ⟨h0, rfl, by rw [h0]; rfl⟩
      · left; exact ⟨h0, by unfold dec1; rw [if_neg h0]; simp⟩
    case round =>
      obtain ⟨x, ds, p, rfl, rfl, hx, hbuf, hinv, hbel⟩ := hrel
      have hp : p ≤ 20 := hbuf.le
      have hp0 : 1 ≤ p := by
        have h := hbuf.len
        have h2 : ds.length + 1 ≤ 19 ∨ ds.length = 0 := by
          rcases hinv with ⟨h0, hd⟩ | ⟨_, rfl, _⟩
          · have h3 := dec1_len (n := n.natAbs) (by omega)
            have h4 : 0 < (digs x).length := List.length_pos_iff.2 (digs_ne h0)
            rw [← hd, List.length_append] at h3
            left; omega
          · right; rfl
        omega
      obtain ⟨q, rfl⟩ : ∃ q, p = q + 1 := ⟨p - 1, by omega⟩
      obtain ⟨vold, hcell⟩ := hbuf.cell q (by omega)
      have hfr := hbuf.frozen q
      have hset := hbuf.set (UInt8.ofNat (48 + x % 10))
      have h8 : ((UInt8.ofNat (48 + x % 10)).toNat : Int) = 48 + (x : Int) % 10 := by rw [UInt8.toNat_ofNat']; omega
      rw [h8] at hset
      replace hset := Lib.hid hset
      clear h8
      replace hinv := Lib.hid hinv
      have hlenq := hbuf.len
      by_cases hx10 : x < 10
      · have ht : ((x : Int) / 10 == 0) = true := by simp; omega
        have hfin : UInt8.ofNat (48 + x % 10) :: ds = dec1 n.natAbs := by
          rcases hinv.out with ⟨h0, hd⟩ | ⟨rfl, rfl, hd⟩
          · rw [← hd, digs_step h0, show x / 10 = 0 by omega]; rfl
          · rw [hd]; rfl
        replace hfin := Lib.hid hfin
        have hl19 : ds.length + 1 ≤ 19 := by
          have h3 := dec1_len (n := n.natAbs) (by omega)
          rw [← hfin.out] at h3
          simpa using h3
        obtain ⟨r, rfl⟩ : ∃ r, q = r + 1 := ⟨q - 1, by omega⟩
        obtain ⟨vold2, hcell2⟩ := hbuf.cell r (by omega)
        have hfr2 := hbuf.frozen r
        have hsl := run_sliceDig w.heap.size r (by omega)
        have hstr := run_digStr (hset.out.set 45)
        have hof : ((45 : UInt8).toNat : Int) = 45 := rfl
        rw [hof] at hstr
        clear hof
        go_wp2
        go_ret
        refine ⟨ret_string ?_, (hbel.setCell (Nat.le_refl _) _).setCell (Nat.le_refl _) _⟩
        unfold decS decL
        rw [if_pos (by omega), ← hfin.out]; simp
      · have ht : ((x : Int) / 10 == 0) = false := by simp; omega
        go_wp2
        go_roundw
        case rel =>
          refine ⟨x / 10, UInt8.ofNat (48 + x % 10) :: ds, q, rfl, by go_num, by omega, hset.out, ?_, hbel.setCell (Nat.le_refl _) _⟩
          rcases hinv.out with ⟨h0, hd⟩ | ⟨h0, _⟩
          · left; exact ⟨by omega, by rw [← hd, digs_step h0]; simp⟩
          · omega
        case measure => simp [intOf] <;> omega
  · go_enter Tryd.func34, Tryd.ntmps34
    go_wp2
    go_loopw [4, 5] (fun at_ u wr => ∃ (x : Nat) (ds : List UInt8) (p : Nat), at_ = .int .i64 p ∧ u = .int .u64 x ∧ x ≤ 9223372036854775808 ∧ DBuf wr w.heap.size p ds ∧ (x ≠ 0 ∧ digs x ++ ds = dec1 n.natAbs ∨ x = 0 ∧ ds = [] ∧ dec1 n.natAbs = [48]) ∧ Below w.heap.size w wr) (fun at_ u wr => (intOf at_).toNat)
    case atStart =>
      refine ⟨n.natAbs, [], 20, rfl, by go_num, by omega, dbuf_new w, ?_, (Below.refl _ _).alloc (Nat.le_refl _) _⟩
      by_cases h0 : n.natAbs = 0
      · right; exact ⟨h0, rfl, by rw [h0]; rfl⟩
      · left; exact ⟨h0, by unfold dec1; rw [if_neg h0]; simp⟩
    case round =>
      obtain ⟨x, ds, p, rfl, rfl, hx, hbuf, hinv, hbel⟩ := hrel
      have hp : p ≤ 20 := hbuf.le
      have hp0 : 1 ≤ p := by
        have h := hbuf.len
        have h2 : ds.length + 1 ≤ 19 ∨ ds.length = 0 := by
          rcases hinv with ⟨h0, hd⟩ | ⟨_, rfl, _⟩
          · have h3 := dec1_len (n := n.natAbs) (by omega)
            have h4 : 0 < (digs x).length := List.length_pos_iff.2 (digs_ne h0)
            rw [← hd, List.length_append] at h3
            left; omega
          · right; rfl
        omega
      obtain ⟨q, rfl⟩ : ∃ q, p = q + 1 := ⟨p - 1, by omega⟩
      obtain ⟨vold, hcell⟩ := hbuf.cell q (by omega)
      have hfr := hbuf.frozen q
      have hset := hbuf.set (UInt8.ofNat (48 + x % 10))
      have h8 : ((UInt8.ofNat (48 + x % 10)).toNat : Int) = 48 + (x : Int) % 10 := by rw [UInt8.toNat_ofNat']; omega
      rw [h8] at hset
      replace hset := Lib.hid hset
      clear h8
      replace hinv := Lib.hid hinv
      have hlenq := hbuf.len
      by_cases hx10 : x < 10
      · have ht : ((x : Int) / 10 == 0) = true := by simp; omega
        have hfin : UInt8.ofNat (48 + x % 10) :: ds = dec1 n.natAbs := by
          rcases hinv.out with ⟨h0, hd⟩ | ⟨rfl, rfl, hd⟩
          · rw [← hd, digs_step h0, show x / 10 = 0 by omega]; rfl
          · rw [hd]; rfl
        replace hfin := Lib.hid hfin
        have hsl := run_sliceDig w.heap.size q (by omega)
        have hstr := run_digStr hset.out
        go_wp2
        go_ret
        refine ⟨ret_string ?_, hbel.setCell (Nat.le_refl _) _⟩
        unfold decS decL
        rw [if_neg (by omega), ← hfin.out]; simp
      · have ht : ((x : Int) / 10 == 0) = false := by simp; omega
        go_wp2
        go_roundw
        case rel =>
          refine ⟨x / 10, UInt8.ofNat (48 + x % 10) :: ds, q, rfl, by go_num, by omega, hset.out, ?_, hbel.setCell (Nat.le_refl _) _⟩
          rcases hinv.out with ⟨h0, hd⟩ | ⟨h0, _⟩
          · left; exact ⟨by omega, by rw [← hd, digs_step h0]; simp⟩
          · omega
        case measure => simp [intOf] <;> omega
end Go.Proofs.YtpmpbfkpiocleaaDoor

