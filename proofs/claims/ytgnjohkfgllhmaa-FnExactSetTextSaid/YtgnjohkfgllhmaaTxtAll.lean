
import Derived.Lib.Join
import Derived.Lib.QuietBelow
import Derived.Deep.RegionHeld3
import Derived.BigRegion
import Derived.Test.YtgnjohkfgllhmaaGlB
import Derived.Test.YtgnjohkfgllhmaaSplit
import Derived.Test.YtgnjohkfgllhmaaDecP
import Derived.Test.YtgnjohkfgllhmaaDec
import Derived.Test.YtgnjohkfgllhmaaHinter
import Derived.Test.YtgnjohkfgllhmaaOutM
import Derived.Test.YtgnjohkfgllhmaaCopyW
import Derived.Test.YtgnjohkfgllhmaaBld
import Derived.Test.YtgnjohkfgllhmaaShelf
import Derived.Test.YtgnjohkfgllhmaaName
import Derived.Test.YtgnjohkfgllhmaaGl
import Derived.Test.YtgnjohkfgllhmaaValGS
import Derived.Test.YtgnjohkfgllhmaaRegT
import Derived.Test.YtgnjohkfgllhmaaValGI
import Derived.Test.YtgnjohkfgllhmaaOkS
import Derived.Test.YtgnjohkfgllhmaaOkI
/- The texts of points, loops and glyphs: plain facts. Conditions: as each states. -/
namespace Go.Proofs.Ytgnjohkfgllhmaa
open Go.RowKit
set_option linter.unusedVariables false
set_option maxRecDepth 100000

def ptT (x y : Int) : List UInt8 := decL x ++ ([44] ++ decL y)
def knotT (k : Knot) : List UInt8 := (if k.2.2 = true then [] else [126]) ++ ptT k.1 k.2.1
def loopT (K : List Knot) : List UInt8 := Lib.join (K.map knotT) [32]
def outT (Ls : List (List Knot)) : List UInt8 := Ls.flatMap fun K => loopT K ++ [10]
def hexD (n : Nat) : UInt8 := UInt8.ofNat (if n < 10 then 48 + n else 87 + n)
def hexT (l : List UInt8) : List UInt8 := l.flatMap fun b => [hexD (b.toNat / 16), hexD (b.toNat % 16)]
def headT (name : List UInt8) (code adv : Int) : List UInt8 := [103, 108, 121, 112, 104, 32] ++ name ++ [32] ++ decL code ++ [32] ++ decL adv ++ [10]
def loopL (K : List Knot) : List UInt8 := [108, 111, 111, 112, 32] ++ loopT K ++ [10]
def partL (p : Part) : List UInt8 := [112, 97, 114, 116, 32] ++ decL p.1 ++ [32] ++ ptT p.2.1 p.2.2 ++ [10]
def anchL (a : Anch) : List UInt8 := [97, 110, 99, 104, 111, 114, 32] ++ a.1.data.toList ++ [32] ++ ptT a.2.1 a.2.2 ++ [10]
def hintL (h : List UInt8) : List UInt8 := if h = [] then [] else [104, 105, 110, 116, 115, 32] ++ hexT h ++ [10]
def glyphT (g : Gl) : List UInt8 := headT g.name.data.toList g.code g.adv ++ g.out.flatMap loopL ++ g.parts.flatMap partL ++ g.anchors.flatMap anchL ++ hintL g.hints.data.toList ++ [101, 110, 100, 10]
def setT (s : GSet) : List UInt8 := [117, 110, 105, 116, 32] ++ decL s.unit ++ [10] ++ s.gl.flatMap glyphT

theorem join_snoc {l : List (List UInt8)} (h : l ≠ []) (a sep : List UInt8) : Lib.join (l ++ [a]) sep = Lib.join l sep ++ (sep ++ a) := by
  cases l with
  | nil => exact absurd rfl h
  | cons x r =>
    rw [List.cons_append, Lib.join_cons, Lib.join_cons]
    simp [Lib.joinTail, List.append_assoc]
theorem loopT_one (k : Knot) : loopT [k] = knotT k := by unfold loopT; simp [Lib.join_one]
theorem loopT_snoc {K : List Knot} (h : K ≠ []) (k : Knot) : loopT (K ++ [k]) = loopT K ++ ([32] ++ knotT k) := by
  unfold loopT
  rw [List.map_append, List.map_cons, List.map_nil, join_snoc (by simpa using h)]
theorem take_snoc {α : Type} {L : List α} {k : Nat} {a : α} (h : L[k]? = some a) : L.take (k + 1) = L.take k ++ [a] := by
  rw [List.take_add_one, h]; rfl
theorem flat_snoc {α β : Type} (f : α → List β) (L : List α) (a : α) : (L ++ [a]).flatMap f = L.flatMap f ++ f a := by simp
theorem flat_take {α β : Type} (f : α → List β) {L : List α} {k : Nat} {a : α} (h : L[k]? = some a) : (L.take (k + 1)).flatMap f = (L.take k).flatMap f ++ f a := by
  rw [take_snoc h, flat_snoc]

theorem dec1_dig {n : Nat} : ∀ c ∈ dec1 n, 48 ≤ c.toNat ∧ c.toNat ≤ 57 := by
  have go : ∀ f n, ∀ c ∈ digsF f n, 48 ≤ c.toNat ∧ c.toNat ≤ 57 := by
    intro f
    induction f with
    | zero => intro n c hc; simp [digsF] at hc
    | succ f ih =>
      intro n c hc
      unfold digsF at hc
      split at hc
      · simp at hc
      · rcases List.mem_append.1 hc with hc | hc
        · exact ih _ c hc
        · rw [List.mem_singleton] at hc
          subst hc
          have : (UInt8.ofNat (48 + n % 10)).toNat = 48 + n % 10 := by
            rw [UInt8.toNat_ofNat']; omega
          omega
  intro c hc
  unfold dec1 at hc
  split at hc
  · simp at hc; subst hc; decide
  · exact go _ _ c hc
theorem decL_no {n : Int} {b : UInt8} (h1 : b ≠ 45) (h2 : b.toNat < 48 ∨ 57 < b.toNat) : ∀ c ∈ decL n, c ≠ b := by
  intro c hc
  unfold decL at hc
  rcases List.mem_append.1 hc with hc | hc
  · split at hc
    · rw [List.mem_singleton] at hc; subst hc; exact fun e => h1 e.symm
    · simp at hc
  · have := dec1_dig c hc
    intro e; subst e; omega
theorem ptT_no {x y : Int} : ∀ c ∈ ptT x y, c ≠ 10 := by
  intro c hc
  unfold ptT at hc
  simp only [List.mem_append, List.mem_singleton] at hc
  rcases hc with hc | hc | hc
  · exact decL_no (by decide) (.inl (by decide)) c hc
  · subst hc; decide
  · exact decL_no (by decide) (.inl (by decide)) c hc
theorem knotT_no {k : Knot} : ∀ c ∈ knotT k, c ≠ 10 := by
  intro c hc
  unfold knotT at hc
  rcases List.mem_append.1 hc with hc | hc
  · split at hc
    · simp at hc
    · rw [List.mem_singleton] at hc; subst hc; decide
  · exact ptT_no c hc
theorem loopT_no {K : List Knot} : ∀ c ∈ loopT K, c ≠ 10 := by
  intro c hc
  unfold loopT at hc
  cases K with
  | nil => simp [Lib.join_nil] at hc
  | cons k K =>
    rw [List.map_cons, Lib.join_cons] at hc
    rcases List.mem_append.1 hc with hc | hc
    · exact knotT_no c hc
    · unfold Lib.joinTail at hc
      rw [List.mem_flatten] at hc
      obtain ⟨l, hl, hc⟩ := hc
      rw [List.mem_map] at hl
      obtain ⟨y, hy, rfl⟩ := hl
      rw [List.mem_map] at hy
      obtain ⟨k', _, rfl⟩ := hy
      rcases List.mem_append.1 hc with hc | hc
      · rw [List.mem_singleton] at hc; subst hc; decide
      · exact knotT_no c hc
theorem outT_split (Ls : List (List Knot)) : splitF 10 (outT Ls) = Ls.map loopT ++ [[]] := by
  induction Ls with
  | nil => exact splitF_last 10 [] (by simp)
  | cons K Ls ih =>
    have e : outT (K :: Ls) = loopT K ++ 10 :: outT Ls := by unfold outT; simp
    rw [e, splitF_hit 10 _ _ loopT_no, ih]; rfl

theorem decL_lenP {n : Int} (h : -262144 ≤ n ∧ n ≤ 262144) : (decL n).length ≤ 20 := decL_len (by omega) (by omega)
theorem ptT_len {x y : Int} (h : ptOk x y = true) : (ptT x y).length ≤ 41 := by
  obtain ⟨h1, h2⟩ := ptOk_iff.1 h
  have a := decL_lenP h1
  have b := decL_lenP h2
  unfold ptT; simp; omega
theorem knotT_len {k : Knot} (h : knotOk k = true) : (knotT k).length ≤ 42 := by
  have := ptT_len h
  unfold knotT; split <;> simp <;> omega
theorem tail_len {K : List Knot} (h : ∀ k ∈ K, knotOk k = true) : (Lib.joinTail [32] (K.map knotT)).length ≤ 43 * K.length := by
  induction K with
  | nil => simp [Lib.joinTail]
  | cons k K ih =>
    have a := ih (fun x hx => h x (List.mem_cons_of_mem _ hx))
    have b := knotT_len (h k (List.mem_cons_self ..))
    simp [Lib.joinTail] at a ⊢
    omega
theorem loopT_len {K : List Knot} (h : ∀ k ∈ K, knotOk k = true) : (loopT K).length ≤ 43 * K.length := by
  cases K with
  | nil => simp [loopT, Lib.join_nil]
  | cons k K =>
    have a := tail_len (fun x hx => h x (List.mem_cons_of_mem _ hx))
    have b := knotT_len (h k (List.mem_cons_self ..))
    unfold loopT
    rw [List.map_cons, Lib.join_cons]
    simp at a ⊢
    omega
theorem flat_len {α : Type} (f : α → List UInt8) (B : Nat) : ∀ (L : List α), (∀ a ∈ L, (f a).length ≤ B) → (L.flatMap f).length ≤ B * L.length := by
  intro L
  induction L with
  | nil => simp
  | cons a L ih =>
    intro h
    have h1 := ih (fun x hx => h x (List.mem_cons_of_mem _ hx))
    have h2 := h a (List.mem_cons_self ..)
    rw [List.flatMap_cons, List.length_append, List.length_cons, Nat.mul_add]
    omega
theorem loopOk_is {K : List Knot} (h : loopOk K = true) : K.length ≤ 60 ∧ 1 ≤ K.length ∧ ∀ k ∈ K, knotOk k = true := by
  unfold loopOk at h
  simp only [Bool.and_eq_true, inB_iff, List.all_eq_true] at h
  exact ⟨by omega, by omega, h.2⟩
theorem outOk_is {Ls : List (List Knot)} (h : outOk Ls = true) : Ls.length ≤ 12 ∧ ∀ K ∈ Ls, loopOk K = true := by
  unfold outOk at h
  simp only [Bool.and_eq_true, decide_eq_true_eq, List.all_eq_true] at h
  exact ⟨h.2, h.1⟩
theorem loopT_max {K : List Knot} (h : loopOk K = true) : (loopT K).length ≤ 2580 := by
  obtain ⟨h1, _, h3⟩ := loopOk_is h
  have := loopT_len h3
  omega
theorem outT_max {Ls : List (List Knot)} (h : outOk Ls = true) : (outT Ls).length ≤ 30972 := by
  obtain ⟨h1, h2⟩ := outOk_is h
  have := flat_len (fun K => loopT K ++ [10]) 2581 Ls (fun K hK => by have := loopT_max (h2 K hK); simp; omega)
  unfold outT
  omega
end Go.Proofs.Ytgnjohkfgllhmaa

/- The texts of points, both sides. Conditions: as each states. -/
namespace Go.Proofs.Ytgnjohkfgllhmaa
open Go.RowKit
set_option linter.unusedVariables false
set_option maxRecDepth 100000

theorem decS_sz {n : Int} (h1 : -9223372036854775808 ≤ n) (h2 : n ≤ 9223372036854775807) : (decS n).size ≤ 20 := by
  have := decL_len h1 h2
  simpa [decS, ByteArray.size] using this
def bS (l : List UInt8) : ByteArray := ⟨l.toArray⟩
theorem bS_size (l : List UInt8) : (bS l).size = l.length := rfl
theorem bS_app (a b : List UInt8) : bS a ++ bS b = bS (a ++ b) := by
  unfold bS; rw [ByteArray.mk_append_mk]
theorem bS_dec (n : Int) : decS n = bS (decL n) := rfl
theorem bS_of (s : ByteArray) : s = bS s.data.toList := by cases s; rfl
theorem pt_text (x y : Int) : (decS x ++ (⟨#[44]⟩ : ByteArray)) ++ decS y = bS (ptT x y) := by
  rw [bS_dec, bS_dec, show (⟨#[44]⟩ : ByteArray) = bS [44] from rfl, bS_app, bS_app]
  unfold ptT
  rw [List.append_assoc]

set_option maxHeartbeats 2000000 in
theorem l03Text_any (x y : Int) (hv : ptOk x y = true) (w : World) :
    Calls Try.prog 93 #[.agg #[.int .i64 x, .int .i64 y]] w fun e w' => e = .returned (.string (bS (ptT x y))) ∧ Below w.heap.size w w' := by
  obtain ⟨⟨h1, h2⟩, h3, h4⟩ := ptOk_iff.1 hv
  have hdx := decS_sz (n := x) (by omega) (by omega)
  have hdy := decS_sz (n := y) (by omega) (by omega)
  clear hv
  have hcN := Lib.hid (fun dr os => Calls.regrown_of (l01Dec_any x (Go.Sort.grow (redrawn (w.alloc (.cells #[.int .i64 x, .int .i64 y] 30 (0, 0))) dr) os) (by omega) (by omega)))
  have hcD := Lib.hid (fun dr os => Calls.regrown_of (l01Dec_any y (Go.Sort.grow (redrawn (w.alloc (.cells #[.int .i64 x, .int .i64 y] 30 (0, 0))) dr) os) (by omega) (by omega)))
  have k0 : ∀ dr os, (Go.Sort.grow (redrawn (w.alloc (.cells #[.int .i64 x, .int .i64 y] 30 (0, 0))) dr) os).cell? ⟨w.heap.size, 0, none⟩ = some (.int .i64 x) := cell_regrown (by rw [Go.Joins.cell_of_block (heap_alloc_new w _)]; rfl)
  have k1 : ∀ dr os, (Go.Sort.grow (redrawn (w.alloc (.cells #[.int .i64 x, .int .i64 y] 30 (0, 0))) dr) os).cell? ⟨w.heap.size, 1, none⟩ = some (.int .i64 y) := cell_regrown (by rw [Go.Joins.cell_of_block (heap_alloc_new w _)]; rfl)
  have hb0 : Below w.heap.size w (w.alloc (.cells #[.int .i64 x, .int .i64 y] 30 (0, 0))) := Go.Joins.below_alloc1 _ _
  have hz0 : w.heap.size < (w.alloc (.cells #[.int .i64 x, .int .i64 y] 30 (0, 0))).heap.size := by simp
  go_enter Try.func93, Try.ntmps93
  go_wp2_with fail
  generalize (w.alloc (.cells #[.int .i64 x, .int .i64 y] 30 (0, 0))) = W at *
  refine wp_region_quiet_below (by kernel_rfl) (by kernel_rfl) ?_
  repeat (go_big_quiet_step (first | (with_reducible exact hcN.out _ _) | (with_reducible exact hcD.out _ _)))
  refine wpQuiet_nil ?_
  intro _ hw'
  obtain ⟨⟨dq, osq⟩, hw''⟩ := hw'
  subst hw''
  have hb3 := hb0.trans ((below_regrown W dq osq).mono hb0.size)
  generalize Go.Sort.grow (redrawn W dq) osq = w1 at hb3 ⊢
  go_wp2_with fail
  go_ret
  exact ⟨ret_string (pt_text x y), hb3⟩
set_option maxHeartbeats 2000000 in
theorem ptText_any (x y : Int) (hv : ptOk x y = true) (w : World) :
    Calls Try.prog 52 #[.agg #[.int .i64 x, .int .i64 y]] w fun e w' => e = .returned (.string (bS (ptT x y))) ∧ Below w.heap.size w w' := by
  obtain ⟨⟨h1, h2⟩, h3, h4⟩ := ptOk_iff.1 hv
  have hdx := decS_sz (n := x) (by omega) (by omega)
  have hdy := decS_sz (n := y) (by omega) (by omega)
  have hvp := Lib.hid (validPt_any x y)
  rw [hv] at hvp
  clear hv
  have hb0 : Below w.heap.size w (w.alloc (.cells #[.int .i64 x, .int .i64 y] 30 (0, 0))) := Go.Joins.below_alloc1 _ _
  have HB := Lib.hid (heap_alloc_new w (.cells #[.int .i64 x, .int .i64 y] 30 (0, 0)))
  have hz0 : w.heap.size < (w.alloc (.cells #[.int .i64 x, .int .i64 y] 30 (0, 0))).heap.size := by simp
  go_enter Try.func52, Try.ntmps52
  go_wp2_with fail
  generalize (w.alloc (.cells #[.int .i64 x, .int .i64 y] 30 (0, 0))) = W at *
  refine (hvp.out W).mono ?_
  rintro e w1 ⟨rfl, hb1⟩
  have hB1 := hb0.trans (hb1.mono hb0.size)
  have HB1 := (hb1.block _ hz0).trans HB.out
  have hz1 : w.heap.size < w1.heap.size := by have := hb1.size; omega
  have hcN := Lib.hid (fun dr os => Calls.regrown_of (implDec_any x (Go.Sort.grow (redrawn w1 dr) os) (by omega) (by omega)))
  have hcD := Lib.hid (fun dr os => Calls.regrown_of (implDec_any y (Go.Sort.grow (redrawn w1 dr) os) (by omega) (by omega)))
  have k0 : ∀ dr os, (Go.Sort.grow (redrawn w1 dr) os).cell? ⟨w.heap.size, 0, none⟩ = some (.int .i64 x) := cell_regrown (by rw [Go.Joins.cell_of_block HB1]; rfl)
  have k1 : ∀ dr os, (Go.Sort.grow (redrawn w1 dr) os).cell? ⟨w.heap.size, 1, none⟩ = some (.int .i64 y) := cell_regrown (by rw [Go.Joins.cell_of_block HB1]; rfl)
  clear HB1 HB hvp hb1 hb0 hz0
  go_wp2_with fail
  refine wp_region_quiet_below (by kernel_rfl) (by kernel_rfl) ?_
  repeat (go_big_quiet_step (first | (with_reducible exact hcN.out _ _) | (with_reducible exact hcD.out _ _)))
  refine wpQuiet_nil ?_
  intro _ hw'
  obtain ⟨⟨dq, osq⟩, hw''⟩ := hw'
  subst hw''
  have hb3 := hB1.trans ((below_regrown w1 dq osq).mono hB1.size)
  generalize Go.Sort.grow (redrawn w1 dq) osq = w2 at hb3 ⊢
  go_wp2_with fail
  go_ret
  exact ⟨ret_string (pt_text x y), hb3⟩
end Go.Proofs.Ytgnjohkfgllhmaa

/- The text of an outline, the reference's. Conditions: as each states. -/
namespace Go.Proofs.Ytgnjohkfgllhmaa
open Go.RowKit
set_option linter.unusedVariables false
set_option maxRecDepth 100000

theorem mem_take {α : Type} {L : List α} {k : Nat} {a : α} (h : a ∈ L.take k) : a ∈ L := List.mem_of_mem_take h
theorem outT_snoc (Ls : List (List Knot)) (K : List Knot) : outT (Ls ++ [K]) = outT Ls ++ (loopT K ++ [10]) := flat_snoc _ _ _
theorem loopT_take_len {K : List Knot} (h : loopOk K = true) (q : Nat) : (loopT (K.take q)).length ≤ 2580 := by
  obtain ⟨h1, _, h3⟩ := loopOk_is h
  have := loopT_len (K := K.take q) (fun k hk => h3 k (mem_take hk))
  rw [List.length_take] at this
  omega
theorem outT_take_len {Ls : List (List Knot)} (h : outOk Ls = true) (k : Nat) : (outT (Ls.take k)).length ≤ 30972 := by
  obtain ⟨h1, h2⟩ := outOk_is h
  refine outT_max (Ls := Ls.take k) ?_
  unfold outOk
  simp only [Bool.and_eq_true, decide_eq_true_eq, List.all_eq_true]
  exact ⟨fun K hK => h2 K (mem_take hK), by rw [List.length_take]; omega⟩
theorem cat2 (es : ByteArray) (a b : List UInt8) : (es ++ bS a) ++ bS b = es ++ bS (a ++ b) := by rw [ByteArray.append_assoc, bS_app]
theorem cat3 (es : ByteArray) (a b c : List UInt8) : ((es ++ bS a) ++ bS b) ++ bS c = es ++ bS (a ++ (b ++ c)) := by rw [cat2, cat2]
theorem ptS_size {x y : Int} (h : ptOk x y = true) : (bS (ptT x y)).size ≤ 41 := ptT_len h

set_option maxHeartbeats 4000000 in
theorem l10Text_any (p o : Nat) (A : Option Addr) (n c lo hi : Nat) (Ls : List (List Knot)) (hv : outOk Ls = true) (w : World) (hp : p < w.heap.size) (hc : w.cell? ⟨p, o, none⟩ = some (.slice A n c)) (hr : OutRd w lo hi A n Ls) (hhi : hi ≤ w.heap.size) :
    Calls Try.prog 92 #[.pointer (some ⟨p, o, none⟩)] w fun e w' => e = .returned (.string (bS (outT Ls))) ∧ Below w.heap.size w w' := by
  have hll := hr.1
  obtain ⟨hn12, hKs⟩ := outOk_is hv
  have hn : n ≤ 12 := by omega
  replace hr := Lib.hid hr
  replace hKs := Lib.hid hKs
  have hlenk := Lib.hid (fun k => outT_take_len hv k)
  clear hv hn12
  go_enter Try.func92, Try.ntmps92
  go_wp2_with fail
  go_loopw [3, 4] (fun out i wr => ∃ (k : Nat) (ds : ByteArray), i = .int .i64 k ∧ k ≤ n ∧ out = .string ds ∧ ds = bS (outT (Ls.take k)) ∧ Below w.heap.size w wr) (fun out i wr => n - (intOf i).toNat)
  case atStart => exact ⟨0, _, rfl, Nat.zero_le _, rfl, rfl, Below.refl _ _⟩
  case round =>
    obtain ⟨k, ds, rfl, hk, rfl, hds, hbel⟩ := hrel
    have hdz : ds.size ≤ 30972 := by rw [hds]; exact hlenk.out k
    have hsz := hbel.size
    have c0 : wr.cell? ⟨p, o, none⟩ = some (.slice A n c) := (hbel.cell hp).trans hc
    have hpw : p < wr.heap.size := by omega
    replace hds := Lib.hid hds
    by_cases hlt : k < n
    · obtain ⟨b, off, K, A2, n2, c2, rfl, hb0, hb, hja, qk, hmx, hrk⟩ := out_at (hr.out.frame good_loop (Below.sameB hbel hhi)) hlt
      have hn2 := hrk.1
      subst hn2
      have hok := hKs.out K (List.mem_of_getElem? hja)
      obtain ⟨hK60, _, hkn⟩ := loopOk_is hok
      have hbw : b < wr.heap.size := by omega
      have hki : (k : Int) < (n : Int) := by omega
      have hlq := Lib.hid (loopT_take_len hok)
      replace hkn := Lib.hid hkn
      replace hrk := Lib.hid hrk
      replace hja := Lib.hid hja
      clear hmx hb0 hb hok
      obtain ⟨w5, hw5⟩ : ∃ v, v = wr := ⟨_, rfl⟩
      subst hw5
      go_wp2_with fail
      clear c0 hpw qk hbw
      go_loopw [3, 6] (fun out i wi => ∃ (q : Nat) (es : ByteArray), i = .int .i64 q ∧ q ≤ K.length ∧ out = .string es ∧ es = bS (outT (Ls.take k) ++ loopT (K.take q)) ∧ Below w5.heap.size w5 wi) (fun out i wi => K.length - (intOf i).toNat)
      case atStart => exact ⟨0, ds, rfl, Nat.zero_le _, rfl, by rw [hds.out]; simp [loopT, Lib.join_nil], Below.refl _ _⟩
      case round =>
        obtain ⟨q, es, rfl, hq, rfl, hes, hbi⟩ := hrel
        have hez : es.size ≤ 33600 := by
          rw [hes, bS_size, List.length_append]
          have := hlenk.out k
          have := hlq.out q
          omega
        have hsi := hbi.size
        replace hes := Lib.hid hes
        by_cases hql : q < K.length
        · obtain ⟨b2, off2, x, rfl, hb20, hb2h, hx, hcs⟩ := (hrk.out.frame (good_flat _) (Below.sameB hbi (by omega))).at hql
          have p0 := hcs 0 _ rfl
          have p1 := hcs 1 _ rfl
          have p2 := hcs 2 _ rfl
          simp only [Nat.add_zero] at p0
          have hvx : ptOk x.1 x.2.1 = true := hkn.out x (List.mem_of_getElem? hx)
          have hb2w : b2 < wr.heap.size := by omega
          have htk : K.take (q + 1) = K.take q ++ [x] := take_snoc hx
          have hqi : (q : Int) < (K.length : Int) := by omega
          have hpz := ptS_size hvx
          have hcall := Lib.hid (l03Text_any x.1 x.2.1 hvx wr)
          have hnext : Hid (∀ r : List UInt8, r = (if q = 0 then [] else [32]) ++ knotT x → es ++ bS r = bS (outT (Ls.take k) ++ loopT (K.take (q + 1)))) := fun r hr' => by
            rw [hes.out, bS_app, htk, hr', List.append_assoc]
            congr 2
            by_cases h0 : q = 0
            · subst h0; simp [loopT, Lib.join_nil, Lib.join_one]
            · rw [if_neg h0, loopT_snoc (by intro e; have := congrArg List.length e; simp only [List.length_take, List.length_nil] at this; omega)]
          clear hcs hx hb20 hb2h hvx
          obtain ⟨x1, x2, z⟩ := x
          dsimp only at p0 p1 p2 hpz hcall hnext
          cases z
          all_goals
            rcases Nat.eq_zero_or_pos q with h0 | h0
            · have h0i : ¬ (0 : Int) < (q : Int) := by omega
              replace h0 := Lib.hid h0
              go_wp2_with fail
              refine hcall.out.mono ?_
              rintro e w6 ⟨rfl, hb6⟩
              have hb7 := hbi.trans (hb6.mono hbi.size)
              go_wp2_with fail
              go_roundw
              case rel => first
                | exact ⟨q + 1, _, by go_num, by omega, rfl, hnext.out _ (by have := h0.out; simp [knotT, this]), hb7⟩
                | exact ⟨q + 1, _, by go_num, by omega, rfl, (cat2 es [126] _).trans (hnext.out _ (by have := h0.out; simp [knotT, this])), hb7⟩
              case measure => simp [intOf]; omega
            · have h0i : (0 : Int) < (q : Int) := by omega
              have h0n : Hid (q ≠ 0) := by show q ≠ 0; omega
              go_wp2_with fail
              refine hcall.out.mono ?_
              rintro e w6 ⟨rfl, hb6⟩
              have hb7 := hbi.trans (hb6.mono hbi.size)
              go_wp2_with fail
              go_roundw
              case rel => first
                | exact ⟨q + 1, _, by go_num, by omega, rfl, (cat2 es [32] _).trans (hnext.out _ (by have := h0n.out; simp [knotT, this])), hb7⟩
                | exact ⟨q + 1, _, by go_num, by omega, rfl, (cat3 es [32] [126] _).trans (hnext.out _ (by have := h0n.out; simp [knotT, this])), hb7⟩
              case measure => simp [intOf]; omega
        · have hqn : q = K.length := by omega
          have hfin : Hid (es ++ bS [10] = bS (outT (Ls.take (k + 1)))) := by
            show es ++ bS [10] = _
            rw [hes.out, hqn, List.take_length, bS_app, take_snoc hja.out, outT_snoc, List.append_assoc]
          replace hqn := Lib.hid hqn
          go_wp2_with fail
          go_roundw
          case rel => exact ⟨k + 1, _, by go_num, by omega, rfl, hfin.out, hbel.trans (hbi.mono hbel.size)⟩
          case measure => simp [intOf]; omega
    · have hkn : k = n := by omega
      have hfin : Hid (ds = bS (outT Ls)) := by show ds = _; rw [hds.out, List.take_of_length_le (by omega)]
      replace hkn := Lib.hid hkn
      go_wp2_with fail
      go_ret
      exact ⟨ret_string hfin.out, hbel⟩
end Go.Proofs.Ytgnjohkfgllhmaa

/- Bytes as digits, both sides. Printed by mk_hex.py. Conditions: as each states. -/
namespace Go.Proofs.Ytgnjohkfgllhmaa
open Go.RowKit
set_option linter.unusedVariables false
set_option maxRecDepth 100000

def digB : ByteArray := ⟨#[48, 49, 50, 51, 52, 53, 54, 55, 56, 57, 97, 98, 99, 100, 101, 102]⟩
theorem dig_at : ∀ n : Nat, (h : n < 16) → (digB[n]'h) = hexD n := by
  intro n h
  have : ∀ n : Fin 16, digB[n.val]'(by have := n.isLt; exact this) = hexD n.val := by decide
  exact this ⟨n, h⟩
theorem u8_low (d : UInt8) : bits .and .u8 (d.toNat : Int) 15 = (d.toNat : Int) % 16 := by
  have := d.toNat_lt
  exact bits_mask .u8 8 (by decide) (fun n h0 h1 => by rw [IntKind.wrap_u8]; omega) 4 (by omega) (d.toNat : Int) (by omega) (by omega)
theorem hexT_snoc (l : List UInt8) (b : UInt8) : hexT (l ++ [b]) = hexT l ++ [hexD (b.toNat / 16), hexD (b.toNat % 16)] := flat_snoc _ _ _
theorem hexT_len (l : List UInt8) : (hexT l).length = 2 * l.length := by
  induction l with
  | nil => rfl
  | cons b l ih => unfold hexT at ih ⊢; rw [List.flatMap_cons, List.length_append, ih]; simp; omega
theorem src_pair {w : World} {b : Nat} {u v : Value} {t : TypeId} (h1 : u.oneCell' = true) (h2 : v.oneCell' = true) (hb : b = w.heap.size) : Src (w.alloc (.cells #[u, v] t)) 1 (some ⟨b, 0, none⟩) 2 [u, v] := by
  subst hb
  refine ⟨rfl, fun x hx => ?_, fun _ => ⟨_, rfl, fun j x hj => ?_⟩⟩
  · simp at hx; rcases hx with rfl | rfl <;> assumption
  · have : (⟨w.heap.size, 0, none⟩ : Addr).add j = ⟨w.heap.size, j, none⟩ := by unfold Addr.add; split <;> simp_all
    rw [this, Go.Joins.cell_of_block (heap_alloc_new w _)]
    match j, hj with
    | 0, hj => exact hj
    | 1, hj => exact hj

set_option maxHeartbeats 2000000 in
theorem l17Hex_any (s : ByteArray) (w : World) (hs : s.size ≤ 1000000) :
    Calls Try.prog 94 #[.string s] w fun e w' => e = .returned (.string (bS (hexT s.data.toList))) ∧ Below w.heap.size w w' := by
  have hsl : s.data.toList.length = s.size := by simp
  go_enter Try.func94, Try.ntmps94
  go_wp2_with fail
  go_loopw [4, 5] (fun out i wr => ∃ (k : Nat) (A : Option Addr) (c : Nat), i = .int .i64 k ∧ k ≤ s.size ∧ out = .slice A (2 * k) c ∧ wr.ownsRow w.heap.size 5 1 (.slice A (2 * k) c) (2 * k) (byteV (hexT (s.data.toList.take k))) ∧ Below w.heap.size w wr) (fun out i wr => s.size - (intOf i).toNat)
  case atStart => exact ⟨0, some ⟨w.heap.size, 0, none⟩, 0, rfl, Nat.zero_le _, rfl, World.ownsRow_made w #[] 0 (Nat.le_refl _) (Nat.zero_le _) rfl, Go.Joins.below_alloc1 _ _⟩
  case round =>
    obtain ⟨k, A, c, rfl, hk, rfl, hown, hbel⟩ := hrel
    have hsz := hbel.size
    replace hown := Lib.hid hown
    by_cases hlt : k < s.size
    · obtain ⟨d, hd⟩ : ∃ d, s[k] = d := ⟨_, rfl⟩
      have hd256 := d.toNat_lt
      have hst : Hid (s.data.toList.take (k + 1) = s.data.toList.take k ++ [d]) := by
        show _ = _
        rw [List.take_succ_eq_append_getElem (by omega)]
        congr 2
      have hA0 : (0 : Int) ≤ (d.toNat : Int) / 16 := by omega
      have hA1 : (d.toNat : Int) / 16 < 16 := by omega
      have hC0 : (0 : Int) ≤ (d.toNat : Int) % 16 := by omega
      have hC1 : (d.toNat : Int) % 16 < 16 := by omega
      have hlow := u8_low d
      have e1 : ({ data := #[48, 49, 50, 51, 52, 53, 54, 55, 56, 57, 97, 98, 99, 100, 101, 102] } : ByteArray)[((d.toNat : Int) / 16).toNat]'(by show _ < 16; omega) = hexD (d.toNat / 16) := by
        rw [← dig_at (d.toNat / 16) (by omega)]; rfl
      have e2 : ({ data := #[48, 49, 50, 51, 52, 53, 54, 55, 56, 57, 97, 98, 99, 100, 101, 102] } : ByteArray)[((d.toNat : Int) % 16).toNat]'(by show _ < 16; omega) = hexD (d.toNat % 16) := by
        rw [← dig_at (d.toNat % 16) (by omega)]; rfl
      go_wp2_with fail
      go_region_law (refine stepAppAt rfl (.tmp 13) (.tmp 26) elemU8 rfl (v := .slice A (2 * k) c) (n := 2 * k) (xs := byteV (hexT (s.data.toList.take k))) rfl ((World.ownsRow.drew hown.out).alloc _) rfl (src_pair (u := .int .u8 (hexD (d.toNat / 16)).toNat) (v := .int .u8 (hexD (d.toNat % 16)).toNat) rfl rfl (by simp)) (by omega) (by omega) (by simp; omega) (2 * k + 2) rfl ?_; intro A4 c4 w2 ho2 hg2; have hb2 : Below w.heap.size w w2 := (hbel.drew.alloc (by simp; omega) _).trans (below_app ((World.ownsRow.drew hown.out).alloc _) hg2 (by simp; omega)); replace ho2 := Lib.hid ho2; clear hg2)
      all_goals
        go_wp2_with fail
        go_roundw
        case rel =>
          refine ⟨k + 1, A4, c4, by go_num, by omega, by rw [show 2 * (k + 1) = 2 * k + 2 by omega], ?_, hb2⟩
          rw [show 2 * (k + 1) = 2 * k + 2 by omega, hst.out, hexT_snoc, byteV_append]
          exact ho2.out
        case measure => simp [intOf]; omega
    · have hkn : k = s.size := by omega
      have hh : wr.ownsRow w.heap.size 5 1 (.slice A (2 * k) c) (2 * k) (byteV (hexT s.data.toList)) := by
        have := hown.out
        rwa [List.take_of_length_le (by omega)] at this
      have kr := run_bytes_str (P := Try.prog) (src := 22) (dst := 9) (w := wr) (c := c) Try.underlying22 Try.underlying5 Try.underlying9 (src_own hh (byteV_one _)) (by
        intro hA; subst hA
        rcases Nat.eq_zero_or_pos (2 * k) with h0 | h0
        · exact h0
        · obtain ⟨g, hg, _⟩ := own_at hh (by omega)
          cases hg)
      clear hh hkn
      go_wp2_with fail
      go_ret
      exact ⟨rfl, hbel⟩

set_option maxHeartbeats 2000000 in
theorem hexText_any (s : ByteArray) (w : World) (hs : s.size ≤ 1000000) :
    Calls Try.prog 53 #[.string s] w fun e w' => e = .returned (.string (bS (hexT s.data.toList))) ∧ Below w.heap.size w w' := by
  have hsl : s.data.toList.length = s.size := by simp
  go_enter Try.func53, Try.ntmps53
  obtain ⟨i0, hi0, hz0, hs0, hby0⟩ := info_parts (show (Try.prog.info? 5).map (fun i => (i.zero, i.size, i.bytes)) = some (some (.int .u8 0), 1, 1) by kernel_rfl)
  go_wp2_with (at_make; refine wpList_make_own _ rfl _ _ 22 rfl w.heap.size 5 i0 (.int .u8 0) 1 Try.underlying22 hi0 hz0 hs0 .i64 .i64 _ (2 * s.size) rfl rfl (by first | rfl | (push_cast; rfl) | omega) (by rw [hby0]; omega) (by unfold maxLen; omega) (Nat.le_refl _) ?_; intro w0 hown0 hg0)
  have hb0 : Below w.heap.size w w0 := (Below.refl _ _).grown hg0 (Nat.le_refl _) (by simp)
  clear hg0 hi0 hz0 hs0 hby0

  go_loopw [3, 4] (fun out i wr => ∃ (k : Nat) (A : Option Addr) (c : Nat), i = .int .i64 k ∧ k ≤ s.size ∧ out = .slice A (2 * k) c ∧ wr.ownsRow w.heap.size 5 1 (.slice A (2 * k) c) (2 * k) (byteV (hexT (s.data.toList.take k))) ∧ Below w.heap.size w wr) (fun out i wr => s.size - (intOf i).toNat)
  case atStart => exact ⟨0, some ⟨w.heap.size, 0, none⟩, 2 * s.size, rfl, Nat.zero_le _, rfl, hown0, hb0⟩
  case round =>
    obtain ⟨k, A, c, rfl, hk, rfl, hown, hbel⟩ := hrel
    have hsz := hbel.size
    replace hown := Lib.hid hown
    by_cases hlt : k < s.size
    · obtain ⟨d, hd⟩ : ∃ d, s[k] = d := ⟨_, rfl⟩
      have hd256 := d.toNat_lt
      have hst : Hid (s.data.toList.take (k + 1) = s.data.toList.take k ++ [d]) := by
        show _ = _
        rw [List.take_succ_eq_append_getElem (by omega)]
        congr 2
      have hA0 : (0 : Int) ≤ (d.toNat : Int) / 16 := by omega
      have hA1 : (d.toNat : Int) / 16 < 16 := by omega
      have hC0 : (0 : Int) ≤ (d.toNat : Int) % 16 := by omega
      have hC1 : (d.toNat : Int) % 16 < 16 := by omega
      have hlow := u8_low d
      have e1 : ({ data := #[48, 49, 50, 51, 52, 53, 54, 55, 56, 57, 97, 98, 99, 100, 101, 102] } : ByteArray)[((d.toNat : Int) / 16).toNat]'(by show _ < 16; omega) = hexD (d.toNat / 16) := by
        rw [← dig_at (d.toNat / 16) (by omega)]; rfl
      have e2 : ({ data := #[48, 49, 50, 51, 52, 53, 54, 55, 56, 57, 97, 98, 99, 100, 101, 102] } : ByteArray)[((d.toNat : Int) % 16).toNat]'(by show _ < 16; omega) = hexD (d.toNat % 16) := by
        rw [← dig_at (d.toNat % 16) (by omega)]; rfl
      go_wp2_with fail
      go_region_law (refine stepAppAt rfl (.tmp 15) (.tmp 26) elemU8 rfl (v := .slice A (2 * k) c) (n := 2 * k) (xs := byteV (hexT (s.data.toList.take k))) rfl ((World.ownsRow.drew hown.out).alloc _) rfl (src_pair (u := .int .u8 (hexD (d.toNat / 16)).toNat) (v := .int .u8 (hexD (d.toNat % 16)).toNat) rfl rfl (by simp)) (by omega) (by omega) (by simp; omega) (2 * k + 2) rfl ?_; intro A4 c4 w2 ho2 hg2; have hb2 : Below w.heap.size w w2 := (hbel.drew.alloc (by simp; omega) _).trans (below_app ((World.ownsRow.drew hown.out).alloc _) hg2 (by simp; omega)); replace ho2 := Lib.hid ho2; clear hg2)
      all_goals
        go_wp2_with fail
        go_roundw
        case rel =>
          refine ⟨k + 1, A4, c4, by go_num, by omega, by rw [show 2 * (k + 1) = 2 * k + 2 by omega], ?_, hb2⟩
          rw [show 2 * (k + 1) = 2 * k + 2 by omega, hst.out, hexT_snoc, byteV_append]
          exact ho2.out
        case measure => simp [intOf]; omega
    · have hkn : k = s.size := by omega
      have hh : wr.ownsRow w.heap.size 5 1 (.slice A (2 * k) c) (2 * k) (byteV (hexT s.data.toList)) := by
        have := hown.out
        rwa [List.take_of_length_le (by omega)] at this
      have kr := run_bytes_str (P := Try.prog) (src := 22) (dst := 9) (w := wr) (c := c) Try.underlying22 Try.underlying5 Try.underlying9 (src_own hh (byteV_one _)) (by
        intro hA; subst hA
        rcases Nat.eq_zero_or_pos (2 * k) with h0 | h0
        · exact h0
        · obtain ⟨g, hg, _⟩ := own_at hh (by omega)
          cases hg)
      clear hh hkn
      go_wp2_with fail
      go_ret
      exact ⟨rfl, hbel⟩
end Go.Proofs.Ytgnjohkfgllhmaa

/- The text of a loop, the program's. Conditions: as it states. -/
namespace Go.Proofs.Ytgnjohkfgllhmaa
open Go.RowKit
set_option linter.unusedVariables false
set_option maxRecDepth 100000

theorem strV_snoc (l : List (List UInt8)) (a : List UInt8) : strV (l ++ [a]) = strV l ++ [.string (bS a)] := by simp [strV, bS]
theorem join_words (K : List Knot) : Lib.join ((K.map fun k => bS (knotT k)).map (·.data.toList)) [32] = loopT K := by
  unfold loopT
  congr 1
  rw [List.map_map]
  rfl

set_option maxHeartbeats 2000000 in
theorem loopText_any (A : Option Addr) (n c lo hi : Nat) (K : List Knot) (hv : loopOk K = true) (w : World) (hr : RdS 3 (FlatR knotC) w lo hi A n K) (hhi : hi ≤ w.heap.size) :
    Calls Try.prog 51 #[.agg #[.slice A n c]] w fun e w' => e = .returned (.string (bS (loopT K))) ∧ Below w.heap.size w w' := by
  obtain ⟨i0, hi0, hz0, hs0, hby0⟩ := info_parts (show (Try.prog.info? 9).map (fun i => (i.zero, i.size, i.bytes)) = some (some (.string ⟨#[]⟩), 1, 16) by kernel_rfl)
  have hln := hr.1
  obtain ⟨hK60, hK1, hkn⟩ := loopOk_is hv
  have hmax := loopT_max hv
  replace hr := Lib.hid hr
  replace hkn := Lib.hid hkn
  clear hv
  have hb0 : Below w.heap.size w (w.alloc (.cells #[.slice A n c] 107 (0, 0))) := Go.Joins.below_alloc1 _ _
  have HB := Lib.hid (heap_alloc_new w (.cells #[.slice A n c] 107 (0, 0)))
  have hz0' : (w.alloc (.cells #[.slice A n c] 107 (0, 0))).heap.size = w.heap.size + 1 := by simp
  go_enter Try.func51, Try.ntmps51
  go_wp2_with (at_make; refine wpList_make_own _ rfl _ _ 157 rfl (w.heap.size + 1) 9 i0 (.string ⟨#[]⟩) 1 Try.underlying157 hi0 hz0 hs0 .i64 .i64 _ n rfl rfl rfl (by rw [hby0]; omega) (by unfold maxLen; omega) (by simp) ?_; intro w0 hown0 hg0; have hb1 : Below w.heap.size w w0 := hb0.grown hg0 hb0.size (by simp); have HB0 := Lib.hid ((hg0.block w.heap.size (by omega) (by simp)).trans HB.out); have hz1 : w.heap.size + 1 ≤ w0.heap.size := (by have := hg0.size; omega); have q0 : w0.cell? ⟨w.heap.size, 0, none⟩ = some (.slice A n c) := (by rw [Go.Joins.cell_of_block HB0.out]; rfl); have ql : w.heap.size < w0.heap.size := (by omega); replace hown0 := Lib.hid hown0; clear hg0 hb0 HB hz0' hi0 hz0 hs0 hby0)
  go_loopw [3, 13] (fun out i wr => ∃ (k : Nat) (Aw : Option Addr) (cw : Nat), i = .int .i64 k ∧ k ≤ n ∧ out = .slice Aw k cw ∧ wr.ownsRow (w.heap.size + 1) 9 1 (.slice Aw k cw) k (strV ((K.take k).map knotT)) ∧ w.heap.size + 1 ≤ wr.heap.size ∧ Below w.heap.size w wr) (fun out i wr => n - (intOf i).toNat)
  case atStart => exact ⟨0, some ⟨w.heap.size + 1, 0, none⟩, n, rfl, Nat.zero_le _, rfl, by simpa [strV] using hown0.out, hz1, hb1⟩
  case round =>
    clear hown0 q0 ql
    obtain ⟨k, Aw, cw, rfl, hk, rfl, hown, hz, hbel⟩ := hrel
    replace hown := Lib.hid hown
    by_cases hlt : k < n
    · obtain ⟨b, off, x, rfl, _, hb, hx, hcs⟩ := (hr.out.frame (good_flat _) (Below.sameB hbel hhi)).at hlt
      have p0 := hcs 0 _ rfl
      have p1 := hcs 1 _ rfl
      have p2 := hcs 2 _ rfl
      simp only [Nat.add_zero] at p0
      have hvx : ptOk x.1 x.2.1 = true := hkn.out x (List.mem_of_getElem? hx)
      have hbw : b < wr.heap.size := by omega
      have hpz := ptS_size hvx
      have htk := Lib.hid (take_snoc hx)
      have hcall := Lib.hid (fun W => ptText_any x.1 x.2.1 hvx W)
      clear hcs hx hvx
      have hnext : Hid (∀ r : List UInt8, r = knotT x → strV ((K.take k).map knotT) ++ [.string (bS r)] = strV ((K.take (k + 1)).map knotT)) := fun r hr' => by
        rw [htk.out, List.map_append, hr', ← strV_snoc]; rfl
      obtain ⟨x1, x2, z⟩ := x
      dsimp only at p0 p1 p2 hpz hcall hnext
      have hba : Below w.heap.size w (wr.alloc (.cells #[.int .i64 x1, .int .i64 x2, .bool z] 167 (0, 0))) := hbel.alloc hbel.size _
      cases z
      all_goals
        go_wp2_with fail
        refine (hcall.out _).mono ?_
        rintro e w6 ⟨rfl, hb6⟩
        have hb7 := hba.trans (hb6.mono hba.size)
        have hz6 : wr.heap.size + 1 ≤ w6.heap.size := by have := hb6.size; simp at this; exact this
        have ho6 := Lib.hid (own_below (World.ownsRow.alloc hown.out _) hb6)
        clear hb6
        first
          | (go_wp2_with (at_builtin; refine wpApp rfl (.tmp 25) (.tmp 30) elemStr rfl (base := w.heap.size + 1) (v := .slice Aw k cw) (n := k) (xs := strV ((K.take k).map knotT)) rfl (ho6.out.alloc _) rfl (src_at (cs := [.string (bS [126] ++ bS (ptT x1 x2))]) rfl (by simp [Value.oneCell']) rfl) (by omega) (by omega) (by simp; omega) (k + 1) rfl ?_; intro A' c' w7 ho7 hb8)
             go_roundw
             case rel => exact ⟨k + 1, A', c', by go_num, by omega, rfl, by rw [← hnext.out ([126] ++ ptT x1 x2) (by simp [knotT]), ← bS_app]; exact ho7, by have := hb8.size; simp at this; omega, (hb7.alloc hb7.size _).trans (hb8.mono (by omega))⟩
             case measure => simp [intOf]; omega)
          | (go_wp2_with (at_builtin; refine wpApp rfl (.tmp 19) (.tmp 23) elemStr rfl (base := w.heap.size + 1) (v := .slice Aw k cw) (n := k) (xs := strV ((K.take k).map knotT)) rfl (ho6.out.alloc _) rfl (src_at (cs := [.string (bS (ptT x1 x2))]) rfl (by simp [Value.oneCell']) rfl) (by omega) (by omega) (by simp; omega) (k + 1) rfl ?_; intro A' c' w7 ho7 hb8)
             go_roundw
             case rel => exact ⟨k + 1, A', c', by go_num, by omega, rfl, by rw [← hnext.out (ptT x1 x2) (by simp [knotT])]; exact ho7, by have := hb8.size; simp at this; omega, (hb7.alloc hb7.size _).trans (hb8.mono (by omega))⟩
             case measure => simp [intOf]; omega)
    · have hkn' : k = n := by omega
      have hh := hown.out
      rw [hkn', List.take_of_length_le (by omega)] at hh
      obtain ⟨g, hg, _, hgl, hnc, hcell, _⟩ := own_at hh (by omega)
      subst hg
      have hxl : (K.map fun k => bS (knotT k)).length = n := by rw [List.length_map]; exact hln
      have hj := Try.strings_Join g 0 cw (K.map fun k => bS (knotT k)) ⟨#[32]⟩ wr (fun j x hj => by
        rw [Nat.zero_add]
        have h1 := hcell j (by have := (List.getElem?_eq_some_iff.1 hj).1; omega)
        rw [h1]
        rw [List.getElem?_map] at hj
        unfold strV
        rw [List.getElem?_map, List.getElem?_map]
        cases hk : K[j]? with
        | none => rw [hk] at hj; cases hj
        | some y => rw [hk] at hj; simp at hj; subst hj; rfl) hgl (by omega) (by omega) (by rw [show (⟨#[32]⟩ : ByteArray).data.toList = [32] from rfl, join_words]; omega)
      rw [hxl, show (⟨#[32]⟩ : ByteArray).data.toList = [32] from rfl, join_words] at hj
      replace hj := Lib.hid hj
      have hkn2 := Lib.hid hkn'
      subst hkn'
      clear hh hcell hnc
      go_wp2_with fail
      refine hj.out.mono ?_
      rintro e w9 ⟨rfl, hb9⟩
      have hb10 := hbel.trans (hb9.mono hbel.size)
      go_wp2_with fail
      go_ret
      exact ⟨rfl, hb10⟩
end Go.Proofs.Ytgnjohkfgllhmaa

/- The text of a glyph: plain facts. Conditions: as each states. -/
namespace Go.Proofs.Ytgnjohkfgllhmaa
set_option linter.unusedVariables false
set_option maxRecDepth 100000

structure GlT (g : Gl) : Prop where
  nm : g.name.size ≤ 12
  code : -1 ≤ g.code ∧ g.code ≤ 65535
  adv : 0 ≤ g.adv ∧ g.adv ≤ 262144
  out : outOk g.out = true
  pl : g.parts.length ≤ 6
  al : g.anchors.length ≤ 6
  hl : g.hints.size ≤ 400
  ps : ∀ p ∈ g.parts, (0 ≤ p.1 ∧ p.1 ≤ 39) ∧ ptOk p.2.1 p.2.2 = true
  ans : ∀ a ∈ g.anchors, a.1.size ≤ 12 ∧ ptOk a.2.1 a.2.2 = true
theorem nameB_le {s : ByteArray} (h : nameB s = true) : s.size ≤ 12 := by
  unfold nameB at h
  simp only [Bool.and_eq_true, decide_eq_true_eq] at h
  exact h.1.1.2
theorem glyphOk_is {g : Gl} (h : glyphOk g = true) : GlT g := by
  unfold glyphOk at h
  simp only [Bool.and_eq_true, decide_eq_true_eq] at h
  obtain ⟨⟨⟨⟨⟨⟨⟨⟨⟨h0, h1⟩, h2⟩, h3⟩, h4⟩, h5⟩, h6⟩, h7⟩, h8⟩, _⟩ := h
  refine ⟨nameB_le h0, inB_iff.1 h1, inB_iff.1 h2, h3, h4, h5, h6, fun p hp => ?_, fun a ha => ?_⟩
  · have := List.all_eq_true.1 h7 p hp
    unfold partOk at this
    rw [Bool.and_eq_true] at this
    exact ⟨inB_iff.1 this.1, this.2⟩
  · obtain ⟨j, hj⟩ := List.getElem?_of_mem ha
    have := range_at h8 (List.getElem?_eq_some_iff.1 hj).1
    rw [anchAt_eq hj, Bool.and_eq_true, Bool.and_eq_true] at this
    exact ⟨nameB_le this.1.1, this.1.2⟩
theorem dec_20 {n : Int} (h1 : -1000000 ≤ n) (h2 : n ≤ 1000000) : (decL n).length ≤ 20 := decL_len (by omega) (by omega)
theorem data_len (s : ByteArray) : s.data.toList.length = s.size := by simp
theorem headT_len {g : Gl} (h : GlT g) : (headT g.name.data.toList g.code g.adv).length ≤ 61 := by
  have a := dec_20 (n := g.code) (by have := h.code; omega) (by have := h.code; omega)
  have b := dec_20 (n := g.adv) (by have := h.adv; omega) (by have := h.adv; omega)
  have c := h.nm
  unfold headT
  simp only [List.length_append, List.length_cons, List.length_nil, data_len]
  omega
theorem partL_len {p : Part} (h : (0 ≤ p.1 ∧ p.1 ≤ 39) ∧ ptOk p.2.1 p.2.2 = true) : (partL p).length ≤ 68 := by
  have a := dec_20 (n := p.1) (by omega) (by omega)
  have b := ptT_len h.2
  unfold partL
  simp only [List.length_append, List.length_cons, List.length_nil]
  omega
theorem anchL_len {a : Anch} (h : a.1.size ≤ 12 ∧ ptOk a.2.1 a.2.2 = true) : (anchL a).length ≤ 62 := by
  have b := ptT_len h.2
  unfold anchL
  simp only [List.length_append, List.length_cons, List.length_nil, data_len]
  omega
theorem hintL_len {s : ByteArray} (h : s.size ≤ 400) : (hintL s.data.toList).length ≤ 807 := by
  have b := hexT_len s.data.toList
  rw [data_len] at b
  unfold hintL
  split
  · simp
  · simp only [List.length_append, List.length_cons, List.length_nil]
    omega
theorem loopL_len {K : List Knot} (h : loopOk K = true) : (loopL K).length ≤ 2586 := by
  have := loopT_max h
  unfold loopL
  simp only [List.length_append, List.length_cons, List.length_nil]
  omega
theorem flat_max {α : Type} {f : α → List UInt8} {B N : Nat} {L : List α} (h : ∀ a ∈ L, (f a).length ≤ B) (hn : L.length ≤ N) : (L.flatMap f).length ≤ B * N := Nat.le_trans (flat_len f B L h) (Nat.mul_le_mul_left B hn)
theorem flat_take_max {α : Type} {f : α → List UInt8} {B N : Nat} {L : List α} (h : ∀ a ∈ L, (f a).length ≤ B) (hn : L.length ≤ N) (k : Nat) : ((L.take k).flatMap f).length ≤ B * N :=
  flat_max (fun a ha => h a (mem_take ha)) (by rw [List.length_take]; omega)
theorem loops_max {g : Gl} (h : GlT g) (k : Nat) : ((g.out.take k).flatMap loopL).length ≤ 31032 := by
  obtain ⟨h1, h2⟩ := outOk_is h.out
  exact flat_take_max (fun K hK => loopL_len (h2 K hK)) h1 k
theorem parts_max {g : Gl} (h : GlT g) (k : Nat) : ((g.parts.take k).flatMap partL).length ≤ 408 := flat_take_max (fun p hp => partL_len (h.ps p hp)) h.pl k
theorem anchs_max {g : Gl} (h : GlT g) (k : Nat) : ((g.anchors.take k).flatMap anchL).length ≤ 372 := flat_take_max (fun a ha => anchL_len (h.ans a ha)) h.al k
theorem glyphT_max {g : Gl} (h : GlT g) : (glyphT g).length ≤ 33000 := by
  have a := headT_len h
  have b := loops_max h g.out.length
  have c := parts_max h g.parts.length
  have d := anchs_max h g.anchors.length
  have e := hintL_len h.hl
  rw [List.take_length] at b c d
  unfold glyphT
  simp only [List.length_append, List.length_cons, List.length_nil]
  omega
theorem head_text (nm : ByteArray) (c a : Int) : ((((((⟨#[103, 108, 121, 112, 104, 32]⟩ : ByteArray) ++ nm) ++ ⟨#[32]⟩) ++ decS c) ++ ⟨#[32]⟩) ++ decS a) ++ ⟨#[10]⟩ = bS (headT nm.data.toList c a) := by
  conv => lhs; rw [bS_of nm]
  show ((((((bS [103, 108, 121, 112, 104, 32]) ++ _) ++ bS [32]) ++ bS (decL c)) ++ bS [32]) ++ bS (decL a)) ++ bS [10] = _
  simp only [bS_app]
  rfl
theorem loop_text (K : List Knot) : ((⟨#[108, 111, 111, 112, 32]⟩ : ByteArray) ++ bS (loopT K)) ++ ⟨#[10]⟩ = bS (loopL K) := by
  show ((bS [108, 111, 111, 112, 32]) ++ _) ++ bS [10] = _
  simp only [bS_app]
  rfl
theorem part_text (p : Part) : ((((⟨#[112, 97, 114, 116, 32]⟩ : ByteArray) ++ decS p.1) ++ ⟨#[32]⟩) ++ bS (ptT p.2.1 p.2.2)) ++ ⟨#[10]⟩ = bS (partL p) := by
  show ((((bS [112, 97, 114, 116, 32]) ++ bS (decL p.1)) ++ bS [32]) ++ _) ++ bS [10] = _
  simp only [bS_app]
  rfl
theorem anch_text (a : Anch) : ((((⟨#[97, 110, 99, 104, 111, 114, 32]⟩ : ByteArray) ++ a.1) ++ ⟨#[32]⟩) ++ bS (ptT a.2.1 a.2.2)) ++ ⟨#[10]⟩ = bS (anchL a) := by
  conv => lhs; rw [bS_of a.1]
  show ((((bS [97, 110, 99, 104, 111, 114, 32]) ++ _) ++ bS [32]) ++ _) ++ bS [10] = _
  simp only [bS_app]
  rfl
theorem hint_text {s : ByteArray} (h : s ≠ ⟨#[]⟩) : ((⟨#[104, 105, 110, 116, 115, 32]⟩ : ByteArray) ++ bS (hexT s.data.toList)) ++ ⟨#[10]⟩ = bS (hintL s.data.toList) := by
  show ((bS [104, 105, 110, 116, 115, 32]) ++ _) ++ bS [10] = _
  simp only [bS_app]
  unfold hintL
  rw [if_neg (fun e => h (by rw [bS_of s, e]; rfl))]
theorem hint_none : hintL (⟨#[]⟩ : ByteArray).data.toList = [] := rfl
end Go.Proofs.Ytgnjohkfgllhmaa

/- The text of a glyph, the reference's. Conditions: as each states. -/
namespace Go.Proofs.Ytgnjohkfgllhmaa
open Go.RowKit
set_option linter.unusedVariables false
set_option maxRecDepth 100000

theorem str_ne {s : ByteArray} (h : ¬ s = ⟨#[]⟩) : s.toList.isEmpty = false := by
  rw [ByteArray.toList_eq]
  cases hl : s.data.toList with
  | nil => exact absurd (by rw [bS_of s, hl]; rfl) h
  | cons a l => rfl
set_option maxHeartbeats 8000000 in
theorem l17Text_flat (p o : Nat) (d : Gl) (A3 A4 A5 : Option Addr) (n3 c3 n4 c4 n5 c5 lo hi : Nat) (hg : GlT d) (w : World) (hp : p < w.heap.size)
    (g0 : w.cell? ⟨p, o, none⟩ = some (.string d.name)) (g1 : w.cell? ⟨p, o + 1, none⟩ = some (.int .i64 d.code)) (g2 : w.cell? ⟨p, o + 2, none⟩ = some (.int .i64 d.adv)) (g3 : w.cell? ⟨p, o + 3, none⟩ = some (.slice A3 n3 c3)) (g4 : w.cell? ⟨p, o + 4, none⟩ = some (.slice A4 n4 c4)) (g5 : w.cell? ⟨p, o + 5, none⟩ = some (.slice A5 n5 c5)) (g6 : w.cell? ⟨p, o + 6, none⟩ = some (.string d.hints))
    (hr0 : OutRd w lo hi A3 n3 d.out) (hr1 : RdS 3 (FlatR partC) w lo hi A4 n4 d.parts) (hr2 : RdS 3 (FlatR anchC) w lo hi A5 n5 d.anchors) (hhi : hi ≤ w.heap.size) :
    Calls Try.prog 45 #[.pointer (some ⟨p, o, none⟩)] w fun e w' => e = .returned (.string (bS (glyphT d))) ∧ Below w.heap.size w w' := by
  have hol := hr0.1
  have hpl := hr1.1
  have hal := hr2.1
  have hp6 := hg.pl
  have ha6 := hg.al
  have hh400 := hg.hl
  have hnm := hg.nm
  have hout := Lib.hid hg.out
  obtain ⟨hc1, hc2⟩ := hg.code
  obtain ⟨ha1, ha2⟩ := hg.adv
  have hdc := decS_sz (n := d.code) (by omega) (by omega)
  have hda := decS_sz (n := d.adv) (by omega) (by omega)
  have hHl := headT_len hg
  have hLm := Lib.hid (loops_max hg)
  have hPm := Lib.hid (parts_max hg)
  have hAm := Lib.hid (anchs_max hg)
  have hHm := hintL_len hg.hl
  have hps := Lib.hid hg.ps
  have has := Lib.hid hg.ans
  have hot := outT_max hg.out
  obtain ⟨ho12, _⟩ := outOk_is hg.out
  replace hr0 := Lib.hid hr0
  replace hr1 := Lib.hid hr1
  replace hr2 := Lib.hid hr2
  replace hg := Lib.hid hg
  have hcN := Lib.hid (fun dr os => Calls.regrown_of (l01Dec_any d.code (Go.Sort.grow (redrawn w dr) os) (by omega) (by omega)))
  have hcD := Lib.hid (fun dr os => Calls.regrown_of (l01Dec_any d.adv (Go.Sort.grow (redrawn w dr) os) (by omega) (by omega)))
  have k0 : ∀ dr os, (Go.Sort.grow (redrawn w dr) os).cell? ⟨p, o, none⟩ = some (.string d.name) := cell_regrown g0
  have k1 : ∀ dr os, (Go.Sort.grow (redrawn w dr) os).cell? ⟨p, o + 1, none⟩ = some (.int .i64 d.code) := cell_regrown g1
  have k2 : ∀ dr os, (Go.Sort.grow (redrawn w dr) os).cell? ⟨p, o + 2, none⟩ = some (.int .i64 d.adv) := cell_regrown g2
  go_enter Try.func45, Try.ntmps45
  go_wp2_with fail
  refine wp_region_quiet_below (by kernel_rfl) (by kernel_rfl) ?_
  repeat (go_big_quiet_step (first | (with_reducible exact hcN.out _ _) | (with_reducible exact hcD.out _ _)))
  refine wpQuiet_nil ?_
  intro _ hw'
  obtain ⟨⟨dq, osq⟩, hw''⟩ := hw'
  subst hw''
  have hb1 := below_regrown w dq osq
  clear hcN hcD k0 k1 k2
  generalize Go.Sort.grow (redrawn w dq) osq = w1 at hb1 ⊢
  have hz1 := hb1.size
  have e3 : w1.cell? ⟨p, o + 3, none⟩ = some (.slice A3 n3 c3) := (hb1.cell hp).trans g3
  have hpw1 : p < w1.heap.size := by omega
  obtain ⟨S0, hS0⟩ : ∃ S : ByteArray, S = ((((((⟨#[103, 108, 121, 112, 104, 32]⟩ : ByteArray) ++ d.name) ++ ⟨#[32]⟩) ++ decS d.code) ++ ⟨#[32]⟩) ++ decS d.adv) ++ ⟨#[10]⟩ := ⟨_, rfl⟩
  rw [← hS0]
  rw [head_text] at hS0
  have hS0z : S0.size ≤ 61 := by rw [hS0]; exact hHl
  replace hS0 := Lib.hid hS0
  go_wp2_with fail
  refine (l10Text_any p (o + 3) A3 n3 c3 lo hi d.out hout.out w1 hpw1 e3 (hr0.out.frame good_loop (Below.sameB hb1 hhi)) (by omega)).mono ?_
  rintro e w2 ⟨rfl, hb2⟩
  have hB2 := hb1.trans (hb2.mono hz1)
  clear e3 hb2
  go_wp2_with fail
  refine (l01Split_any (bS (outT d.out)) 10 w2 (by rw [bS_size]; omega)).mono ?_
  rintro e w3 ⟨Al, cl, nl, hnl, rfl, hrow, hb3⟩
  have hB3 := hB2.trans (hb3.mono hB2.size)
  have hsp : splitF 10 (bS (outT d.out)).data.toList = d.out.map loopT ++ [[]] := outT_split d.out
  rw [hsp] at hnl hrow
  rw [List.length_append, List.length_map] at hnl
  simp only [List.length_cons, List.length_nil] at hnl
  obtain ⟨g, rfl, hgB, hgl, hgc, hcell, _⟩ := own_at hrow (by omega)
  have hline : Hid (∀ (k : Nat) (K : List Knot), d.out[k]? = some K → w3.cell? ⟨g, k, none⟩ = some (.string (bS (loopT K)))) := fun k K hk => by
    have hkl := (List.getElem?_eq_some_iff.1 hk).1
    rw [hcell k (by omega)]
    unfold strV
    rw [List.getElem?_map, List.getElem?_append_left (by rw [List.length_map]; exact hkl), List.getElem?_map, hk]
    rfl
  have hz3 := hB3.size
  clear hcell hrow hgc hb3 hsp
  obtain ⟨H, hH⟩ : ∃ H, H = headT d.name.data.toList d.code d.adv := ⟨_, rfl⟩
  rw [← hH] at hS0 hHl
  have hfinal : Hid (glyphT d = H ++ d.out.flatMap loopL ++ d.parts.flatMap partL ++ d.anchors.flatMap anchL ++ hintL d.hints.data.toList ++ [101, 110, 100, 10]) := by rw [hH]; rfl
  replace hH := Lib.hid hH
  go_wp2_with fail
  go_loopw [3, 5] (fun out i wr => ∃ (k : Nat) (ds : ByteArray), i = .int .i64 k ∧ k ≤ n3 ∧ out = .string ds ∧ ds = bS (H ++ (d.out.take k).flatMap loopL) ∧ Below w3.heap.size w3 wr) (fun out i wr => n3 - (intOf i).toNat)
  case atStart => exact ⟨0, S0, rfl, Nat.zero_le _, rfl, by rw [hS0.out]; simp, Below.refl _ _⟩
  case round =>
    obtain ⟨k, ds, rfl, hk, rfl, hds, hbel⟩ := hrel
    have hdz : ds.size ≤ 31093 := by
      rw [hds, bS_size, List.length_append]
      have := hLm.out k
      omega
    have hsz := hbel.size
    replace hds := Lib.hid hds
    by_cases hlt : k < n3
    · obtain ⟨K, hja⟩ : ∃ K, d.out[k]? = some K := ⟨_, List.getElem?_eq_getElem (by omega)⟩
      have hKok := (outOk_is hout.out).2 K (List.mem_of_getElem? hja)
      have hKz : (bS (loopT K)).size ≤ 2580 := loopT_max hKok
      have q0 : wr.cell? ⟨g, k, none⟩ = some (.string (bS (loopT K))) := (hbel.cell hgl).trans (hline.out k K hja)
      have hgw : g < wr.heap.size := by omega
      have hki : (k : Int) + 1 < (nl : Int) := by omega
      have hki2 : (k : Int) < (nl : Int) := by omega
      have hnext : Hid (ds ++ ((({ data := #[108, 111, 111, 112, 32] } : ByteArray) ++ bS (loopT K)) ++ { data := #[10] }) = bS (H ++ (d.out.take (k + 1)).flatMap loopL)) := by
        show ds ++ _ = _
        rw [loop_text, hds.out, bS_app, flat_take loopL hja, List.append_assoc]
      clear hja hKok
      go_wp2_with fail
      go_roundw
      case rel => exact ⟨k + 1, _, by go_num, by omega, rfl, hnext.out, hbel⟩
      case measure => simp [intOf]; omega
    · have hkn : k = n3 := by omega
      have hfin1 : ds = bS (H ++ d.out.flatMap loopL) := by rw [hds.out, List.take_of_length_le (by omega)]
      have hki : ¬ (k : Int) + 1 < (nl : Int) := by omega
      have hB4 : Below w.heap.size w wr := hB3.trans (hbel.mono hz3)
      obtain ⟨H2, hH2⟩ : ∃ H2, H2 = H ++ d.out.flatMap loopL := ⟨_, rfl⟩
      rw [← hH2] at hfin1 hfinal
      have hH2l : H2.length ≤ 31093 := by
        rw [hH2, List.length_append]
        have := hLm.out d.out.length
        rw [List.take_length] at this
        omega
      replace hH2 := Lib.hid hH2
      replace hfin1 := Lib.hid hfin1
      obtain ⟨w4, hw4⟩ : ∃ v, v = wr := ⟨_, rfl⟩
      subst hw4
      clear hline hgl hgB hnl hS0 hS0z hz3 hB3 hbel hsz hds hB2 hz1 hb1 hpw1
      replace hkn := Lib.hid hkn
      go_wp2_with fail
      go_loopw [3, 6] (fun out i wr => ∃ (q : Nat) (es : ByteArray), i = .int .i64 q ∧ q ≤ n4 ∧ out = .string es ∧ es = bS (H2 ++ (d.parts.take q).flatMap partL) ∧ Below w.heap.size w wr) (fun out i wr => n4 - (intOf i).toNat)
      case atStart => exact ⟨0, ds, rfl, Nat.zero_le _, rfl, by rw [hfin1.out]; simp, hB4⟩
      case round =>
        clear hki hdz hfin1 hB4
        obtain ⟨q, es, rfl, hq, rfl, hes, hbel⟩ := hrel
        have hez : es.size ≤ 31501 := by
          rw [hes, bS_size, List.length_append]
          have := hPm.out q
          omega
        have hsz := hbel.size
        replace hes := Lib.hid hes
        by_cases hql : q < n4
        · obtain ⟨b, off, x, rfl, _, hb, hx, hcs⟩ := hr1.out.at hql
          obtain ⟨⟨hx1, hx2⟩, hxv⟩ := hps.out x (List.mem_of_getElem? hx)
          have p0 := (hbel.cell (p := ⟨b, off + q * 3 + 0, none⟩) (by simp; omega)).trans (hcs 0 _ rfl)
          have p1 := (hbel.cell (p := ⟨b, off + q * 3 + 1, none⟩) (by simp; omega)).trans (hcs 1 _ rfl)
          have p2 := (hbel.cell (p := ⟨b, off + q * 3 + 2, none⟩) (by simp; omega)).trans (hcs 2 _ rfl)
          have p4 := (hbel.cell (p := ⟨p, o + 4, none⟩) hp).trans g4
          simp only [Nat.add_zero] at p0
          have hbw : b < wr.heap.size := by omega
          have hpw : p < wr.heap.size := by omega
          have hqi : (q : Int) < (n4 : Int) := by omega
          have hq0 : (0 : Int) ≤ (q : Int) := by omega
          have hd20 := decS_sz (n := x.1) (by omega) (by omega)
          have hpz := ptS_size hxv
          have hnext : Hid (es ++ ((((({ data := #[112, 97, 114, 116, 32] } : ByteArray) ++ decS x.1) ++ { data := #[32] }) ++ bS (ptT x.2.1 x.2.2)) ++ { data := #[10] }) = bS (H2 ++ (d.parts.take (q + 1)).flatMap partL)) := by
            show es ++ _ = _
            rw [part_text, hes.out, bS_app, flat_take partL hx, List.append_assoc]
          have hcN := Lib.hid (fun dr os => Calls.regrown_of (l01Dec_any x.1 (Go.Sort.grow (redrawn wr dr) os) (by omega) (by omega)))
          have hcD := Lib.hid (fun dr os => Calls.regrown_of (l03Text_any x.2.1 x.2.2 hxv (Go.Sort.grow (redrawn wr dr) os)))
          clear hcs hx hxv
          obtain ⟨x1, x2, x3⟩ := x
          dsimp only at p0 p1 p2 hd20 hpz hcN hcD hnext hx1 hx2
          have k0 : ∀ dr os, (Go.Sort.grow (redrawn wr dr) os).cell? ⟨b, off + q * 3, none⟩ = some (.int .i64 x1) := cell_regrown p0
          have k1 : ∀ dr os, (Go.Sort.grow (redrawn wr dr) os).cell? ⟨b, off + q * 3 + 1, none⟩ = some (.int .i64 x2) := cell_regrown p1
          have k2 : ∀ dr os, (Go.Sort.grow (redrawn wr dr) os).cell? ⟨b, off + q * 3 + 2, none⟩ = some (.int .i64 x3) := cell_regrown p2
          have k4 : ∀ dr os, (Go.Sort.grow (redrawn wr dr) os).cell? ⟨p, o + 4, none⟩ = some (.slice (some ⟨b, off, none⟩) n4 c4) := cell_regrown p4
          clear p0 p1 p2
          go_wp2_with fail
          refine wp_region_quiet_below (by kernel_rfl) (by kernel_rfl) ?_
          repeat (go_big_quiet_step (first | (with_reducible exact hcN.out _ _) | (with_reducible exact hcD.out _ _)))
          refine wpQuiet_nil ?_
          intro _ hw'
          obtain ⟨⟨dq, osq⟩, hw''⟩ := hw'
          subst hw''
          have hb3 := hbel.trans ((below_regrown wr dq osq).mono hsz)
          clear hcN hcD k0 k1 k2 k4 p4
          generalize Go.Sort.grow (redrawn wr dq) osq = w5 at hb3 ⊢
          go_wp2_with fail
          go_roundw
          case rel => exact ⟨q + 1, _, by go_num, by omega, rfl, hnext.out, hb3⟩
          case measure => simp [intOf]; omega
        · have hqn : q = n4 := by omega
          have hfin2 : es = bS (H2 ++ d.parts.flatMap partL) := by rw [hes.out, List.take_of_length_le (by omega)]
          have p4 := (hbel.cell (p := ⟨p, o + 4, none⟩) hp).trans g4
          have hpw : p < wr.heap.size := by omega
          obtain ⟨H3, hH3⟩ : ∃ H3, H3 = H2 ++ d.parts.flatMap partL := ⟨_, rfl⟩
          rw [← hH3] at hfin2 hfinal
          have hH3l : H3.length ≤ 31501 := by
            rw [hH3, List.length_append]
            have := hPm.out d.parts.length
            rw [List.take_length] at this
            omega
          replace hH3 := Lib.hid hH3
          replace hfin2 := Lib.hid hfin2
          obtain ⟨w6, hw6⟩ : ∃ v, v = wr := ⟨_, rfl⟩
          subst hw6
          have hB6 := hbel
          clear hbel hsz hes
          replace hqn := Lib.hid hqn
          go_wp2_with fail
          clear p4 hpw
          go_loopw [3, 7] (fun out i wr => ∃ (t : Nat) (fs : ByteArray), i = .int .i64 t ∧ t ≤ n5 ∧ out = .string fs ∧ fs = bS (H3 ++ (d.anchors.take t).flatMap anchL) ∧ Below w.heap.size w wr) (fun out i wr => n5 - (intOf i).toNat)
          case atStart => exact ⟨0, es, rfl, Nat.zero_le _, rfl, by rw [hfin2.out]; simp, hB6⟩
          case round =>
            clear hez hfin2 hB6
            obtain ⟨t, fs, rfl, ht, rfl, hfs, hbel⟩ := hrel
            have hfz : fs.size ≤ 31873 := by
              rw [hfs, bS_size, List.length_append]
              have := hAm.out t
              omega
            have hsz := hbel.size
            replace hfs := Lib.hid hfs
            have p5 := (hbel.cell (p := ⟨p, o + 5, none⟩) hp).trans g5
            have hpw : p < wr.heap.size := by omega
            by_cases htl : t < n5
            · obtain ⟨b, off, x, rfl, _, hb, hx, hcs⟩ := hr2.out.at htl
              obtain ⟨hx1, hxv⟩ := has.out x (List.mem_of_getElem? hx)
              have p0 := (hbel.cell (p := ⟨b, off + t * 3 + 0, none⟩) (by simp; omega)).trans (hcs 0 _ rfl)
              have p1 := (hbel.cell (p := ⟨b, off + t * 3 + 1, none⟩) (by simp; omega)).trans (hcs 1 _ rfl)
              have p2 := (hbel.cell (p := ⟨b, off + t * 3 + 2, none⟩) (by simp; omega)).trans (hcs 2 _ rfl)
              simp only [Nat.add_zero] at p0
              have hbw : b < wr.heap.size := by omega
              have hti : (t : Int) < (n5 : Int) := by omega
              have ht0 : (0 : Int) ≤ (t : Int) := by omega
              have hpz := ptS_size hxv
              have hnext : Hid (fs ++ ((((({ data := #[97, 110, 99, 104, 111, 114, 32] } : ByteArray) ++ x.1) ++ { data := #[32] }) ++ bS (ptT x.2.1 x.2.2)) ++ { data := #[10] }) = bS (H3 ++ (d.anchors.take (t + 1)).flatMap anchL)) := by
                show fs ++ _ = _
                rw [anch_text, hfs.out, bS_app, flat_take anchL hx, List.append_assoc]
              have hcD := Lib.hid (fun dr os => Calls.regrown_of (l03Text_any x.2.1 x.2.2 hxv (Go.Sort.grow (redrawn wr dr) os)))
              clear hcs hx hxv
              obtain ⟨x1, x2, x3⟩ := x
              dsimp only at p0 p1 p2 hpz hcD hnext hx1
              have k0 : ∀ dr os, (Go.Sort.grow (redrawn wr dr) os).cell? ⟨b, off + t * 3, none⟩ = some (.string x1) := cell_regrown p0
              have k1 : ∀ dr os, (Go.Sort.grow (redrawn wr dr) os).cell? ⟨b, off + t * 3 + 1, none⟩ = some (.int .i64 x2) := cell_regrown p1
              have k2 : ∀ dr os, (Go.Sort.grow (redrawn wr dr) os).cell? ⟨b, off + t * 3 + 2, none⟩ = some (.int .i64 x3) := cell_regrown p2
              have k5 : ∀ dr os, (Go.Sort.grow (redrawn wr dr) os).cell? ⟨p, o + 5, none⟩ = some (.slice (some ⟨b, off, none⟩) n5 c5) := cell_regrown p5
              clear p0 p1 p2
              go_wp2_with fail
              refine wp_region_quiet_below (by kernel_rfl) (by kernel_rfl) ?_
              repeat (go_big_quiet_step (with_reducible exact hcD.out _ _))
              refine wpQuiet_nil ?_
              intro _ hw'
              obtain ⟨⟨dq, osq⟩, hw''⟩ := hw'
              subst hw''
              have hb3 := hbel.trans ((below_regrown wr dq osq).mono hsz)
              clear hcD k0 k1 k2 k5 p5
              generalize Go.Sort.grow (redrawn wr dq) osq = w7 at hb3 ⊢
              go_wp2_with fail
              go_roundw
              case rel => exact ⟨t + 1, _, by go_num, by omega, rfl, hnext.out, hb3⟩
              case measure => simp [intOf]; omega
            · have htn : t = n5 := by omega
              have hfin3 : fs = bS (H3 ++ d.anchors.flatMap anchL) := by rw [hfs.out, List.take_of_length_le (by omega)]
              have p6 := (hbel.cell (p := ⟨p, o + 6, none⟩) hp).trans g6
              replace htn := Lib.hid htn
              by_cases hh0 : d.hints = ⟨#[]⟩
              · have hres : Hid (fs ++ ({ data := #[101, 110, 100, 10] } : ByteArray) = bS (glyphT d)) := by
                  show fs ++ bS [101, 110, 100, 10] = _
                  rw [hfinal.out, hfin3, bS_app, hh0, hint_none, List.append_nil]
                replace hfin3 := Lib.hid hfin3
                rw [hh0] at p6
                replace hh0 := Lib.hid hh0
                go_wp2_with fail
                go_ret
                exact ⟨ret_string hres.out, hbel⟩
              · have hne : d.hints.toList.isEmpty = false := str_ne hh0
                have hhx := hexT_len d.hints.data.toList
                rw [data_len] at hhx
                have hhz : (bS (hexT d.hints.data.toList)).size ≤ 800 := by rw [bS_size]; omega
                have hres : Hid ((fs ++ ((({ data := #[104, 105, 110, 116, 115, 32] } : ByteArray) ++ bS (hexT d.hints.data.toList)) ++ { data := #[10] })) ++ ({ data := #[101, 110, 100, 10] } : ByteArray) = bS (glyphT d)) := by
                  show (fs ++ _) ++ bS [101, 110, 100, 10] = _
                  rw [hint_text hh0, hfinal.out, hfin3, bS_app, bS_app]
                have hcall := Lib.hid (l17Hex_any d.hints wr (by omega))
                replace hfin3 := Lib.hid hfin3
                clear hhx hh0
                go_wp2_with fail
                refine hcall.out.mono ?_
                rintro e w8 ⟨rfl, hb8⟩
                have hb9 := hbel.trans (hb8.mono hsz)
                go_wp2_with fail
                go_ret
                exact ⟨ret_string hres.out, hb9⟩
theorem l17Text_any (p o : Nat) (d : Gl) (h : GlH) (lo hi : Nat) (hg : GlT d) (w : World) (hp : p < w.heap.size) (hc : ∀ i u, (glC d h)[i]? = some u → w.cell? ⟨p, o + i, none⟩ = some u) (hr : GlRd w lo hi d h) (hhi : hi ≤ w.heap.size) :
    Calls Try.prog 45 #[.pointer (some ⟨p, o, none⟩)] w fun e w' => e = .returned (.string (bS (glyphT d))) ∧ Below w.heap.size w w' :=
  l17Text_flat p o d h.out.A h.parts.A h.anchors.A h.out.n h.out.c h.parts.n h.parts.c h.anchors.n h.anchors.c lo hi hg w hp (hc 0 _ rfl) (hc 1 _ rfl) (hc 2 _ rfl) (hc 3 _ rfl) (hc 4 _ rfl) (hc 5 _ rfl) (hc 6 _ rfl) hr.1 hr.2.1 hr.2.2 hhi

/-- the text of a glyph, if it is valid -/
def glR (d : Gl) : ByteArray := if glyphOk d = true then bS (glyphT d) else ⟨#[]⟩
theorem specGlyphText_any (d : Gl) (h : GlH) (lo hi : Nat) (w : World) (hr : GlRd w lo hi d h) (hhi : hi ≤ w.heap.size) (hm : d.small 1000000000) (hs : d.str) :
    Calls Try.prog 15 #[glV d h] w fun e w' => e = .returned (.string (glR d)) ∧ Below w.heap.size w w' := by
  obtain ⟨w0, hw0⟩ : ∃ w0, w0 = w.alloc (.cells (glC d h).toArray 39 (0, 0)) := ⟨_, rfl⟩
  have hb0 : Below w.heap.size w w0 := by rw [hw0]; exact Go.Joins.below_alloc1 _ _
  have hz0 : w.heap.size < w0.heap.size := by rw [hw0]; simp
  have hcc : ∀ (w' : World), Below w0.heap.size w0 w' → ∀ (i : Nat) (u : Value), (glC d h)[i]? = some u → w'.cell? ⟨w.heap.size, 0 + i, none⟩ = some u := fun w' hb' i u hu => by
    rw [Nat.zero_add, hb'.cell (by exact hz0), hw0, Go.Joins.cell_of_block (heap_alloc_new w _)]
    simpa using hu
  have hcv := Lib.hid (l17Glyph_any w.heap.size 0 d h _ rfl lo hi w0 hz0 (hcc w0 (Below.refl _ _)) (hr.frame (Below.sameB hb0 hhi)) (by omega) hm (by unfold Gl.str maxLen at hs; exact ⟨by omega, by omega, fun a ha => by have := hs.2.2 a ha; omega⟩))
  have hct := Lib.hid (fun (hg : GlT d) (w' : World) (hb' : Below w0.heap.size w0 w') => l17Text_any w.heap.size 0 d h lo hi hg w' (by have := hb'.size; omega) (hcc w' hb') (hr.frame ((Below.sameB hb0 hhi).trans (Below.sameB hb' (by omega)))) (by have := hb'.size; omega))
  have hg := Lib.hid (fun h => glyphOk_is (g := d) h)
  clear hcc hr hm hs
  go_enter Try.func15, Try.ntmps15
  go_wp2_with fail
  rw [show (Obj.cells #[.string d.name, .int .i64 d.code, .int .i64 d.adv, .slice h.out.A h.out.n h.out.c, .slice h.parts.A h.parts.n h.parts.c, .slice h.anchors.A h.anchors.n h.anchors.c, .string d.hints] 39 (0, 0)) = .cells (glC d h).toArray 39 (0, 0) from rfl, ← hw0]
  refine hcv.out.mono ?_
  rintro e w1 ⟨rfl, hb1⟩
  cases hv : glyphOk d
  · have hR : Hid (glR d = ⟨#[]⟩) := by show glR d = _; unfold glR; rw [if_neg (by rw [hv]; simp)]
    replace hv := Lib.hid hv
    go_wp2_with fail
    go_ret
    exact ⟨ret_string hR.out.symm, hb0.trans (hb1.mono hb0.size)⟩
  · have hR : Hid (glR d = bS (glyphT d)) := by show glR d = _; unfold glR; rw [if_pos hv]
    have hcT := hct.out (hg.out hv) w1 hb1
    replace hv := Lib.hid hv
    replace hcT := Lib.hid hcT
    go_wp2_with fail
    refine hcT.out.mono ?_
    rintro e w2 ⟨rfl, hb2⟩
    go_wp2_with fail
    go_ret
    exact ⟨ret_string hR.out.symm, (hb0.trans (hb1.mono hb0.size)).trans (hb2.mono (by have := hb1.size; omega))⟩
end Go.Proofs.Ytgnjohkfgllhmaa

/- A region that draws its order, whose last operations wait for all that stand ahead of them, and whose head only reads and makes memory: its head in the text's order, its tail behind it. No program in sight. Conditions: as each states. -/
namespace Go.Proofs.Ytgnjohkfgllhmaa
open Go.RowKit
set_option linter.unusedVariables false
set_option maxRecDepth 100000

theorem wp_region_headq {P : Program} {Q : Exit → Act → World → Prop} {id : Nat} {a : Act} {w : World} {l : List Oper} (n : Nat) (hm : P.follows .mixedOrders = true) (hB : headRB l n = true) (hL : Region.lexB .any (l.take n).toArray = true)
    (h : wpQuiet P (l.take n).toArray (fun w' => ∃ p : Regrown, w' = Go.Sort.grow (redrawn w p.d) p.os) (fun a' => ∀ w', (∃ p : Regrown, w' = Go.Sort.grow (redrawn w p.d) p.os) → wpList P l.toArray Q (l.drop n) a' w') (l.take n) a) : (Code.region id l.toArray true).wp P Q a w := by
  simp only [headRB, Bool.and_eq_true, decide_eq_true_eq] at hB
  obtain ⟨⟨⟨⟨hn, hs⟩, hc⟩, hb⟩, hq⟩ := hB
  have inv0 : HeadInv .any l.toArray n (Array.replicate l.length false) :=
    ⟨by simp, fun j oj _ hl => (by rw [getD_replicate_false] at hl; cases hl), fun t _ ht => getD_in (by simpa using ht) (getD_replicate_false _ _)⟩
  have r0 : HRel n l (Array.replicate n false) (Array.replicate l.length false) :=
    ⟨by simp, by simp, hn, fun j hj => by rw [getD_in (by simp; omega) (getD_replicate_false _ _), getD_in (by simp; omega) (getD_replicate_false _ _)], fun t _ ht => getD_in (by simpa using ht) (getD_replicate_false _ _)⟩
  simp only [Region.lexB, Bool.and_eq_true] at hL
  have hsz : (l.take n).toArray.size = n := by simp; omega
  have hlex := wpAnyQ_lex (P := P) (C := fun w' => ∃ p : Regrown, w' = Go.Sort.grow (redrawn w p.d) p.os) (Q := fun a' => ∀ w', (∃ p : Regrown, w' = Go.Sort.grow (redrawn w p.d) p.os) → wpList P l.toArray Q (l.drop n) a' w') (md := .any) hL.1 (l.take n) 0 (Array.replicate (l.take n).toArray.size false) a (by simp) (by simpa using hL.2) h
  refine wp_region_any hm ?_
  have h1 : wpAny P .any (l.take n).toArray (QTail P l.toArray (l.drop n) Q) n (Array.replicate n false) a { w with drawn := w.drawn + 1 } := by
    refine wpAny_of_quiet (C := fun w' => ∃ p : Regrown, w' = Go.Sort.grow (redrawn w p.d) p.os) (Q := fun a' => ∀ w', (∃ p : Regrown, w' = Go.Sort.grow (redrawn w p.d) p.os) → wpList P l.toArray Q (l.drop n) a' w') (fun a' w' hw' h => h w' hw') n _ a _ ⟨⟨w.drawn + 1, #[]⟩, by rw [Go.Sort.grow_empty]; rfl⟩ ?_
    have := hlex
    simp only [hsz] at this
    have hl2 : (l.take n).length = n := by simp; omega
    rw [hl2] at this
    exact this
  have := wpAny_of_take hs hc hb hq n _ _ a _ r0 inv0 h1
  rw [show n + (l.length - n) = l.toArray.size by simp; omega] at this
  simpa using this
end Go.Proofs.Ytgnjohkfgllhmaa

/- The text of a glyph, the program's. Conditions: as each states. -/
namespace Go.Proofs.Ytgnjohkfgllhmaa
open Go.RowKit
set_option linter.unusedVariables false
set_option maxRecDepth 100000

theorem bS_data (l : List UInt8) : (bS l).data.toList = l := rfl

set_option maxHeartbeats 8000000 in
theorem implGlyphText_flat (d : Gl) (A3 A4 A5 : Option Addr) (n3 c3 n4 c4 n5 c5 lo hi : Nat) (w : World)
    (hr0 : OutRd w lo hi A3 n3 d.out) (hr1 : RdS 3 (FlatR partC) w lo hi A4 n4 d.parts) (hr2 : RdS 3 (FlatR anchC) w lo hi A5 n5 d.anchors) (hhi : hi ≤ w.heap.size) (hm : d.small 1000000000) (hs : d.str) (hcap : n5 ≤ c5) :
    Calls Try.prog 17 #[.agg #[.string d.name, .int .i64 d.code, .int .i64 d.adv, .slice A3 n3 c3, .slice A4 n4 c4, .slice A5 n5 c5, .string d.hints]] w fun e w' => e = .returned (.string (glR d)) ∧ Below w.heap.size w w' := by
  have hol := hr0.1
  have hpl := hr1.1
  have hal := hr2.1
  have hb0 : Below w.heap.size w (w.alloc (.cells #[.string d.name, .int .i64 d.code, .int .i64 d.adv, .slice A3 n3 c3, .slice A4 n4 c4, .slice A5 n5 c5, .string d.hints] 39 (0, 0))) := Go.Joins.below_alloc1 _ _
  have hz0 : w.heap.size < (w.alloc (.cells #[.string d.name, .int .i64 d.code, .int .i64 d.adv, .slice A3 n3 c3, .slice A4 n4 c4, .slice A5 n5 c5, .string d.hints] 39 (0, 0))).heap.size := by simp
  have HB := Lib.hid (heap_alloc_new w (.cells #[.string d.name, .int .i64 d.code, .int .i64 d.adv, .slice A3 n3 c3, .slice A4 n4 c4, .slice A5 n5 c5, .string d.hints] 39 (0, 0)))
  have hcv := Lib.hid (fun W (hS : SameB lo hi w W) (hz : hi ≤ W.heap.size) => implValidG_any d ⟨⟨A3, n3, c3⟩, ⟨A4, n4, c4⟩, ⟨A5, n5, c5⟩⟩ _ rfl lo hi W ⟨hr0.frame good_loop hS, hr1.frame (good_flat _) hS, hr2.frame (good_flat _) hS⟩ hz hm (by unfold Gl.str maxLen at hs; exact ⟨by omega, by omega, fun a ha => by have := hs.2.2 a ha; omega⟩) hcap)
  replace hr0 := Lib.hid hr0
  replace hr1 := Lib.hid hr1
  replace hr2 := Lib.hid hr2
  have hgt := Lib.hid (fun h => glyphOk_is (g := d) h)
  clear hm hs
  go_enter Try.func17, Try.ntmps17
  go_wp2_with fail
  generalize (w.alloc (.cells #[.string d.name, .int .i64 d.code, .int .i64 d.adv, .slice A3 n3 c3, .slice A4 n4 c4, .slice A5 n5 c5, .string d.hints] 39 (0, 0))) = w0 at *
  refine (hcv.out w0 (Below.sameB hb0 hhi) (by omega)).mono ?_
  rintro e w1 ⟨rfl, hb1⟩
  have hB1 := hb0.trans (hb1.mono hb0.size)
  have hz1 := hB1.size
  have HB1 := Lib.hid ((hb1.block _ hz0).trans HB.out)
  have hz1' : w.heap.size < w1.heap.size := by have := hb1.size; omega
  clear hb1 HB hcv
  cases hv : glyphOk d
  · have hR : Hid (glR d = ⟨#[]⟩) := by show glR d = _; unfold glR; rw [if_neg (by rw [hv]; simp)]
    replace hv := Lib.hid hv
    go_wp2_with fail
    go_ret
    exact ⟨ret_string hR.out.symm, hB1⟩
  have hR : Hid (glR d = bS (glyphT d)) := by show glR d = _; unfold glR; rw [if_pos hv]
  have hg := hgt.out hv
  have hp6 := hg.pl
  have ha6 := hg.al
  have hh400 := hg.hl
  have hnm := hg.nm
  have hout := Lib.hid hg.out
  obtain ⟨hc1, hc2⟩ := hg.code
  obtain ⟨ha1, ha2⟩ := hg.adv
  have hdc := decS_sz (n := d.code) (by omega) (by omega)
  have hda := decS_sz (n := d.adv) (by omega) (by omega)
  have hHl := headT_len hg
  have hLm := Lib.hid (loops_max hg)
  have hPm := Lib.hid (parts_max hg)
  have hAm := Lib.hid (anchs_max hg)
  have hHm := hintL_len hg.hl
  have hps := Lib.hid hg.ps
  have has := Lib.hid hg.ans
  obtain ⟨ho12, _⟩ := outOk_is hg.out
  replace hg := Lib.hid hg
  replace hv := Lib.hid hv
  have hbn := Lib.hid (bld_new w1)
  have hb2 : Below w1.heap.size w1 (w1.alloc (.cells #[.pointer none, .slice none 0 0] 99 (0, 0))) := Go.Joins.below_alloc1 _ _
  have HB2 := Lib.hid ((hb2.block _ hz1').trans HB1.out)
  have hz2 : w1.heap.size < (w1.alloc (.cells #[.pointer none, .slice none 0 0] 99 (0, 0))).heap.size := by simp
  clear HB1 hgt
  go_wp2_with fail
  generalize (w1.alloc (.cells #[.pointer none, .slice none 0 0] 99 (0, 0))) = w2 at *
  have hz21 : w1.heap.size ≤ w2.heap.size := by omega
  have k0 : ∀ dr os, (Go.Sort.grow (redrawn w2 dr) os).cell? ⟨w.heap.size, 0, none⟩ = some (.string d.name) := cell_regrown (by rw [Go.Joins.cell_of_block HB2.out]; rfl)
  have k1 : ∀ dr os, (Go.Sort.grow (redrawn w2 dr) os).cell? ⟨w.heap.size, 1, none⟩ = some (.int .i64 d.code) := cell_regrown (by rw [Go.Joins.cell_of_block HB2.out]; rfl)
  have k2 : ∀ dr os, (Go.Sort.grow (redrawn w2 dr) os).cell? ⟨w.heap.size, 2, none⟩ = some (.int .i64 d.adv) := cell_regrown (by rw [Go.Joins.cell_of_block HB2.out]; rfl)
  have hcN := Lib.hid (fun dr os => Calls.regrown_of (implDec_any d.code (Go.Sort.grow (redrawn w2 dr) os) (by omega) (by omega)))
  have hcD := Lib.hid (fun dr os => Calls.regrown_of (implDec_any d.adv (Go.Sort.grow (redrawn w2 dr) os) (by omega) (by omega)))
  refine wp_region_headq 14 (by kernel_rfl) (by kernel_rfl) (by kernel_rfl) ?_
  simp only [List.take_succ_cons, List.take_zero, List.drop_succ_cons, List.drop_zero]
  repeat (go_big_quiet_step (first | (with_reducible exact hcN.out _ _) | (with_reducible exact hcD.out _ _)))
  refine wpQuiet_nil ?_
  intro _ hw'
  obtain ⟨⟨dq, osq⟩, hw''⟩ := hw'
  subst hw''
  have hg3 := below_regrown w2 dq osq
  clear k0 k1 k2 hcN hcD
  generalize Go.Sort.grow (redrawn w2 dq) osq = w3 at hg3 ⊢
  have hz3 := hg3.size
  have hbd3 := Lib.hid (hbn.out.kept hg3)
  obtain ⟨S0, hS0⟩ : ∃ S : ByteArray, S = ((((((⟨#[103, 108, 121, 112, 104, 32]⟩ : ByteArray) ++ d.name) ++ ⟨#[32]⟩) ++ decS d.code) ++ ⟨#[32]⟩) ++ decS d.adv) ++ ⟨#[10]⟩ := ⟨_, rfl⟩
  rw [← hS0]
  rw [head_text] at hS0
  have hS0z : S0.size ≤ 61 := by rw [hS0]; exact hHl
  replace hS0 := Lib.hid hS0
  go_wp2_with fail
  refine (writeString_any w1.heap.size w1.heap.size [] S0 w3 hbd3.out (by simp; omega) (by omega)).mono ?_
  rintro e w4 ⟨rfl, hbd4, hc4, _⟩
  have hB24 : Below w1.heap.size w2 w4 := (hg3.mono hz21).trans hc4
  have hBox : Hid (∀ W : World, Below w1.heap.size w2 W → W.heap[w.heap.size]? = some (.cells #[.string d.name, .int .i64 d.code, .int .i64 d.adv, .slice A3 n3 c3, .slice A4 n4 c4, .slice A5 n5 c5, .string d.hints] 39 (0, 0))) := fun W h => (h.block _ hz1').trans HB2.out
  have hWd : Hid (∀ W : World, Below w1.heap.size w2 W → Below w.heap.size w W) := fun W h => hB1.trans ((hb2.trans h).mono hz1)
  obtain ⟨H, hH⟩ : ∃ H, H = headT d.name.data.toList d.code d.adv := ⟨_, rfl⟩
  rw [← hH] at hHl hS0
  have hbd4' : Hid (Bld w4 w1.heap.size w1.heap.size H) := by
    show Bld _ _ _ _
    have h1 := hbd4
    rw [hS0.out, bS_data, List.nil_append] at h1
    exact h1
  have hfinal : Hid (glyphT d = H ++ d.out.flatMap loopL ++ d.parts.flatMap partL ++ d.anchors.flatMap anchL ++ hintL d.hints.data.toList ++ [101, 110, 100, 10]) := by rw [hH]; rfl
  replace hH := Lib.hid hH
  have hz4 : w1.heap.size < w4.heap.size := by have := hB24.size; omega
  clear hbd4 hbd3 hbn hc4 hg3 HB2 hS0 hS0z hz3
  have gc3 : w4.cell? ⟨w.heap.size, 3, none⟩ = some (.slice A3 n3 c3) := by rw [Go.Joins.cell_of_block (hBox.out w4 hB24)]; rfl
  have gl4 : w.heap.size < w4.heap.size := by omega
  go_wp2_with fail
  clear gc3 gl4
  go_loopw [32] (fun i wr => ∃ (k : Nat) (ds : List UInt8), i = .int .i64 k ∧ k ≤ n3 ∧ ds = H ++ (d.out.take k).flatMap loopL ∧ Bld wr w1.heap.size w1.heap.size ds ∧ Below w1.heap.size w2 wr) (fun i wr => n3 - (intOf i).toNat)
  case atStart => exact ⟨0, H, rfl, Nat.zero_le _, by simp, hbd4'.out, hB24⟩
  case round =>
    clear hbd4' hB24 hz4
    obtain ⟨k, ds, rfl, hk, hds, hbld, hbel⟩ := hrel
    have hdz : ds.length ≤ 31093 := by
      rw [hds, List.length_append]
      have := hLm.out k
      omega
    have hwb := hWd.out wr hbel
    have hsz := hwb.size
    have hXw := (hbld.lt).2
    replace hds := Lib.hid hds
    by_cases hlt : k < n3
    · obtain ⟨b, off, K, A2, n2, c2, rfl, hb0', hbh, hja, qk, hmx, hrk⟩ := out_at (hr0.out.frame good_loop (Below.sameB hwb hhi)) hlt
      have hKok := (outOk_is hout.out).2 K (List.mem_of_getElem? hja)
      have hn2 := hrk.1
      subst hn2
      have hKz : (loopT K).length ≤ 2580 := loopT_max hKok
      have hbw : b < wr.heap.size := by omega
      have hcall := Lib.hid (fun W (hS : SameB 0 wr.heap.size wr W) (hzW : wr.heap.size ≤ W.heap.size) => loopText_any A2 K.length c2 lo hi K hKok W (hrk.frame (good_flat _) (hS.mono (Nat.zero_le _) (by omega))) (by omega))
      have hnext : Hid (ds ++ ((({ data := #[108, 111, 111, 112, 32] } : ByteArray) ++ bS (loopT K)) ++ { data := #[10] }).data.toList = H ++ (d.out.take (k + 1)).flatMap loopL) := by
        show ds ++ _ = _
        rw [loop_text, bS_data, hds.out, flat_take loopL hja, List.append_assoc]
      have hsz9 : ((({ data := #[108, 111, 111, 112, 32] } : ByteArray) ++ bS (loopT K)) ++ { data := #[10] }).size ≤ 2590 := by
        rw [loop_text, bS_size]; have := loopL_len hKok; omega
      replace hsz9 := Lib.hid hsz9
      have hKz2 : (bS (loopT K)).size ≤ 2580 := hKz
      replace hbld := Lib.hid hbld
      clear hja hKok hrk hmx hb0' hbh
      go_wp2_with fail
      refine (hcall.out _ ((SameB.refl _ _ wr).alloc (Nat.le_refl _) _) (by simp)).mono ?_
      rintro e w5 ⟨rfl, hc5⟩
      have hb5 : Below wr.heap.size wr w5 := (Go.Joins.below_alloc1 wr _).trans (hc5.mono (by simp))
      have hbd5 := hbld.out.kept hb5
      have hz5 := hb5.size
      clear hc5
      go_wp2_with fail
      refine (writeString_any w1.heap.size w1.heap.size ds _ w5 hbd5 (by have := hsz9.out; omega) (by omega)).mono ?_
      rintro e w6 ⟨rfl, hbd6, hc6, _⟩
      have hb6 : Below w1.heap.size w2 w6 := (hbel.trans (hb5.mono (by omega))).trans hc6
      replace hbd6 := Lib.hid hbd6
      clear hc6 hbd5
      go_wp2_with fail
      go_roundw
      case rel => exact ⟨k + 1, _, by go_num, by omega, hnext.out, hbd6.out, hb6⟩
      case measure => simp [intOf]; omega
    · have hkn : k = n3 := by omega
      obtain ⟨H2, hH2⟩ : ∃ H2, H2 = H ++ d.out.flatMap loopL := ⟨_, rfl⟩
      have hfin1 : ds = H2 := by rw [hds.out, hH2, List.take_of_length_le (by omega)]
      rw [hfin1] at hbld
      rw [← hH2] at hfinal
      have hH2l : H2.length ≤ 31093 := by rw [← hfin1]; exact hdz
      replace hH2 := Lib.hid hH2
      obtain ⟨w5, hw5⟩ : ∃ v, v = wr := ⟨_, rfl⟩
      subst hw5
      have hB25 := hbel
      have hbd5 := Lib.hid hbld
      have gl5 : w.heap.size < w5.heap.size := by omega
      have gc4 : w5.cell? ⟨w.heap.size, 4, none⟩ = some (.slice A4 n4 c4) := by rw [Go.Joins.cell_of_block (hBox.out w5 hB25)]; rfl
      clear hbel hbld hds hdz hfin1 hwb hsz
      replace hkn := Lib.hid hkn
      go_wp2_with fail
      clear gc4 gl5
      go_loopw [45] (fun i wr => ∃ (k : Nat) (ds : List UInt8), i = .int .i64 k ∧ k ≤ n4 ∧ ds = H2 ++ (d.parts.take k).flatMap partL ∧ Bld wr w1.heap.size w1.heap.size ds ∧ Below w1.heap.size w2 wr) (fun i wr => n4 - (intOf i).toNat)
      case atStart => exact ⟨0, H2, rfl, Nat.zero_le _, by simp, hbd5.out, hB25⟩
      case round =>
        clear hbd5 hB25 hXw
        obtain ⟨q, es, rfl, hq, hes, hbld, hbel⟩ := hrel
        have hez : es.length ≤ 31501 := by
          rw [hes, List.length_append]
          have := hPm.out q
          omega
        have hwb := hWd.out wr hbel
        have hsz := hwb.size
        have hXw := (hbld.lt).2
        replace hes := Lib.hid hes
        by_cases hql : q < n4
        · obtain ⟨b, off, x, rfl, _, hb, hx, hcs⟩ := (hr1.out.frame (good_flat _) (Below.sameB hwb hhi)).at hql
          obtain ⟨⟨hx1, hx2⟩, hxv⟩ := hps.out x (List.mem_of_getElem? hx)
          have p0 := hcs 0 _ rfl
          have p1 := hcs 1 _ rfl
          have p2 := hcs 2 _ rfl
          simp only [Nat.add_zero] at p0
          have hbw : b < wr.heap.size := by omega
          have hd20 := decS_sz (n := x.1) (by omega) (by omega)
          have hpz := ptS_size hxv
          have hnext : Hid (es ++ ((((({ data := #[112, 97, 114, 116, 32] } : ByteArray) ++ decS x.1) ++ { data := #[32] }) ++ bS (ptT x.2.1 x.2.2)) ++ { data := #[10] }).data.toList = H2 ++ (d.parts.take (q + 1)).flatMap partL) := by
            show es ++ _ = _
            rw [part_text, bS_data, hes.out, flat_take partL hx, List.append_assoc]
          have hsz9 : Hid (((((({ data := #[112, 97, 114, 116, 32] } : ByteArray) ++ decS x.1) ++ { data := #[32] }) ++ bS (ptT x.2.1 x.2.2)) ++ { data := #[10] }).size ≤ 68) := by
            show _ ≤ _
            rw [part_text, bS_size]; exact partL_len ⟨⟨hx1, hx2⟩, hxv⟩
          have hcN := Lib.hid (fun W => implDec_any x.1 W (by omega) (by omega))
          have hcD := Lib.hid (fun W => ptText_any x.2.1 x.2.2 hxv W)
          clear hcs hx hxv
          obtain ⟨x1, x2, x3⟩ := x
          dsimp only at p0 p1 p2 hd20 hpz hcN hcD hnext hx1 hx2 hsz9
          have ha5 : Below wr.heap.size wr (wr.alloc (.cells #[.int .i64 x1, .int .i64 x2, .int .i64 x3] 32 (0, 0))) := Go.Joins.below_alloc1 _ _
          have HP := Lib.hid (heap_alloc_new wr (.cells #[.int .i64 x1, .int .i64 x2, .int .i64 x3] 32 (0, 0)))
          have hza : (wr.alloc (.cells #[.int .i64 x1, .int .i64 x2, .int .i64 x3] 32 (0, 0))).heap.size = wr.heap.size + 1 := by simp
          replace hbld := Lib.hid hbld
          go_wp2_with fail
          clear p0 p1 p2
          generalize wr.alloc (.cells #[.int .i64 x1, .int .i64 x2, .int .i64 x3] 32 (0, 0)) = w6 at *
          have k0 : ∀ dr os, (Go.Sort.grow (redrawn w6 dr) os).cell? ⟨wr.heap.size, 0, none⟩ = some (.int .i64 x1) := cell_regrown (by rw [Go.Joins.cell_of_block HP.out]; rfl)
          have k1 : ∀ dr os, (Go.Sort.grow (redrawn w6 dr) os).cell? ⟨wr.heap.size, 1, none⟩ = some (.int .i64 x2) := cell_regrown (by rw [Go.Joins.cell_of_block HP.out]; rfl)
          have k2 : ∀ dr os, (Go.Sort.grow (redrawn w6 dr) os).cell? ⟨wr.heap.size, 2, none⟩ = some (.int .i64 x3) := cell_regrown (by rw [Go.Joins.cell_of_block HP.out]; rfl)
          have hcN' := Lib.hid (fun dr os => Calls.regrown_of (hcN.out (Go.Sort.grow (redrawn w6 dr) os)))
          have hcD' := Lib.hid (fun dr os => Calls.regrown_of (hcD.out (Go.Sort.grow (redrawn w6 dr) os)))
          clear HP hcN hcD
          refine wp_region_headq 10 (by kernel_rfl) (by kernel_rfl) (by kernel_rfl) ?_
          simp only [List.take_succ_cons, List.take_zero, List.drop_succ_cons, List.drop_zero]
          repeat (go_big_quiet_step (first | (with_reducible exact hcN'.out _ _) | (with_reducible exact hcD'.out _ _)))
          refine wpQuiet_nil ?_
          intro _ hw'
          obtain ⟨⟨dq, osq⟩, hw''⟩ := hw'
          subst hw''
          have hg7 := ha5.trans ((below_regrown w6 dq osq).mono (by omega))
          clear k0 k1 k2 hcN' hcD' ha5 hza
          generalize Go.Sort.grow (redrawn w6 dq) osq = w7 at hg7 ⊢
          have hz7 := hg7.size
          have hbd7 := hbld.out.kept hg7
          go_wp2_with fail
          refine (writeString_any w1.heap.size w1.heap.size es _ w7 hbd7 (by have := hsz9.out; omega) (by omega)).mono ?_
          rintro e w8 ⟨rfl, hbd8, hc8, _⟩
          have hb8 : Below w1.heap.size w2 w8 := (hbel.trans (hg7.mono (by omega))).trans hc8
          replace hbd8 := Lib.hid hbd8
          clear hc8 hbd7
          go_wp2_with fail
          go_roundw
          case rel => exact ⟨q + 1, _, by go_num, by omega, hnext.out, hbd8.out, hb8⟩
          case measure => simp [intOf]; omega
        · have hqn : q = n4 := by omega
          obtain ⟨H3, hH3⟩ : ∃ H3, H3 = H2 ++ d.parts.flatMap partL := ⟨_, rfl⟩
          have hfin2 : es = H3 := by rw [hes.out, hH3, List.take_of_length_le (by omega)]
          rw [hfin2] at hbld
          rw [← hH3] at hfinal
          have hH3l : H3.length ≤ 31501 := by rw [← hfin2]; exact hez
          replace hH3 := Lib.hid hH3
          obtain ⟨w6, hw6⟩ : ∃ v, v = wr := ⟨_, rfl⟩
          subst hw6
          have hB26 := hbel
          have hbd6 := Lib.hid hbld
          have gl6 : w.heap.size < w6.heap.size := by omega
          have gc5 : w6.cell? ⟨w.heap.size, 5, none⟩ = some (.slice A5 n5 c5) := by rw [Go.Joins.cell_of_block (hBox.out w6 hB26)]; rfl
          clear hbel hbld hes hez hfin2 hwb hsz
          replace hqn := Lib.hid hqn
          go_wp2_with fail
          clear gc5 gl6
          go_loopw [64] (fun i wr => ∃ (k : Nat) (ds : List UInt8), i = .int .i64 k ∧ k ≤ n5 ∧ ds = H3 ++ (d.anchors.take k).flatMap anchL ∧ Bld wr w1.heap.size w1.heap.size ds ∧ Below w1.heap.size w2 wr) (fun i wr => n5 - (intOf i).toNat)
          case atStart => exact ⟨0, H3, rfl, Nat.zero_le _, by simp, hbd6.out, hB26⟩
          case round =>
            clear hbd6 hB26 hXw
            obtain ⟨t, fs, rfl, ht, hfs, hbld, hbel⟩ := hrel
            have hfz : fs.length ≤ 31873 := by
              rw [hfs, List.length_append]
              have := hAm.out t
              omega
            have hwb := hWd.out wr hbel
            have hsz := hwb.size
            have hXw := (hbld.lt).2
            replace hfs := Lib.hid hfs
            by_cases htl : t < n5
            · obtain ⟨b, off, x, rfl, _, hb, hx, hcs⟩ := (hr2.out.frame (good_flat _) (Below.sameB hwb hhi)).at htl
              obtain ⟨hx1, hxv⟩ := has.out x (List.mem_of_getElem? hx)
              have p0 := hcs 0 _ rfl
              have p1 := hcs 1 _ rfl
              have p2 := hcs 2 _ rfl
              simp only [Nat.add_zero] at p0
              have hbw : b < wr.heap.size := by omega
              have hpz := ptS_size hxv
              have hnext : Hid (fs ++ ((((({ data := #[97, 110, 99, 104, 111, 114, 32] } : ByteArray) ++ x.1) ++ { data := #[32] }) ++ bS (ptT x.2.1 x.2.2)) ++ { data := #[10] }).data.toList = H3 ++ (d.anchors.take (t + 1)).flatMap anchL) := by
                show fs ++ _ = _
                rw [anch_text, bS_data, hfs.out, flat_take anchL hx, List.append_assoc]
              have hsz9 : Hid (((((({ data := #[97, 110, 99, 104, 111, 114, 32] } : ByteArray) ++ x.1) ++ { data := #[32] }) ++ bS (ptT x.2.1 x.2.2)) ++ { data := #[10] }).size ≤ 62) := by
                show _ ≤ _
                rw [anch_text, bS_size]; exact anchL_len ⟨hx1, hxv⟩
              have hcD := Lib.hid (fun W => ptText_any x.2.1 x.2.2 hxv W)
              clear hcs hx hxv
              obtain ⟨x1, x2, x3⟩ := x
              dsimp only at p0 p1 p2 hpz hcD hnext hx1 hsz9
              have ha5 : Below wr.heap.size wr (wr.alloc (.cells #[.string x1, .int .i64 x2, .int .i64 x3] 111 (0, 0))) := Go.Joins.below_alloc1 _ _
              have HP := Lib.hid (heap_alloc_new wr (.cells #[.string x1, .int .i64 x2, .int .i64 x3] 111 (0, 0)))
              have hza : (wr.alloc (.cells #[.string x1, .int .i64 x2, .int .i64 x3] 111 (0, 0))).heap.size = wr.heap.size + 1 := by simp
              replace hbld := Lib.hid hbld
              go_wp2_with fail
              clear p0 p1 p2
              generalize wr.alloc (.cells #[.string x1, .int .i64 x2, .int .i64 x3] 111 (0, 0)) = w7 at *
              have k0 : ∀ dr os, (Go.Sort.grow (redrawn w7 dr) os).cell? ⟨wr.heap.size, 0, none⟩ = some (.string x1) := cell_regrown (by rw [Go.Joins.cell_of_block HP.out]; rfl)
              have k1 : ∀ dr os, (Go.Sort.grow (redrawn w7 dr) os).cell? ⟨wr.heap.size, 1, none⟩ = some (.int .i64 x2) := cell_regrown (by rw [Go.Joins.cell_of_block HP.out]; rfl)
              have k2 : ∀ dr os, (Go.Sort.grow (redrawn w7 dr) os).cell? ⟨wr.heap.size, 2, none⟩ = some (.int .i64 x3) := cell_regrown (by rw [Go.Joins.cell_of_block HP.out]; rfl)
              have hcD' := Lib.hid (fun dr os => Calls.regrown_of (hcD.out (Go.Sort.grow (redrawn w7 dr) os)))
              clear HP hcD
              refine wp_region_headq 9 (by kernel_rfl) (by kernel_rfl) (by kernel_rfl) ?_
              simp only [List.take_succ_cons, List.take_zero, List.drop_succ_cons, List.drop_zero]
              repeat (go_big_quiet_step (with_reducible exact hcD'.out _ _))
              refine wpQuiet_nil ?_
              intro _ hw'
              obtain ⟨⟨dq, osq⟩, hw''⟩ := hw'
              subst hw''
              have hg8 := ha5.trans ((below_regrown w7 dq osq).mono (by omega))
              clear k0 k1 k2 hcD' ha5 hza
              generalize Go.Sort.grow (redrawn w7 dq) osq = w8 at hg8 ⊢
              have hz8 := hg8.size
              have hbd8 := hbld.out.kept hg8
              go_wp2_with fail
              refine (writeString_any w1.heap.size w1.heap.size fs _ w8 hbd8 (by have := hsz9.out; omega) (by omega)).mono ?_
              rintro e w9 ⟨rfl, hbd9, hc9, _⟩
              have hb9 : Below w1.heap.size w2 w9 := (hbel.trans (hg8.mono (by omega))).trans hc9
              replace hbd9 := Lib.hid hbd9
              clear hc9 hbd8
              go_wp2_with fail
              go_roundw
              case rel => exact ⟨t + 1, _, by go_num, by omega, hnext.out, hbd9.out, hb9⟩
              case measure => simp [intOf]; omega
            · have htn : t = n5 := by omega
              obtain ⟨H4, hH4⟩ : ∃ H4, H4 = H3 ++ d.anchors.flatMap anchL := ⟨_, rfl⟩
              have hfin3 : fs = H4 := by rw [hfs.out, hH4, List.take_of_length_le (by omega)]
              rw [hfin3] at hbld
              rw [← hH4] at hfinal
              have hH4l : H4.length ≤ 31873 := by rw [← hfin3]; exact hfz
              replace hH4 := Lib.hid hH4
              have hbd7 := Lib.hid hbld
              have gl7 : w.heap.size < wr.heap.size := by omega
              have gc6 : wr.cell? ⟨w.heap.size, 6, none⟩ = some (.string d.hints) := by rw [Go.Joins.cell_of_block (hBox.out wr hbel)]; rfl
              clear hbld hfs hfz hfin3 hsz
              replace htn := Lib.hid htn
              by_cases hh0 : d.hints = ⟨#[]⟩
              · rw [hh0] at gc6
                rw [hh0, hint_none, List.append_nil] at hfinal
                replace hh0 := Lib.hid hh0
                go_wp2_with fail
                refine (writeString_any w1.heap.size w1.heap.size H4 ⟨#[101, 110, 100, 10]⟩ wr hbd7.out (by show _ + 4 ≤ _; omega) (by omega)).mono ?_
                rintro e w8 ⟨rfl, hbd8, hc8, _⟩
                have hb8 : Below w1.heap.size w2 w8 := hbel.trans hc8
                have hbd8' : Hid (Bld w8 w1.heap.size w1.heap.size (glyphT d)) := by show Bld _ _ _ _; rw [hfinal.out]; exact hbd8
                have hz8 : w1.heap.size ≤ w8.heap.size := by have := hc8.size; omega
                clear hbd8 hc8
                go_wp2_with fail
                refine (Try.Builder_String_any w1.heap.size w1.heap.size (glyphT d) w8 hbd8'.out hz8).mono ?_
                rintro e w9 ⟨rfl, hb9⟩
                have hb10 := hWd.out w9 (hb8.trans hb9)
                go_wp2_with fail
                go_ret
                exact ⟨ret_string hR.out.symm, hb10⟩
              · have hne : d.hints.toList.isEmpty = false := str_ne hh0
                have hhx := hexT_len d.hints.data.toList
                rw [data_len] at hhx
                have hhz : (bS (hexT d.hints.data.toList)).size ≤ 800 := by rw [bS_size]; omega
                have hht := hint_text hh0
                have hsz9 : Hid (((({ data := #[104, 105, 110, 116, 115, 32] } : ByteArray) ++ bS (hexT d.hints.data.toList)) ++ { data := #[10] }).size ≤ 807) := by
                  show _ ≤ _
                  rw [hht, bS_size]; exact hHm
                have hnext : Hid (H4 ++ ((({ data := #[104, 105, 110, 116, 115, 32] } : ByteArray) ++ bS (hexT d.hints.data.toList)) ++ { data := #[10] }).data.toList = H4 ++ hintL d.hints.data.toList) := by
                  show _ = _
                  rw [hht, bS_data]
                have hcall := Lib.hid (hexText_any d.hints wr (by omega))
                clear hhx hh0 hht
                go_wp2_with fail
                refine hcall.out.mono ?_
                rintro e w7 ⟨rfl, hc7⟩
                have hbd7' := hbd7.out.kept hc7
                have hz7 := hc7.size
                go_wp2_with fail
                refine (writeString_any w1.heap.size w1.heap.size H4 _ w7 hbd7' (by have := hsz9.out; omega) (by omega)).mono ?_
                rintro e w8 ⟨rfl, hbd8, hc8, _⟩
                rw [hnext.out] at hbd8
                have hb8 : Below w1.heap.size w2 w8 := (hbel.trans (hc7.mono (by omega))).trans hc8
                have hz8 : w1.heap.size ≤ w8.heap.size := by have := hc8.size; omega
                have hl8 : (H4 ++ hintL d.hints.data.toList).length ≤ 40000 := by rw [List.length_append]; omega
                clear hc8 hc7 hbd7'
                go_wp2_with fail
                refine (writeString_any w1.heap.size w1.heap.size (H4 ++ hintL d.hints.data.toList) ⟨#[101, 110, 100, 10]⟩ w8 hbd8 (by show _ + 4 ≤ _; omega) (by omega)).mono ?_
                rintro e w9 ⟨rfl, hbd9, hc9, _⟩
                have hb9 : Below w1.heap.size w2 w9 := hb8.trans hc9
                have hbd9' : Hid (Bld w9 w1.heap.size w1.heap.size (glyphT d)) := by show Bld _ _ _ _; rw [hfinal.out]; exact hbd9
                have hz9 : w1.heap.size ≤ w9.heap.size := by have := hc9.size; omega
                clear hbd9 hc9 hbd8
                go_wp2_with fail
                refine (Try.Builder_String_any w1.heap.size w1.heap.size (glyphT d) w9 hbd9'.out hz9).mono ?_
                rintro e w10 ⟨rfl, hb10⟩
                have hb11 := hWd.out w10 (hb9.trans hb10)
                go_wp2_with fail
                go_ret
                exact ⟨ret_string hR.out.symm, hb11⟩
theorem implGlyphText_any (d : Gl) (h : GlH) (lo hi : Nat) (w : World) (hr : GlRd w lo hi d h) (hhi : hi ≤ w.heap.size) (hm : d.small 1000000000) (hs : d.str) (hcap : h.anchors.n ≤ h.anchors.c) :
    Calls Try.prog 17 #[glV d h] w fun e w' => e = .returned (.string (glR d)) ∧ Below w.heap.size w w' :=
  implGlyphText_flat d h.out.A h.parts.A h.anchors.A h.out.n h.out.c h.parts.n h.parts.c h.anchors.n h.anchors.c lo hi w hr.1 hr.2.1 hr.2.2 hhi hm hs hcap
end Go.Proofs.Ytgnjohkfgllhmaa

/- The text of a set of glyphs, both sides. Conditions: as each states. -/
namespace Go.Proofs.Ytgnjohkfgllhmaa
open Go.RowKit
set_option linter.unusedVariables false
set_option maxRecDepth 100000

structure SetT (d : GSet) : Prop where
  unit : 16 ≤ d.unit ∧ d.unit ≤ 16384
  n : d.gl.length ≤ 40
  g : ∀ g ∈ d.gl, glyphOk g = true
theorem setOk_is {d : GSet} (h : setOk d = true) : SetT d := by
  unfold setOk at h
  simp only [Bool.and_eq_true, decide_eq_true_eq] at h
  exact ⟨inB_iff.1 h.1.1.1, h.1.1.2, glOk_all rfl h.1.2⟩
def unitT (u : Int) : List UInt8 := [117, 110, 105, 116, 32] ++ decL u ++ [10]
theorem unit_text (u : Int) : (((⟨#[117, 110, 105, 116, 32]⟩ : ByteArray) ++ decS u) ++ ⟨#[10]⟩) = bS (unitT u) := by
  show ((bS [117, 110, 105, 116, 32]) ++ bS (decL u)) ++ bS [10] = _
  simp only [bS_app]
  rfl
theorem unitT_len {u : Int} (h1 : -1000000 ≤ u) (h2 : u ≤ 1000000) : (unitT u).length ≤ 26 := by
  have := dec_20 h1 h2
  unfold unitT
  simp only [List.length_append, List.length_cons, List.length_nil]
  omega
theorem sets_max {d : GSet} (h : SetT d) (k : Nat) : ((d.gl.take k).flatMap glyphT).length ≤ 1320000 := flat_take_max (fun g hg => glyphT_max (glyphOk_is (h.g g hg))) h.n k
/-- the text of a set, if it is valid -/
def setR (d : GSet) : ByteArray := if setOk d = true then bS (setT d) else ⟨#[]⟩

set_option maxHeartbeats 4000000 in
theorem l17SetText_any (p o : Nat) (d : GSet) (A : Option Addr) (n c lo hi : Nat) (hv : SetT d) (w : World) (hp : p < w.heap.size) (g0 : w.cell? ⟨p, o, none⟩ = some (.int .i64 d.unit)) (g1 : w.cell? ⟨p, o + 1, none⟩ = some (.slice A n c)) (hr : GsRd w lo hi A n d.gl) (hhi : hi ≤ w.heap.size) :
    Calls Try.prog 59 #[.pointer (some ⟨p, o, none⟩)] w fun e w' => e = .returned (.string (bS (setT d))) ∧ Below w.heap.size w w' := by
  have hll := hr.1
  have hn40 := hv.n
  obtain ⟨hu1, hu2⟩ := hv.unit
  have hul := unitT_len (u := d.unit) (by omega) (by omega)
  have hdu := decS_sz (n := d.unit) (by omega) (by omega)
  have hsm := Lib.hid (sets_max hv)
  have hgo := Lib.hid hv.g
  have hcd := Lib.hid (l01Dec_any d.unit w (by omega) (by omega))
  replace hr := Lib.hid hr
  clear hv
  go_enter Try.func59, Try.ntmps59
  go_wp2_with fail
  refine hcd.out.mono ?_
  rintro e w1 ⟨rfl, hb1⟩
  obtain ⟨S0, hS0⟩ : ∃ S : ByteArray, S = ((⟨#[117, 110, 105, 116, 32]⟩ : ByteArray) ++ decS d.unit) ++ ⟨#[10]⟩ := ⟨_, rfl⟩
  have hS0z : S0.size ≤ 26 := by rw [hS0, unit_text]; exact hul
  have hz1 := hb1.size
  clear hcd
  go_wp2_with fail
  rw [← hS0]
  rw [unit_text] at hS0
  replace hS0 := Lib.hid hS0
  go_loopw [3, 4] (fun out i wr => ∃ (k : Nat) (ds : ByteArray), i = .int .i64 k ∧ k ≤ n ∧ out = .string ds ∧ ds = bS (unitT d.unit ++ (d.gl.take k).flatMap glyphT) ∧ Below w.heap.size w wr) (fun out i wr => n - (intOf i).toNat)
  case atStart => exact ⟨0, S0, rfl, Nat.zero_le _, rfl, by rw [hS0.out]; simp, hb1⟩
  case round =>
    clear hS0 hS0z hb1 hz1
    obtain ⟨k, ds, rfl, hk, rfl, hds, hbel⟩ := hrel
    have hdz : ds.size ≤ 1320026 := by
      rw [hds, bS_size, List.length_append]
      have := hsm.out k
      omega
    have hsz := hbel.size
    have c1 : wr.cell? ⟨p, o + 1, none⟩ = some (.slice A n c) := (hbel.cell hp).trans g1
    have hpw : p < wr.heap.size := by omega
    replace hds := Lib.hid hds
    by_cases hlt : k < n
    · obtain ⟨b, off, dg, hh, rfl, hb0, hb, hja, hcs, hrd⟩ := gs_at (hr.out.frame good_glyph (Below.sameB hbel hhi)) hlt
      have hgt := glyphOk_is (hgo.out dg (List.mem_of_getElem? hja))
      have hki : (k : Int) < (n : Int) := by omega
      have hk0 : (0 : Int) ≤ (k : Int) := by omega
      have hbw : b < wr.heap.size := by omega
      have hcall := Lib.hid (l17Text_any b (off + k * 7) dg hh lo hi hgt wr hbw hcs hrd (by omega))
      have hgz : (bS (glyphT dg)).size ≤ 33000 := glyphT_max hgt
      have hnext : Hid (ds ++ bS (glyphT dg) = bS (unitT d.unit ++ (d.gl.take (k + 1)).flatMap glyphT)) := by
        show ds ++ _ = _
        rw [hds.out, bS_app, flat_take glyphT hja, List.append_assoc]
      clear hcs hrd hgt hja hb0 hb
      go_wp2_with fail
      refine hcall.out.mono ?_
      rintro e w3 ⟨rfl, hb3⟩
      have hb4 := hbel.trans (hb3.mono hsz)
      go_wp2_with fail
      go_roundw
      case rel => exact ⟨k + 1, _, by go_num, by omega, rfl, hnext.out, hb4⟩
      case measure => simp [intOf]; omega
    · have hkn : k = n := by omega
      have hfin : Hid (ds = bS (setT d)) := by
        show ds = _
        rw [hds.out, List.take_of_length_le (by omega)]
        rfl
      replace hkn := Lib.hid hkn
      go_wp2_with fail
      go_ret
      exact ⟨ret_string hfin.out, hbel⟩
theorem specSetText_any (d : GSet) (h : GSetH) (r0 : ByteArray) (heq : r0 = setR d) (lo hi : Nat) (w : World) (hr : GSetRd w lo hi d h) (hhi : hi ≤ w.heap.size) (hm : d.small 1000000000) (hs : ∀ g ∈ d.gl, g.str) :
    Calls Try.prog 20 #[gsV d h] w fun e w' => e = .returned (.string r0) ∧ Below w.heap.size w w' := by
  have hn := (hm.gl (n := h.gl.n) hr.1).1
  have hb0 : Below w.heap.size w (w.alloc (.cells #[.int .i64 d.unit, .slice h.gl.A h.gl.n h.gl.c] 26 (0, 0))) := Go.Joins.below_alloc1 _ _
  have hz0 : w.heap.size < (w.alloc (.cells #[.int .i64 d.unit, .slice h.gl.A h.gl.n h.gl.c] 26 (0, 0))).heap.size := by simp
  have HB := Lib.hid (heap_alloc_new w (.cells #[.int .i64 d.unit, .slice h.gl.A h.gl.n h.gl.c] 26 (0, 0)))
  replace hr := Lib.hid hr
  replace hs := Lib.hid hs
  replace hm := Lib.hid hm
  go_enter Try.func20, Try.ntmps20
  go_wp2_with fail
  generalize w.alloc (.cells #[.int .i64 d.unit, .slice h.gl.A h.gl.n h.gl.c] 26 (0, 0)) = w0 at *
  have k0 : w0.cell? ⟨w.heap.size, 0, none⟩ = some (.int .i64 d.unit) := by rw [Go.Joins.cell_of_block HB.out]; rfl
  have k1 : w0.cell? ⟨w.heap.size, 0 + 1, none⟩ = some (.slice h.gl.A h.gl.n h.gl.c) := by rw [Go.Joins.cell_of_block HB.out]; rfl
  refine (l17Ok_any w.heap.size 0 d.unit h.gl.A h.gl.n h.gl.c lo hi d.gl _ rfl w0 hz0 k0 k1 (hr.out.frame good_glyph (Below.sameB hb0 hhi)) (by omega) (by omega) hm.out.g hs.out).mono ?_
  rintro e w1 ⟨rfl, hb1⟩
  rw [show (⟨d.unit, d.gl⟩ : GSet) = d from rfl]
  have hB1 := hb0.trans (hb1.mono hb0.size)
  have k0' := (hb1.cell (p := ⟨w.heap.size, 0, none⟩) hz0).trans k0
  have k1' := (hb1.cell (p := ⟨w.heap.size, 0 + 1, none⟩) hz0).trans k1
  have hz1 : w.heap.size < w1.heap.size := by have := hb1.size; omega
  cases hv : setOk d
  · have hR : Hid (r0 = ⟨#[]⟩) := by show r0 = _; rw [heq]; unfold setR; rw [if_neg (by rw [hv]; simp)]
    replace hv := Lib.hid hv
    clear heq
    go_wp2_with fail
    go_ret
    exact ⟨ret_string hR.out.symm, hB1⟩
  · have hR : Hid (r0 = bS (setT d)) := by show r0 = _; rw [heq]; unfold setR; rw [if_pos hv]
    have hcT := Lib.hid (l17SetText_any w.heap.size 0 d h.gl.A h.gl.n h.gl.c lo hi (setOk_is hv) w1 hz1 k0' k1' (hr.out.frame good_glyph (Below.sameB hB1 hhi)) (by omega))
    replace hv := Lib.hid hv
    clear heq k0 k1 k0' k1'
    go_wp2_with fail
    refine hcT.out.mono ?_
    rintro e w2 ⟨rfl, hb2⟩
    have hB2 := hB1.trans (hb2.mono hB1.size)
    go_wp2_with fail
    go_ret
    exact ⟨ret_string hR.out.symm, hB2⟩

set_option maxHeartbeats 4000000 in
theorem implSetText_any (d : GSet) (h : GSetH) (r0 : ByteArray) (heq : r0 = setR d) (lo hi : Nat) (w : World) (hr : GSetRc w lo hi d h) (hhi : hi ≤ w.heap.size) (hm : d.small 1000000000) (hs : ∀ g ∈ d.gl, g.str) :
    Calls Try.prog 22 #[gsV d h] w fun e w' => e = .returned (.string r0) ∧ Below w.heap.size w w' := by
  have hll := hr.1
  have hn := (hm.gl (n := h.gl.n) hr.1).1
  have hb0 : Below w.heap.size w (w.alloc (.cells #[.int .i64 d.unit, .slice h.gl.A h.gl.n h.gl.c] 26 (0, 0))) := Go.Joins.below_alloc1 _ _
  have hz0 : w.heap.size < (w.alloc (.cells #[.int .i64 d.unit, .slice h.gl.A h.gl.n h.gl.c] 26 (0, 0))).heap.size := by simp
  have HB := Lib.hid (heap_alloc_new w (.cells #[.int .i64 d.unit, .slice h.gl.A h.gl.n h.gl.c] 26 (0, 0)))
  have hcv := Lib.hid (fun W (hS : SameB lo hi w W) (hz : hi ≤ W.heap.size) => implValidGS_any d h _ rfl lo hi W (hr.frame good_glyphc hS) hz hm hs)
  replace hr := Lib.hid hr
  replace hs := Lib.hid hs
  replace hm := Lib.hid hm
  go_enter Try.func22, Try.ntmps22
  go_wp2_with fail
  generalize w.alloc (.cells #[.int .i64 d.unit, .slice h.gl.A h.gl.n h.gl.c] 26 (0, 0)) = w0 at *
  refine (hcv.out w0 (Below.sameB hb0 hhi) (by omega)).mono ?_
  rintro e w1 ⟨rfl, hb1⟩
  have hB1 := hb0.trans (hb1.mono hb0.size)
  have hz1' : w.heap.size < w1.heap.size := by have := hb1.size; omega
  have hz1 := hB1.size
  have HB1 := Lib.hid ((hb1.block _ hz0).trans HB.out)
  clear hcv HB
  cases hv : setOk d
  · have hR : Hid (r0 = ⟨#[]⟩) := by show r0 = _; rw [heq]; unfold setR; rw [if_neg (by rw [hv]; simp)]
    replace hv := Lib.hid hv
    clear heq
    go_wp2_with fail
    go_ret
    exact ⟨ret_string hR.out.symm, hB1⟩
  have hR : Hid (r0 = bS (setT d)) := by show r0 = _; rw [heq]; unfold setR; rw [if_pos hv]
  have hst := setOk_is hv
  have hn40 := hst.n
  obtain ⟨hu1, hu2⟩ := hst.unit
  have hul := unitT_len (u := d.unit) (by omega) (by omega)
  have hdu := decS_sz (n := d.unit) (by omega) (by omega)
  have hsm := Lib.hid (sets_max hst)
  have hgo := Lib.hid hst.g
  replace hv := Lib.hid hv
  clear heq hst hb1
  have hbn := Lib.hid (bld_new w1)
  have hb2 : Below w1.heap.size w1 (w1.alloc (.cells #[.pointer none, .slice none 0 0] 99 (0, 0))) := Go.Joins.below_alloc1 _ _
  have HB2 := Lib.hid ((hb2.block _ hz1').trans HB1.out)
  have hz2 : w1.heap.size < (w1.alloc (.cells #[.pointer none, .slice none 0 0] 99 (0, 0))).heap.size := by simp
  have q0 : (w1.alloc (.cells #[.pointer none, .slice none 0 0] 99 (0, 0))).cell? ⟨w.heap.size, 0, none⟩ = some (.int .i64 d.unit) := by rw [Go.Joins.cell_of_block HB2.out]; rfl
  have q0' : w1.cell? ⟨w.heap.size, 0, none⟩ = some (.int .i64 d.unit) := by rw [Go.Joins.cell_of_block HB1.out]; rfl
  have hcd := Lib.hid (fun W => implDec_any d.unit W (by omega) (by omega))
  clear HB1
  go_wp2_with fail
  clear q0 q0'
  generalize (w1.alloc (.cells #[.pointer none, .slice none 0 0] 99 (0, 0))) = w2 at *
  refine (hcd.out w2).mono ?_
  rintro e w3 ⟨rfl, hb3⟩
  have hbd3 := hbn.out.kept hb3
  have hz3 := hb3.size
  have hBox : Hid (∀ W : World, Below w1.heap.size w2 W → W.heap[w.heap.size]? = some (.cells #[.int .i64 d.unit, .slice h.gl.A h.gl.n h.gl.c] 26 (0, 0))) := fun W h => (h.block _ hz1').trans HB2.out
  have hWd : Hid (∀ W : World, Below w1.heap.size w2 W → Below w.heap.size w W) := fun W h => hB1.trans ((hb2.trans h).mono hz1)
  have hsz9 : Hid (((({ data := #[117, 110, 105, 116, 32] } : ByteArray) ++ decS d.unit) ++ { data := #[10] }).size ≤ 26) := by
    show _ ≤ _
    rw [unit_text]; exact hul
  clear hcd
  go_wp2_with fail
  refine (writeString_any w1.heap.size w1.heap.size [] _ w3 hbd3 (by have := hsz9.out; simp only [List.length_nil]; omega) (by omega)).mono ?_
  rintro e w4 ⟨rfl, hbd4, hc4, _⟩
  have hB24 : Below w1.heap.size w2 w4 := (hb3.mono (by omega)).trans hc4
  have hbd4' : Hid (Bld w4 w1.heap.size w1.heap.size (unitT d.unit)) := by
    show Bld _ _ _ _
    have h1 := hbd4
    rw [unit_text, bS_data, List.nil_append] at h1
    exact h1
  have gc1 : w4.cell? ⟨w.heap.size, 1, none⟩ = some (.slice h.gl.A h.gl.n h.gl.c) := by rw [Go.Joins.cell_of_block (hBox.out w4 hB24)]; rfl
  have gl4 : w.heap.size < w4.heap.size := by have := hB24.size; omega
  clear hbd4 hbd3 hbn hc4 hb3 HB2 hz3 hsz9
  go_wp2_with fail
  clear gc1 gl4
  go_loopw [18] (fun i wr => ∃ (k : Nat) (ds : List UInt8), i = .int .i64 k ∧ k ≤ h.gl.n ∧ ds = unitT d.unit ++ (d.gl.take k).flatMap glyphT ∧ Bld wr w1.heap.size w1.heap.size ds ∧ Below w1.heap.size w2 wr) (fun i wr => h.gl.n - (intOf i).toNat)
  case atStart => exact ⟨0, unitT d.unit, rfl, Nat.zero_le _, by simp, hbd4'.out, hB24⟩
  case round =>
    clear hbd4' hB24
    obtain ⟨k, ds, rfl, hk, hds, hbld, hbel⟩ := hrel
    have hdz : ds.length ≤ 1320026 := by
      rw [hds, List.length_append]
      have := hsm.out k
      omega
    have hwb := hWd.out wr hbel
    have hsz := hwb.size
    have hXw := (hbld.lt).2
    replace hds := Lib.hid hds
    by_cases hlt : k < h.gl.n
    · obtain ⟨b, off, dg, hh, hA, hb0', hbh, hja, hcs, hrd, hcp⟩ := gs_atc (hr.out.frame good_glyphc (Below.sameB hwb hhi)) hlt
      have hok := hgo.out dg (List.mem_of_getElem? hja)
      have hgR : glR dg = bS (glyphT dg) := by unfold glR; rw [if_pos hok]
      have hgz : (glyphT dg).length ≤ 33000 := glyphT_max (glyphOk_is hok)
      have g0 := hcs 0 _ rfl
      have g1 := hcs 1 _ rfl
      have g2 := hcs 2 _ rfl
      have g3 := hcs 3 _ rfl
      have g4 := hcs 4 _ rfl
      have g5 := hcs 5 _ rfl
      have g6 := hcs 6 _ rfl
      simp only [Nat.add_zero] at g0 g1 g2 g3 g4 g5 g6
      have hbw : b < wr.heap.size := by omega
      have hsmg := hm.out.g dg (List.mem_of_getElem? hja)
      have hstg := hs.out dg (List.mem_of_getElem? hja)
      have hcall := Lib.hid (fun W (hS : SameB 0 wr.heap.size wr W) (hzW : wr.heap.size ≤ W.heap.size) => implGlyphText_any dg hh lo hi W (hrd.frame (hS.mono (Nat.zero_le _) (by omega))) (by omega) hsmg hstg hcp)
      rw [hgR] at hcall
      have hnext : Hid (ds ++ (bS (glyphT dg)).data.toList = unitT d.unit ++ (d.gl.take (k + 1)).flatMap glyphT) := by
        show ds ++ _ = _
        rw [bS_data, hds.out, flat_take glyphT hja, List.append_assoc]
      have hgz2 : (bS (glyphT dg)).size ≤ 33000 := hgz
      replace hbld := Lib.hid hbld
      clear hja hok hgR hcs hrd hcp hsmg hstg hb0' hbh
      rw [hA]
      go_wp2_with fail
      refine (hcall.out _ ((SameB.refl _ _ wr).alloc (Nat.le_refl _) _) (by simp)).mono ?_
      rintro e w5 ⟨rfl, hc5⟩
      have hb5 : Below wr.heap.size wr w5 := (Go.Joins.below_alloc1 wr _).trans (hc5.mono (by simp))
      have hbd5 := hbld.out.kept hb5
      have hz5 := hb5.size
      clear hc5
      go_wp2_with fail
      refine (writeString_any w1.heap.size w1.heap.size ds _ w5 hbd5 (by omega) (by omega)).mono ?_
      rintro e w6 ⟨rfl, hbd6, hc6, _⟩
      have hb6 : Below w1.heap.size w2 w6 := (hbel.trans (hb5.mono (by omega))).trans hc6
      replace hbd6 := Lib.hid hbd6
      clear hc6 hbd5
      go_wp2_with fail
      go_roundw
      case rel => exact ⟨k + 1, _, by go_num, by omega, hnext.out, hbd6.out, hb6⟩
      case measure => simp [intOf]; omega
    · have hkn : k = h.gl.n := by omega
      have hfin : ds = setT d := by
        rw [hds.out, List.take_of_length_le (by omega)]
        rfl
      rw [hfin] at hbld
      replace hbld := Lib.hid hbld
      replace hkn := Lib.hid hkn
      have hz9 : w1.heap.size ≤ wr.heap.size := by omega
      clear hfin
      go_wp2_with fail
      refine (Try.Builder_String_any w1.heap.size w1.heap.size (setT d) wr hbld.out hz9).mono ?_
      rintro e w9 ⟨rfl, hb9⟩
      have hb10 := hWd.out w9 (hbel.trans hb9)
      go_wp2_with fail
      go_ret
      exact ⟨ret_string hR.out.symm, hb10⟩
theorem specGlyphText_r (d : Gl) (h : GlH) (r0 : ByteArray) (heq : r0 = glR d) (lo hi : Nat) (w : World) (hr : GlRd w lo hi d h) (hhi : hi ≤ w.heap.size) (hm : d.small 1000000000) (hs : d.str) :
    Calls Try.prog 15 #[glV d h] w fun e w' => e = .returned (.string r0) ∧ Below w.heap.size w w' := by
  rw [heq]; exact specGlyphText_any d h lo hi w hr hhi hm hs
theorem implGlyphText_r (d : Gl) (h : GlH) (r0 : ByteArray) (heq : r0 = glR d) (lo hi : Nat) (w : World) (hr : GlRd w lo hi d h) (hhi : hi ≤ w.heap.size) (hm : d.small 1000000000) (hs : d.str) (hcap : h.anchors.n ≤ h.anchors.c) :
    Calls Try.prog 17 #[glV d h] w fun e w' => e = .returned (.string r0) ∧ Below w.heap.size w w' := by
  rw [heq]; exact implGlyphText_any d h lo hi w hr hhi hm hs hcap
end Go.Proofs.Ytgnjohkfgllhmaa

