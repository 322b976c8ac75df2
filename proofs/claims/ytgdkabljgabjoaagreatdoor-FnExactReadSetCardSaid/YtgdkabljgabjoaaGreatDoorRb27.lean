/- The lines of a text: impl.textLines. Conditions: as each states. -/
import Derived.Lib.QuietBelow
import Derived.Deep.RegionHeld3
import Derived.Test.YtgdkabljgabjoaaGreatDoorRb23
import Derived.Test.YtgdkabljgabjoaaGreatDoorRb15
import Derived.Test.YtgdkabljgabjoaaGreatDoorRb13
import Derived.Test.YtgdkabljgabjoaaGreatDoorRb14
import Derived.Test.YtgdkabljgabjoaaGreatDoorRb03
import Derived.Test.YtgdkabljgabjoaaGreatDoorRb05
namespace Go.Proofs.YtgdkabljgabjoaaGreatDoor
open Go.RowKit
set_option linter.unusedVariables false
set_option maxRecDepth 100000

/-- a row of lines in memory -/
def LinesAt (w : World) (A : Option Addr) (n : Nat) (Ls : List (List UInt8)) : Prop := n = Ls.length ∧ (0 < n → ∃ b, A = some ⟨b, 0, none⟩ ∧ b < w.heap.size ∧ ∀ (j : Nat) (l : List UInt8), Ls[j]? = some l → w.cell? ⟨b, j, none⟩ = some (.string (bytesOf l)))
theorem LinesAt.below {w w' : World} {A : Option Addr} {n : Nat} {Ls : List (List UInt8)} (h : LinesAt w A n Ls) (hb : Below w.heap.size w w') : LinesAt w' A n Ls := by
  refine ⟨h.1, fun hn => ?_⟩
  obtain ⟨b, h1, h2, h3⟩ := h.2 hn
  exact ⟨b, h1, Nat.lt_of_lt_of_le h2 hb.size, fun j l hj => (hb.cell (p := ⟨b, j, none⟩) h2).trans (h3 j l hj)⟩
theorem split_len (b : UInt8) : ∀ (n : Nat) (l : List UInt8), l.length ≤ n → (splitF b l).length ≤ l.length + 1 ∧ ∀ a ∈ splitF b l, a.length ≤ l.length := by
  intro n
  induction n with
  | zero =>
    intro l h
    obtain rfl : l = [] := List.length_eq_zero_iff.1 (by omega)
    simp [splitF]
  | succ n ih =>
    intro l h
    rcases first_at b l with h1 | ⟨p, r, rfl, h1⟩
    · rw [splitF_last b l h1]; simp
    · rw [splitF_hit b p r h1]
      have hr := ih r (by simp at h; omega)
      refine ⟨by simp; omega, fun a ha => ?_⟩
      rcases List.mem_cons.1 ha with rfl | ha
      · simp
      · have := hr.2 a ha
        simp; omega
theorem bytes_subB {b : UInt8} {s : ByteArray} {a : List UInt8} (hs : s.size ≤ 1048576) (ha : a ∈ splitF b s.data.toList) : (bytesOf a).size ≤ 1048576 := by
  have h := (split_len b _ s.data.toList (Nat.le_refl _)).2 a ha
  have e : (bytesOf a).size = a.length := rfl
  have e2 : s.data.toList.length = s.size := by simp
  omega

def TLPost (s : ByteArray) (w : World) (e : Ending) (w' : World) : Prop :=
  (e = .returned (.tuple #[.slice none 0 0, .bool false]) ∧ (splitF 10 s.data.toList).getLast? ≠ some [] ∧ Below w.heap.size w w') ∨
  ∃ A n c Ls, e = .returned (.tuple #[.slice A n c, .bool true]) ∧ splitF 10 s.data.toList = Ls ++ [[]] ∧ LinesAt w' A n Ls ∧ Below w.heap.size w w'

theorem textLines_any (s : ByteArray) (w : World) (hm : MaxI w) (hs : s.size ≤ 1048576) :
    Calls Tryz.prog 30 #[.string s] w fun e w' => TLPost s w e w' := by
  obtain ⟨m, hm⟩ := hm
  by_cases h0 : s.size = 0
  · have hse : s = ⟨#[]⟩ := by
      cases s with
      | mk d => simp [ByteArray.size] at h0; rw [h0]
    subst hse
    clear h0 hm
    go_enter Tryz.func30, Tryz.ntmps30
    go_wp2_with fail
    go_ret2
    exact .inr ⟨none, 0, 0, [], rfl, rfl, ⟨rfl, fun h => absurd h (by omega)⟩, Below.refl _ _⟩
  have hne : (s.toList == []) = false := by
    rw [beq_eq_false_iff_ne]
    intro h
    exact h0 (by rw [← bytes_length, h]; rfl)
  have h1s : 0 < s.size := by omega
  obtain ⟨k, hk⟩ : ∃ k, s.size = k + 1 := ⟨s.size - 1, by omega⟩
  have hkl : k < s.data.toList.length := by simp; omega
  have hse : s.data.toList = s.data.toList.take k ++ [s[k]] := by
    have h := List.take_append_drop k s.data.toList
    rw [List.drop_eq_getElem_cons hkl, List.drop_of_length_le (by simp; omega)] at h
    exact h.symm
  have hki : (0 : Int) ≤ (k : Int) ∧ (k : Int) < (s.size : Int) := by omega
  have hki2 : (0 : Int) ≤ (k : Int) ∧ (k : Int) ≤ (s.size : Int) := by omega
  have hkk : (s.size : Int) - 1 = (k : Int) := by omega
  obtain ⟨c, hc⟩ : ∃ c, c = s[k] := ⟨_, rfl⟩
  rw [← hc] at hse
  have hc' := hc.symm
  have hc256 := c.toNat_lt
  by_cases h10 : c = 10
  · subst h10
    have hx : s.extract 0 k = bytesOf (s.data.toList.take k) := by rw [extract_mk]; rfl
    have hsp : Hid (splitF 10 s.data.toList = splitF 10 (s.data.toList.take k) ++ [[]]) := by
      show splitF 10 s.data.toList = _
      have h := splitF_end 10 _ (s.data.toList.take k) (Nat.le_refl _)
      rw [← hse] at h; exact h
    have hcl := Tryz.strings_Split (bytesOf (s.data.toList.take k)) ⟨#[10]⟩ m w (by have e : (bytesOf (s.data.toList.take k)).size = (s.data.toList.take k).length := rfl; rw [e, List.length_take]; omega) hm (by show 1 ≤ 1; omega)
    rw [splitB_is, countB_is] at hcl
    rw [← hx] at hcl
    have hdl : (s.extract 0 k).data.toList = s.data.toList.take k := by rw [hx]; simp [bytesOf]
    rw [hdl] at hcl
    obtain ⟨Ls, hLs⟩ : ∃ Ls, Ls = splitF 10 (s.data.toList.take k) := ⟨_, rfl⟩
    rw [← hLs] at hcl hsp
    replace hcl := Lib.hid hcl
    clear hx hdl hse hm hc hLs
    go_enter Tryz.func30, Tryz.ntmps30
    go_wp2_with fail
    refine hcl.out.mono ?_
    rintro e w1 ⟨rfl, rfl⟩
    go_wp2_with fail
    go_ret2
    refine .inr ⟨_, Ls.length, _, Ls, rfl, hsp.out, ⟨rfl, fun _ => ⟨w.heap.size, rfl, by simp, fun j l hj => ?_⟩⟩, Go.Joins.below_alloc1 _ _⟩
    rw [Go.Joins.cell_of_block (heap_alloc_new w _)]
    simp [hj, bytesOf]
  · have hcn : ((c.toNat : Int) == 10) = false := by
      rw [beq_eq_false_iff_ne]
      intro h
      exact h10 (UInt8.toNat_inj.1 (by show c.toNat = 10; omega))
    have hcn2 : ((c.toNat : Int) != 10) = true := by simp [bne, hcn]
    have hlast : Hid ((splitF 10 s.data.toList).getLast? ≠ some []) := by
      show (splitF 10 s.data.toList).getLast? ≠ some []
      rw [hse]; exact splitF_tail 10 c h10 _ _ (Nat.le_refl _)
    clear hse hm hc h10
    go_enter Tryz.func30, Tryz.ntmps30
    go_wp2_with fail
    go_ret2
    exact .inl ⟨rfl, hlast.out, Below.refl _ _⟩

end Go.Proofs.YtgdkabljgabjoaaGreatDoor

/- The texts of points, both sides. Conditions: as each states. -/
namespace Go.Proofs.YtgdkabljgabjoaaGreatDoor
open Go.RowKit
set_option linter.unusedVariables false
set_option maxRecDepth 100000

theorem decS_sz {n : Int} (h1 : -9223372036854775808 ≤ n) (h2 : n ≤ 9223372036854775807) : (decS n).size ≤ 20 := by
  have := decL_len h1 h2
  simpa [decS, ByteArray.size] using this
def bS (l : List UInt8) : ByteArray := ⟨l.toArray⟩
theorem bS_size (l : List UInt8) : (bS l).size = l.length := rfl
theorem bS_app (a b : List UInt8) : bS a ++ bS b = bS (a ++ b) := by
  unfold bS; rw [ByteArray.mk_append_mk]
theorem bS_dec (n : Int) : decS n = bS (decL n) := rfl
theorem bS_of (s : ByteArray) : s = bS s.data.toList := by cases s; rfl
theorem pt_text (x y : Int) : (decS x ++ (⟨#[44]⟩ : ByteArray)) ++ decS y = bS (ptT x y) := by
  rw [bS_dec, bS_dec, show (⟨#[44]⟩ : ByteArray) = bS [44] from rfl, bS_app, bS_app]
  unfold ptT
  rw [List.append_assoc]

set_option maxHeartbeats 2000000 in
theorem l03Text_any (x y : Int) (hv : ptOk x y = true) (w : World) :
    Calls Tryz.prog 76 #[.agg #[.int .i64 x, .int .i64 y]] w fun e w' => e = .returned (.string (bS (ptT x y))) ∧ Below w.heap.size w w' := by
  obtain ⟨⟨h1, h2⟩, h3, h4⟩ := ptOk_iff.1 hv
  have hdx := decS_sz (n := x) (by omega) (by omega)
  have hdy := decS_sz (n := y) (by omega) (by omega)
  clear hv
  have hcN := Lib.hid (fun dr os => Calls.regrown_of (l01Dec_any x (Go.Sort.grow (redrawn (w.alloc (.cells #[.int .i64 x, .int .i64 y] 102 (0, 0))) dr) os) (by omega) (by omega)))
  have hcD := Lib.hid (fun dr os => Calls.regrown_of (l01Dec_any y (Go.Sort.grow (redrawn (w.alloc (.cells #[.int .i64 x, .int .i64 y] 102 (0, 0))) dr) os) (by omega) (by omega)))
  have k0 : ∀ dr os, (Go.Sort.grow (redrawn (w.alloc (.cells #[.int .i64 x, .int .i64 y] 102 (0, 0))) dr) os).cell? ⟨w.heap.size, 0, none⟩ = some (.int .i64 x) := cell_regrown (by rw [Go.Joins.cell_of_block (heap_alloc_new w _)]; rfl)
  have k1 : ∀ dr os, (Go.Sort.grow (redrawn (w.alloc (.cells #[.int .i64 x, .int .i64 y] 102 (0, 0))) dr) os).cell? ⟨w.heap.size, 1, none⟩ = some (.int .i64 y) := cell_regrown (by rw [Go.Joins.cell_of_block (heap_alloc_new w _)]; rfl)
  have hb0 : Below w.heap.size w (w.alloc (.cells #[.int .i64 x, .int .i64 y] 102 (0, 0))) := Go.Joins.below_alloc1 _ _
  have hz0 : w.heap.size < (w.alloc (.cells #[.int .i64 x, .int .i64 y] 102 (0, 0))).heap.size := by simp
  go_enter Tryz.func76, Tryz.ntmps76
  go_wp2_with fail
  generalize (w.alloc (.cells #[.int .i64 x, .int .i64 y] 102 (0, 0))) = W at *
  refine wp_region_quiet_below (by kernel_rfl) (by kernel_rfl) ?_
  repeat (go_big_quiet_step (first | (with_reducible exact hcN.out _ _) | (with_reducible exact hcD.out _ _)))
  refine wpQuiet_nil ?_
  intro _ hw'
  obtain ⟨⟨dq, osq⟩, hw''⟩ := hw'
  subst hw''
  have hb3 := hb0.trans ((below_regrown W dq osq).mono hb0.size)
  generalize Go.Sort.grow (redrawn W dq) osq = w1 at hb3 ⊢
  go_wp2_with fail
  go_ret
  exact ⟨ret_string (pt_text x y), hb3⟩
set_option maxHeartbeats 2000000 in
theorem ptText_any (x y : Int) (hv : ptOk x y = true) (w : World) :
    Calls Tryz.prog 69 #[.agg #[.int .i64 x, .int .i64 y]] w fun e w' => e = .returned (.string (bS (ptT x y))) ∧ Below w.heap.size w w' := by
  obtain ⟨⟨h1, h2⟩, h3, h4⟩ := ptOk_iff.1 hv
  have hdx := decS_sz (n := x) (by omega) (by omega)
  have hdy := decS_sz (n := y) (by omega) (by omega)
  have hvp := Lib.hid (validPt_any x y)
  rw [hv] at hvp
  clear hv
  have hb0 : Below w.heap.size w (w.alloc (.cells #[.int .i64 x, .int .i64 y] 102 (0, 0))) := Go.Joins.below_alloc1 _ _
  have HB := Lib.hid (heap_alloc_new w (.cells #[.int .i64 x, .int .i64 y] 102 (0, 0)))
  have hz0 : w.heap.size < (w.alloc (.cells #[.int .i64 x, .int .i64 y] 102 (0, 0))).heap.size := by simp
  go_enter Tryz.func69, Tryz.ntmps69
  go_wp2_with fail
  generalize (w.alloc (.cells #[.int .i64 x, .int .i64 y] 102 (0, 0))) = W at *
  refine (hvp.out W).mono ?_
  rintro e w1 ⟨rfl, hb1⟩
  have hB1 := hb0.trans (hb1.mono hb0.size)
  have HB1 := (hb1.block _ hz0).trans HB.out
  have hz1 : w.heap.size < w1.heap.size := by have := hb1.size; omega
  have hcN := Lib.hid (fun dr os => Calls.regrown_of (implDec_any x (Go.Sort.grow (redrawn w1 dr) os) (by omega) (by omega)))
  have hcD := Lib.hid (fun dr os => Calls.regrown_of (implDec_any y (Go.Sort.grow (redrawn w1 dr) os) (by omega) (by omega)))
  have k0 : ∀ dr os, (Go.Sort.grow (redrawn w1 dr) os).cell? ⟨w.heap.size, 0, none⟩ = some (.int .i64 x) := cell_regrown (by rw [Go.Joins.cell_of_block HB1]; rfl)
  have k1 : ∀ dr os, (Go.Sort.grow (redrawn w1 dr) os).cell? ⟨w.heap.size, 1, none⟩ = some (.int .i64 y) := cell_regrown (by rw [Go.Joins.cell_of_block HB1]; rfl)
  clear HB1 HB hvp hb1 hb0 hz0
  go_wp2_with fail
  refine wp_region_quiet_below (by kernel_rfl) (by kernel_rfl) ?_
  repeat (go_big_quiet_step (first | (with_reducible exact hcN.out _ _) | (with_reducible exact hcD.out _ _)))
  refine wpQuiet_nil ?_
  intro _ hw'
  obtain ⟨⟨dq, osq⟩, hw''⟩ := hw'
  subst hw''
  have hb3 := hB1.trans ((below_regrown w1 dq osq).mono hB1.size)
  generalize Go.Sort.grow (redrawn w1 dq) osq = w2 at hb3 ⊢
  go_wp2_with fail
  go_ret
  exact ⟨ret_string (pt_text x y), hb3⟩
end Go.Proofs.YtgdkabljgabjoaaGreatDoor

/- The text of an outline, the reference's. Conditions: as each states. -/
namespace Go.Proofs.YtgdkabljgabjoaaGreatDoor
open Go.RowKit
set_option linter.unusedVariables false
set_option maxRecDepth 100000

theorem mem_take {α : Type} {L : List α} {k : Nat} {a : α} (h : a ∈ L.take k) : a ∈ L := List.mem_of_mem_take h
theorem outT_snoc (Ls : List (List Knot)) (K : List Knot) : outT (Ls ++ [K]) = outT Ls ++ (loopT K ++ [10]) := flat_snoc _ _ _
theorem loopT_take_len {K : List Knot} (h : loopOk K = true) (q : Nat) : (loopT (K.take q)).length ≤ 2580 := by
  obtain ⟨h1, _, h3⟩ := loopOk_is h
  have := loopT_len (K := K.take q) (fun k hk => h3 k (mem_take hk))
  rw [List.length_take] at this
  omega
theorem outT_take_len {Ls : List (List Knot)} (h : outOk Ls = true) (k : Nat) : (outT (Ls.take k)).length ≤ 30972 := by
  obtain ⟨h1, h2⟩ := outOk_is h
  refine outT_max (Ls := Ls.take k) ?_
  unfold outOk
  simp only [Bool.and_eq_true, decide_eq_true_eq, List.all_eq_true]
  exact ⟨fun K hK => h2 K (mem_take hK), by rw [List.length_take]; omega⟩
theorem cat2 (es : ByteArray) (a b : List UInt8) : (es ++ bS a) ++ bS b = es ++ bS (a ++ b) := by rw [ByteArray.append_assoc, bS_app]
theorem cat3 (es : ByteArray) (a b c : List UInt8) : ((es ++ bS a) ++ bS b) ++ bS c = es ++ bS (a ++ (b ++ c)) := by rw [cat2, cat2]
theorem ptS_size {x y : Int} (h : ptOk x y = true) : (bS (ptT x y)).size ≤ 41 := ptT_len h

set_option maxHeartbeats 4000000 in
theorem l10Text_any (p o : Nat) (A : Option Addr) (n c lo hi : Nat) (Ls : List (List Knot)) (hv : outOk Ls = true) (w : World) (hp : p < w.heap.size) (hc : w.cell? ⟨p, o, none⟩ = some (.slice A n c)) (hr : OutRd w lo hi A n Ls) (hhi : hi ≤ w.heap.size) :
    Calls Tryz.prog 75 #[.pointer (some ⟨p, o, none⟩)] w fun e w' => e = .returned (.string (bS (outT Ls))) ∧ Below w.heap.size w w' := by
  have hll := hr.1
  obtain ⟨hn12, hKs⟩ := outOk_is hv
  have hn : n ≤ 12 := by omega
  replace hr := Lib.hid hr
  replace hKs := Lib.hid hKs
  have hlenk := Lib.hid (fun k => outT_take_len hv k)
  clear hv hn12
  go_enter Tryz.func75, Tryz.ntmps75
  go_wp2_with fail
  go_loopw [3, 4] (fun out i wr => ∃ (k : Nat) (ds : ByteArray), i = .int .i64 k ∧ k ≤ n ∧ out = .string ds ∧ ds = bS (outT (Ls.take k)) ∧ Below w.heap.size w wr) (fun out i wr => n - (intOf i).toNat)
  case atStart => exact ⟨0, _, rfl, Nat.zero_le _, rfl, rfl, Below.refl _ _⟩
  case round =>
    obtain ⟨k, ds, rfl, hk, rfl, hds, hbel⟩ := hrel
    have hdz : ds.size ≤ 30972 := by rw [hds]; exact hlenk.out k
    have hsz := hbel.size
    have c0 : wr.cell? ⟨p, o, none⟩ = some (.slice A n c) := (hbel.cell hp).trans hc
    have hpw : p < wr.heap.size := by omega
    replace hds := Lib.hid hds
    by_cases hlt : k < n
    · obtain ⟨b, off, K, A2, n2, c2, rfl, hb0, hb, hja, qk, hmx, hrk⟩ := out_at (hr.out.frame good_loop (Below.sameB hbel hhi)) hlt
      have hn2 := hrk.1
      subst hn2
      have hok := hKs.out K (List.mem_of_getElem? hja)
      obtain ⟨hK60, _, hkn⟩ := loopOk_is hok
      have hbw : b < wr.heap.size := by omega
      have hki : (k : Int) < (n : Int) := by omega
      have hlq := Lib.hid (loopT_take_len hok)
      replace hkn := Lib.hid hkn
      replace hrk := Lib.hid hrk
      replace hja := Lib.hid hja
      clear hmx hb0 hb hok
      obtain ⟨w5, hw5⟩ : ∃ v, v = wr := ⟨_, rfl⟩
      subst hw5
      go_wp2_with fail
      clear c0 hpw qk hbw
      go_loopw [3, 6] (fun out i wi => ∃ (q : Nat) (es : ByteArray), i = .int .i64 q ∧ q ≤ K.length ∧ out = .string es ∧ es = bS (outT (Ls.take k) ++ loopT (K.take q)) ∧ Below w5.heap.size w5 wi) (fun out i wi => K.length - (intOf i).toNat)
      case atStart => exact ⟨0, ds, rfl, Nat.zero_le _, rfl, by rw [hds.out]; simp [loopT, Lib.join_nil], Below.refl _ _⟩
      case round =>
        obtain ⟨q, es, rfl, hq, rfl, hes, hbi⟩ := hrel
        have hez : es.size ≤ 33600 := by
          rw [hes, bS_size, List.length_append]
          have := hlenk.out k
          have := hlq.out q
          omega
        have hsi := hbi.size
        replace hes := Lib.hid hes
        by_cases hql : q < K.length
        · obtain ⟨b2, off2, x, rfl, hb20, hb2h, hx, hcs⟩ := (hrk.out.frame (good_flat _) (Below.sameB hbi (by omega))).at hql
          have p0 := hcs 0 _ rfl
          have p1 := hcs 1 _ rfl
          have p2 := hcs 2 _ rfl
          simp only [Nat.add_zero] at p0
          have hvx : ptOk x.1 x.2.1 = true := hkn.out x (List.mem_of_getElem? hx)
          have hb2w : b2 < wr.heap.size := by omega
          have htk : K.take (q + 1) = K.take q ++ [x] := take_snoc hx
          have hqi : (q : Int) < (K.length : Int) := by omega
          have hpz := ptS_size hvx
          have hcall := Lib.hid (l03Text_any x.1 x.2.1 hvx wr)
          have hnext : Hid (∀ r : List UInt8, r = (if q = 0 then [] else [32]) ++ knotT x → es ++ bS r = bS (outT (Ls.take k) ++ loopT (K.take (q + 1)))) := fun r hr' => by
            rw [hes.out, bS_app, htk, hr', List.append_assoc]
            congr 2
            by_cases h0 : q = 0
            · subst h0; simp [loopT, Lib.join_nil, Lib.join_one]
            · rw [if_neg h0, loopT_snoc (by intro e; have := congrArg List.length e; simp only [List.length_take, List.length_nil] at this; omega)]
          clear hcs hx hb20 hb2h hvx
          obtain ⟨x1, x2, z⟩ := x
          dsimp only at p0 p1 p2 hpz hcall hnext
          cases z
          all_goals
            rcases Nat.eq_zero_or_pos q with h0 | h0
            · have h0i : ¬ (0 : Int) < (q : Int) := by omega
              replace h0 := Lib.hid h0
              go_wp2_with fail
              refine hcall.out.mono ?_
              rintro e w6 ⟨rfl, hb6⟩
              have hb7 := hbi.trans (hb6.mono hbi.size)
              go_wp2_with fail
              go_roundw
              case rel => first
                | exact ⟨q + 1, _, by go_num, by omega, rfl, hnext.out _ (by have := h0.out; simp [knotT, this]), hb7⟩
                | exact ⟨q + 1, _, by go_num, by omega, rfl, (cat2 es [126] _).trans (hnext.out _ (by have := h0.out; simp [knotT, this])), hb7⟩
              case measure => simp [intOf]; omega
            · have h0i : (0 : Int) < (q : Int) := by omega
              have h0n : Hid (q ≠ 0) := by show q ≠ 0; omega
              go_wp2_with fail
              refine hcall.out.mono ?_
              rintro e w6 ⟨rfl, hb6⟩
              have hb7 := hbi.trans (hb6.mono hbi.size)
              go_wp2_with fail
              go_roundw
              case rel => first
                | exact ⟨q + 1, _, by go_num, by omega, rfl, (cat2 es [32] _).trans (hnext.out _ (by have := h0n.out; simp [knotT, this])), hb7⟩
                | exact ⟨q + 1, _, by go_num, by omega, rfl, (cat3 es [32] [126] _).trans (hnext.out _ (by have := h0n.out; simp [knotT, this])), hb7⟩
              case measure => simp [intOf]; omega
        · have hqn : q = K.length := by omega
          have hfin : Hid (es ++ bS [10] = bS (outT (Ls.take (k + 1)))) := by
            show es ++ bS [10] = _
            rw [hes.out, hqn, List.take_length, bS_app, take_snoc hja.out, outT_snoc, List.append_assoc]
          replace hqn := Lib.hid hqn
          go_wp2_with fail
          go_roundw
          case rel => exact ⟨k + 1, _, by go_num, by omega, rfl, hfin.out, hbel.trans (hbi.mono hbel.size)⟩
          case measure => simp [intOf]; omega
    · have hkn : k = n := by omega
      have hfin : Hid (ds = bS (outT Ls)) := by show ds = _; rw [hds.out, List.take_of_length_le (by omega)]
      replace hkn := Lib.hid hkn
      go_wp2_with fail
      go_ret
      exact ⟨ret_string hfin.out, hbel⟩
end Go.Proofs.YtgdkabljgabjoaaGreatDoor

