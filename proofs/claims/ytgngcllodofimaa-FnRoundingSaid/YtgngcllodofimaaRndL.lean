/- The law on rounding. Conditions: as each states. -/
import Derived.Test.YtgngcllodofimaaE8
import Derived.Test.YtgngcllodofimaaRndP
import Derived.Test.YtgngcllodofimaaNames
import Derived.Test.YtgngcllodofimaaPixR
import Derived.Deep.DeepCutAuto
namespace Go.Proofs.Ytgngcllodofimaa
open Go.RowKit
set_option linter.unusedVariables false
set_option maxRecDepth 100000

theorem st_name {st : Int} (h0 : 0 ≤ st) (h5 : st ≤ 5) (w : World) :
    Calls Try.prog 15 #[.int .i64 st] w fun e w' => ∃ s : ByteArray, e = .returned (.string s) ∧ stNames[st.toNat]? = some s ∧ Below w.heap.size w w' := by
  rcases (show st = 0 ∨ st = 1 ∨ st = 2 ∨ st = 3 ∨ st = 4 ∨ st = 5 by omega) with rfl | rfl | rfl | rfl | rfl | rfl
  all_goals
    go_enter Try.func15, Try.ntmps15
    go_wp2_with fail
    refine (implNames_any _).mono ?_
    rintro e w1 ⟨rfl, hr, hb⟩
    have c0 := hr 0 (by decide)
    have c1 := hr 1 (by decide)
    have c2 := hr 2 (by decide)
    have c3 := hr 3 (by decide)
    have c4 := hr 4 (by decide)
    have c5 := hr 5 (by decide)
    simp only [Nat.zero_add] at c0 c1 c2 c3 c4 c5
    replace hr := Lib.hid hr
    replace hb := Lib.hid hb
    go_wp2_with fail
    go_ret
    exact ⟨_, rfl, rfl, hb.out⟩
theorem st_back {st r : Int} {s : ByteArray} (h0 : 0 ≤ st) (h5 : st ≤ 5) (hs : stNames[st.toNat]? = some s) (h : FirstAt stNames s r) : r = st := by
  refine h.unique ?_
  rcases (show st = 0 ∨ st = 1 ∨ st = 2 ∨ st = 3 ∨ st = 4 ∨ st = 5 by omega) with rfl | rfl | rfl | rfl | rfl | rfl
  all_goals
    obtain rfl := Option.some.inj hs
    refine .inr ⟨_, (Int.toNat_of_nonneg h0).symm, by decide, by rfl, ?_⟩
    decide
theorem pixS_size {v : Int} (h1 : -262144 ≤ v) (h2 : v ≤ 262144) : (pixS v).size ≤ 62 := by
  have a := decL_len (n := ((v.natAbs / 64 : Nat) : Int)) (by omega) (by omega)
  have b := decL_len (n := ((v.natAbs % 64 / 10 : Nat) : Int)) (by omega) (by omega)
  have c := decL_len (n := ((v.natAbs % 64 % 10 : Nat) : Int)) (by omega) (by omega)
  have e : (pixS v).size = (pixL v).length := rfl
  rw [e]
  unfold pixL
  simp only [List.length_append, List.length_singleton]
  split <;> simp only [List.length_singleton, List.length_nil] <;> omega
set_option maxHeartbeats 16000000 in
theorem lawRounding_walk (A0 : Option Addr) (n0 c0 : Nat) (L0 : List Int) (A1 : Option Addr) (n1 c1 : Nat) (L1 : List Int) {w : World} (hr0 : RdS 1 u8R w 0 w.heap.size A0 n0 L0) (hm0 : n0 ≤ maxLen) (hr1 : RdS 1 u8R w 0 w.heap.size A1 n1 L1) (hm1 : n1 ≤ maxLen) :
    Calls Try.prog 3 #[.slice A0 n0 c0, .slice A1 n1 c1] w fun e w' => e = .returned (.bool true) ∧ Below w.heap.size w w' := by
  unfold maxLen at hm0 hm1
  obtain ⟨b, hb⟩ : ∃ b : Bool, b = (decide ((1048576 : Int) < (n0 : Int)) || decide ((1048576 : Int) < (n1 : Int))) := ⟨_, rfl⟩
  have hlong := Lib.hid (e8Long_any A0 A1 n0 c0 n1 c1 b hb w (by omega) (by omega))
  cases b
  rotate_left
  · clear hb hr0 hr1
    go_enter Try.func3, Try.ntmps3
    go_wp2_with fail
    refine hlong.out.mono ?_
    rintro e w' ⟨rfl, rfl⟩
    go_wp2_with fail
    go_ret
    exact ⟨rfl, Below.refl _ _⟩
  have hn0 : n0 ≤ 1048576 := by simp at hb; omega
  have hn1 : n1 ≤ 1048576 := by simp at hb; omega
  clear hb
  have hpts := Lib.hid (E8Points_any A0 n0 c0 0 w.heap.size L0 w hr0 (Nat.le_refl _) (by omega))
  have hat := Lib.hid (fun (k : Nat) (m : Int) (W : World) (hb : Below w.heap.size w W) (hk : k ≤ 1000) (h0 : 1 < m) (h1 : m ≤ 1000000) => e8At_any A1 n1 c1 0 w.heap.size L1 k m W (hr1.frame good_u8 (Below.sameB hb (Nat.le_refl _))) (by omega) hk h0 h1)
  clear hr0 hr1
  go_enter Try.func3, Try.ntmps3
  go_wp2_with fail
  refine hlong.out.mono ?_
  rintro e w' ⟨rfl, rfl⟩
  go_wp2_with fail
  refine hpts.out.mono ?_
  rintro e w1 ⟨a0, a1, b0, b1, p0, p1, q0, q1, rfl, ⟨⟨ha0, ha1⟩, ha2, ha3⟩, ⟨⟨hb0, hb1⟩, hb2, hb3⟩, hB1⟩
  simp only at ha0 ha1 ha2 ha3 hb0 hb1 hb2 hb3
  have hat0 : Hid (∀ W, Below w.heap.size w W → Calls Try.prog 12 #[.slice A1 n1 c1, .int .i64 0, .int .i64 6] W fun e w' => ∃ r : Int, e = .returned (.int .i64 r) ∧ 0 ≤ r ∧ r < 6 ∧ W = w') := fun W hb => hat.out 0 6 W hb (by omega) (by omega) (by omega)
  have hat1 : Hid (∀ W, Below w.heap.size w W → Calls Try.prog 12 #[.slice A1 n1 c1, .int .i64 1, .int .i64 100] W fun e w' => ∃ r : Int, e = .returned (.int .i64 r) ∧ 0 ≤ r ∧ r < 100 ∧ W = w') := fun W hb => hat.out 1 100 W hb (by omega) (by omega) (by omega)
  have hat2 : Hid (∀ W, Below w.heap.size w W → Calls Try.prog 12 #[.slice A1 n1 c1, .int .i64 2, .int .i64 128] W fun e w' => ∃ r : Int, e = .returned (.int .i64 r) ∧ 0 ≤ r ∧ r < 128 ∧ W = w') := fun W hb => hat.out 2 128 W hb (by omega) (by omega) (by omega)
  have hat3 : Hid (∀ W, Below w.heap.size w W → Calls Try.prog 12 #[.slice A1 n1 c1, .int .i64 3, .int .i64 250] W fun e w' => ∃ r : Int, e = .returned (.int .i64 r) ∧ 0 ≤ r ∧ r < 250 ∧ W = w') := fun W hb => hat.out 3 250 W hb (by omega) (by omega) (by omega)
  clear hat hlong hpts
  go_wp2_with fail
  obtain ⟨N0, N1, _, _⟩ := heap_new4 w1 (.cells #[.int .i64 a0, .int .i64 a1] 25 (0, 0)) (.cells #[.int .i64 b0, .int .i64 b1] 25 (0, 0)) (.cells #[.int .i64 p0, .int .i64 p1] 25 (0, 0)) (.cells #[.int .i64 q0, .int .i64 q1] 25 (0, 0))
  have HB : Below w.heap.size w ((((w1.alloc (.cells #[.int .i64 a0, .int .i64 a1] 25 (0, 0))).alloc (.cells #[.int .i64 b0, .int .i64 b1] 25 (0, 0))).alloc (.cells #[.int .i64 p0, .int .i64 p1] 25 (0, 0))).alloc (.cells #[.int .i64 q0, .int .i64 q1] 25 (0, 0))) := by
    have := hB1.size
    iterate 4 (refine Below.alloc ?_ (by first | omega | (simp; omega)) _)
    exact hB1
  replace N0 : PtAt _ w1.heap.size a0 a1 := N0
  replace N1 : PtAt _ (w1.heap.size + 1) b0 b1 := N1
  generalize ((((w1.alloc (.cells #[.int .i64 a0, .int .i64 a1] 25 (0, 0))).alloc (.cells #[.int .i64 b0, .int .i64 b1] 25 (0, 0))).alloc (.cells #[.int .i64 p0, .int .i64 p1] 25 (0, 0))).alloc (.cells #[.int .i64 q0, .int .i64 q1] 25 (0, 0))) = W at *
  obtain ⟨m0, m1, mf, ml⟩ := N0.cells
  obtain ⟨k0, k1, kf, kl⟩ := N1.cells
  replace N0 := Lib.hid N0
  replace N1 := Lib.hid N1
  clear mf kf hB1
  refine (hat0.out W HB).mono ?_
  rintro e w' ⟨st, rfl, hs0, hs5, rfl⟩
  have hs5' : st ≤ 5 := by omega
  obtain ⟨x, hx⟩ : ∃ x, x = rto a0 st := ⟨_, rfl⟩
  obtain ⟨y, hy⟩ : ∃ y, y = rto b0 st := ⟨_, rfl⟩
  have r1 := Lib.hid (implRound_in a0 st W (by omega) (by omega))
  have r2 := Lib.hid (implRound_in b0 st W (by omega) (by omega))
  have hxn := rto_near (v := a0) hs0 hs5'
  have hxb := rto_bd a0 st
  have hyb := rto_bd b0 st
  have hmono : a0 ≤ b0 → x ≤ y := fun h => by rw [hx, hy]; exact rto_mono hs0 hs5' h
  have r3 := implRound_in (rto a0 st) st W (by omega) (by omega)
  rw [rto_twice hs0 hs5'] at r3
  rw [← hx] at r1 r3 hxn hxb
  rw [← hy] at r2 hyb
  replace r3 := Lib.hid r3
  have rS := Lib.hid (st_name hs0 hs5' W)
  clear hx hy
  obtain ⟨hxn1, hxn2⟩ := hxn
  obtain ⟨hxb1, hxb2⟩ := hxb
  obtain ⟨hyb1, hyb2⟩ := hyb
  have hd1 : ¬ (64 ≤ x - a0) := by omega
  have hd2 : ¬ (64 ≤ a0 - x) := by omega
  have hxx : (x != x) = false := by simp
  go_wp2_with fail
  refine r1.out.mono ?_
  rintro e w' ⟨rfl, rfl⟩
  go_wp2_with fail
  refine r2.out.mono ?_
  rintro e w' ⟨rfl, rfl⟩
  go_wp2_with fail
  refine r3.out.mono ?_
  rintro e w' ⟨rfl, rfl⟩
  have hxy : a0 ≤ b0 → ¬ (y < x) := fun h => by have := hmono h; omega
  clear hmono
  by_cases hab : a0 ≤ b0
  · have hxy' := hxy hab
    clear hxy
    go_wp2_with fail
    refine rS.out.mono ?_
    rintro e w2 ⟨sn, rfl, hsn, hb2⟩
    have rN := Lib.hid (implNamed_any sn w2)
    replace hsn := Lib.hid hsn
    go_wp2_with fail
    refine rN.out.mono ?_
    rintro e w3 ⟨r, rfl, hf, hb3⟩
    obtain rfl := st_back hs0 hs5' hsn.out hf
    have hB3 := Lib.hid (hb2.trans (hb3.mono hb2.size))
    have HB3 := Lib.hid (HB.trans (hB3.out.mono HB.size))
    replace N0 := Lib.hid (N0.out.below hB3.out)
    obtain ⟨m0', m1', mf', ml'⟩ := N0.out.cells
    clear m0 m1 ml k0 k1 kl rN rS r1 r2 r3 hb2 hb3 hf hsn mf' hB3
    go_wp2_with fail
    refine (hat1.out w3 HB3.out).mono ?_
    rintro e w' ⟨least, rfl, hl0, hl1, rfl⟩
    obtain ⟨k, hk⟩ : ∃ k, k = keep a0 r least := ⟨_, rfl⟩
    obtain ⟨k2, hk2⟩ : ∃ k, k = keep (-a0) r least := ⟨_, rfl⟩
    have q1 := implKeepRound_in a0 r least w3 (by omega) (by omega) (by omega) (by omega)
    have q2 := implKeepRound_in (-a0) r least w3 (by omega) (by omega) (by omega) (by omega)
    have hkf := keep_far (v := a0) (st := r) (least := least)
    have hkb := keep_bd (v := a0) (st := r) (by omega) (by omega) hl0 (show least ≤ 100 by omega)
    have hkb2 := keep_bd (v := -a0) (st := r) (by omega) (by omega) hl0 (show least ≤ 100 by omega)
    have hko : 0 < a0 → k = - k2 := fun h => by rw [hk, hk2]; exact keep_odd h
    rw [← hk] at q1 hkf hkb
    rw [← hk2] at q2 hkb2
    replace q1 := Lib.hid q1
    replace q2 := Lib.hid q2
    clear hk hk2
    obtain ⟨hkb1, hkb2'⟩ := hkb
    obtain ⟨hkb3, hkb4⟩ := hkb2
    have hps : (pixS a0).size ≤ 1048576 := by have := pixS_size (v := a0) (by omega) (by omega); omega
    obtain ⟨ps, hpe⟩ : ∃ ps, ps = pixS a0 := ⟨_, rfl⟩
    have t1 := implPix_in a0 w3 (by omega) (by omega)
    have hpx : IsPix ps a0 := ⟨hpe, by omega, by omega⟩
    rw [← hpe] at t1 hps
    replace t1 := Lib.hid t1
    replace hpx := Lib.hid hpx
    clear hpe
    have hrd := Lib.hid (fun W => implReadPixels_any ps W hps)
    go_wp2_with fail
    refine q1.out.mono ?_
    rintro e w' ⟨rfl, rfl⟩
    have hgo : (0 < a0 ∧ k = - k2) ∨ ¬ 0 < a0 := by
      by_cases h : 0 < a0
      · exact .inl ⟨h, hko h⟩
      · exact .inr h
    have hgo2 : (k < least ∧ ¬ (-least < k)) ∨ ¬ k < least := by
      by_cases h : k < least
      · exact .inl ⟨h, fun h' => hkf ⟨h, h'⟩⟩
      · exact .inr h
    clear hko hkf
    obtain ⟨v, hv⟩ : ∃ v, v = a1.tmod 1000 := ⟨_, rfl⟩
    have hv1 : -1000 < v ∧ v < 1000 := by rw [hv]; exact ⟨Int.lt_tmod_of_pos _ (by omega), Int.tmod_lt_of_pos _ (by omega)⟩
    obtain ⟨hv1, hv2⟩ := hv1
    rcases hgo with ⟨h0, rfl⟩ | h0 <;> rcases hgo2 with ⟨h1, h2⟩ | h1
    all_goals
      try have hkk : (-k2 != -k2) = false := by simp
      go_wp2_with fail
      try (refine q2.out.mono ?_; rintro e w' ⟨rfl, rfl⟩; go_wp2_with fail)
      try (refine q2.out.mono ?_; trace "again")
      refine t1.out.mono ?_
      rintro e w4 ⟨rfl, hb4⟩
      go_wp2_with fail
      refine (hrd.out w4).mono ?_
      rintro e w5 (⟨v', hpx', rfl, hb5⟩ | ⟨hno, _, _⟩)
      rotate_left
      · exact absurd hpx.out (hno _)
      obtain rfl := hpx.out.unique hpx'
      have hB5 := Lib.hid (hb4.trans (hb5.mono hb4.size))
      have HB5 := Lib.hid (HB3.out.trans (hB5.out.mono HB3.out.size))
      have N5 := Lib.hid (N0.out.below hB5.out)
      obtain ⟨m0'', m1'', mf'', ml''⟩ := N5.out.cells
      clear m0' m1' ml' t1 hrd hb4 hb5 hpx' mf'' hB5 q1 q2
      go_wp2_with fail
      refine (hat2.out w5 HB5.out).mono ?_
      rintro e w' ⟨sz, rfl, hz0, hz1, rfl⟩
      go_wp2_with fail
      refine (hat3.out w5 HB5.out).mono ?_
      rintro e w' ⟨un, rfl, hu0, hu1, rfl⟩
      obtain ⟨S, hS⟩ : ∃ S, S = 1 + sz := ⟨_, rfl⟩
      obtain ⟨U, hU⟩ : ∃ U, U = 16 + 64 * un := ⟨_, rfl⟩
      obtain ⟨sc, hsc⟩ : ∃ sc, sc = rnd (v * S * 64) U := ⟨_, rfl⟩
      have hask : askB v S U = true := askB_of (inB_iff.2 (by omega)) (inB_iff.2 (by omega)) (inB_iff.2 (by omega))
      have g1 := implScaleTo_yes v S U w5 hask
      rw [← hsc] at g1
      replace g1 := Lib.hid g1
      have hback : askB sc S U = true → ¬ S * 64 < U → rnd (sc * U) (S * 64) = v := fun _ h => by
        rw [hsc, Int.mul_assoc v S 64]
        exact back_is (by omega) (by omega)
      have g2 := Lib.hid (fun h => implScaleBack_yes sc S U w5 h)
      have g3 := Lib.hid (fun h => implScaleBack_no sc S U w5 h)
      obtain ⟨hS1, hS2⟩ : 1 ≤ S ∧ S ≤ 128 := by omega
      obtain ⟨hU1, hU2⟩ : 16 ≤ U ∧ U ≤ 16000 := by omega
      clear hask hsc
      go_wp2_with fail
      rw [← hv, ← hS, ← hU]
      refine g1.out.mono ?_
      rintro e w' ⟨rfl, rfl⟩
      obtain ⟨bk, hbk⟩ : ∃ bk, bk = rnd (sc * U) (S * 64) := ⟨_, rfl⟩
      replace hv := Lib.hid hv
      replace hS := Lib.hid hS
      replace hU := Lib.hid hU
      replace hbk := Lib.hid hbk
      clear hz0 hz1 hu0 hu1
      rcases (Bool.eq_false_or_eq_true (askB sc S U)).symm with hA | hA
      · have g4 := Lib.hid (g3.out hA)
        clear g2 g3 hA hback hbk
        go_wp2_with fail
        refine g4.out.mono ?_
        rintro e w' ⟨rfl, rfl⟩
        go_wp2_with fail
        go_ret
        exact ⟨rfl, HB5.out⟩
      · have g4 := g2.out hA
        have hback' := hback hA
        rw [← hbk.out] at g4 hback'
        replace g4 := Lib.hid g4
        clear g2 g3 hA hback hbk
        by_cases hlt : S * 64 < U
        · clear hback'
          go_wp2_with fail
          refine g4.out.mono ?_
          rintro e w' ⟨rfl, rfl⟩
          go_wp2_with fail
          go_ret
          exact ⟨rfl, HB5.out⟩
        · obtain rfl := hback' (by omega)
          have hbb : (bk == bk) = true := by simp
          have hvv := hv.out
          go_wp2_with fail
          refine g4.out.mono ?_
          rintro e w' ⟨rfl, rfl⟩
          go_wp2_with fail
          go_ret
          exact ⟨rfl, HB5.out⟩
  · clear hxy
    go_wp2_with fail
    refine rS.out.mono ?_
    rintro e w2 ⟨sn, rfl, hsn, hb2⟩
    have rN := Lib.hid (implNamed_any sn w2)
    replace hsn := Lib.hid hsn
    go_wp2_with fail
    refine rN.out.mono ?_
    rintro e w3 ⟨r, rfl, hf, hb3⟩
    obtain rfl := st_back hs0 hs5' hsn.out hf
    have hB3 := Lib.hid (hb2.trans (hb3.mono hb2.size))
    have HB3 := Lib.hid (HB.trans (hB3.out.mono HB.size))
    replace N0 := Lib.hid (N0.out.below hB3.out)
    obtain ⟨m0', m1', mf', ml'⟩ := N0.out.cells
    clear m0 m1 ml k0 k1 kl rN rS r1 r2 r3 hb2 hb3 hf hsn mf' hB3
    go_wp2_with fail
    refine (hat1.out w3 HB3.out).mono ?_
    rintro e w' ⟨least, rfl, hl0, hl1, rfl⟩
    obtain ⟨k, hk⟩ : ∃ k, k = keep a0 r least := ⟨_, rfl⟩
    obtain ⟨k2, hk2⟩ : ∃ k, k = keep (-a0) r least := ⟨_, rfl⟩
    have q1 := implKeepRound_in a0 r least w3 (by omega) (by omega) (by omega) (by omega)
    have q2 := implKeepRound_in (-a0) r least w3 (by omega) (by omega) (by omega) (by omega)
    have hkf := keep_far (v := a0) (st := r) (least := least)
    have hkb := keep_bd (v := a0) (st := r) (by omega) (by omega) hl0 (show least ≤ 100 by omega)
    have hkb2 := keep_bd (v := -a0) (st := r) (by omega) (by omega) hl0 (show least ≤ 100 by omega)
    have hko : 0 < a0 → k = - k2 := fun h => by rw [hk, hk2]; exact keep_odd h
    rw [← hk] at q1 hkf hkb
    rw [← hk2] at q2 hkb2
    replace q1 := Lib.hid q1
    replace q2 := Lib.hid q2
    clear hk hk2
    obtain ⟨hkb1, hkb2'⟩ := hkb
    obtain ⟨hkb3, hkb4⟩ := hkb2
    have hps : (pixS a0).size ≤ 1048576 := by have := pixS_size (v := a0) (by omega) (by omega); omega
    obtain ⟨ps, hpe⟩ : ∃ ps, ps = pixS a0 := ⟨_, rfl⟩
    have t1 := implPix_in a0 w3 (by omega) (by omega)
    have hpx : IsPix ps a0 := ⟨hpe, by omega, by omega⟩
    rw [← hpe] at t1 hps
    replace t1 := Lib.hid t1
    replace hpx := Lib.hid hpx
    clear hpe
    have hrd := Lib.hid (fun W => implReadPixels_any ps W hps)
    go_wp2_with fail
    refine q1.out.mono ?_
    rintro e w' ⟨rfl, rfl⟩
    have hgo : (0 < a0 ∧ k = - k2) ∨ ¬ 0 < a0 := by
      by_cases h : 0 < a0
      · exact .inl ⟨h, hko h⟩
      · exact .inr h
    have hgo2 : (k < least ∧ ¬ (-least < k)) ∨ ¬ k < least := by
      by_cases h : k < least
      · exact .inl ⟨h, fun h' => hkf ⟨h, h'⟩⟩
      · exact .inr h
    clear hko hkf
    obtain ⟨v, hv⟩ : ∃ v, v = a1.tmod 1000 := ⟨_, rfl⟩
    have hv1 : -1000 < v ∧ v < 1000 := by rw [hv]; exact ⟨Int.lt_tmod_of_pos _ (by omega), Int.tmod_lt_of_pos _ (by omega)⟩
    obtain ⟨hv1, hv2⟩ := hv1
    rcases hgo with ⟨h0, rfl⟩ | h0 <;> rcases hgo2 with ⟨h1, h2⟩ | h1
    all_goals
      try have hkk : (-k2 != -k2) = false := by simp
      go_wp2_with fail
      try (refine q2.out.mono ?_; rintro e w' ⟨rfl, rfl⟩; go_wp2_with fail)
      try (refine q2.out.mono ?_; trace "again")
      refine t1.out.mono ?_
      rintro e w4 ⟨rfl, hb4⟩
      go_wp2_with fail
      refine (hrd.out w4).mono ?_
      rintro e w5 (⟨v', hpx', rfl, hb5⟩ | ⟨hno, _, _⟩)
      rotate_left
      · exact absurd hpx.out (hno _)
      obtain rfl := hpx.out.unique hpx'
      have hB5 := Lib.hid (hb4.trans (hb5.mono hb4.size))
      have HB5 := Lib.hid (HB3.out.trans (hB5.out.mono HB3.out.size))
      have N5 := Lib.hid (N0.out.below hB5.out)
      obtain ⟨m0'', m1'', mf'', ml''⟩ := N5.out.cells
      clear m0' m1' ml' t1 hrd hb4 hb5 hpx' mf'' hB5 q1 q2
      go_wp2_with fail
      refine (hat2.out w5 HB5.out).mono ?_
      rintro e w' ⟨sz, rfl, hz0, hz1, rfl⟩
      go_wp2_with fail
      refine (hat3.out w5 HB5.out).mono ?_
      rintro e w' ⟨un, rfl, hu0, hu1, rfl⟩
      obtain ⟨S, hS⟩ : ∃ S, S = 1 + sz := ⟨_, rfl⟩
      obtain ⟨U, hU⟩ : ∃ U, U = 16 + 64 * un := ⟨_, rfl⟩
      obtain ⟨sc, hsc⟩ : ∃ sc, sc = rnd (v * S * 64) U := ⟨_, rfl⟩
      have hask : askB v S U = true := askB_of (inB_iff.2 (by omega)) (inB_iff.2 (by omega)) (inB_iff.2 (by omega))
      have g1 := implScaleTo_yes v S U w5 hask
      rw [← hsc] at g1
      replace g1 := Lib.hid g1
      have hback : askB sc S U = true → ¬ S * 64 < U → rnd (sc * U) (S * 64) = v := fun _ h => by
        rw [hsc, Int.mul_assoc v S 64]
        exact back_is (by omega) (by omega)
      have g2 := Lib.hid (fun h => implScaleBack_yes sc S U w5 h)
      have g3 := Lib.hid (fun h => implScaleBack_no sc S U w5 h)
      obtain ⟨hS1, hS2⟩ : 1 ≤ S ∧ S ≤ 128 := by omega
      obtain ⟨hU1, hU2⟩ : 16 ≤ U ∧ U ≤ 16000 := by omega
      clear hask hsc
      go_wp2_with fail
      rw [← hv, ← hS, ← hU]
      refine g1.out.mono ?_
      rintro e w' ⟨rfl, rfl⟩
      obtain ⟨bk, hbk⟩ : ∃ bk, bk = rnd (sc * U) (S * 64) := ⟨_, rfl⟩
      replace hv := Lib.hid hv
      replace hS := Lib.hid hS
      replace hU := Lib.hid hU
      replace hbk := Lib.hid hbk
      clear hz0 hz1 hu0 hu1
      rcases (Bool.eq_false_or_eq_true (askB sc S U)).symm with hA | hA
      · have g4 := Lib.hid (g3.out hA)
        clear g2 g3 hA hback hbk
        go_wp2_with fail
        refine g4.out.mono ?_
        rintro e w' ⟨rfl, rfl⟩
        go_wp2_with fail
        go_ret
        exact ⟨rfl, HB5.out⟩
      · have g4 := g2.out hA
        have hback' := hback hA
        rw [← hbk.out] at g4 hback'
        replace g4 := Lib.hid g4
        clear g2 g3 hA hback hbk
        by_cases hlt : S * 64 < U
        · clear hback'
          go_wp2_with fail
          refine g4.out.mono ?_
          rintro e w' ⟨rfl, rfl⟩
          go_wp2_with fail
          go_ret
          exact ⟨rfl, HB5.out⟩
        · obtain rfl := hback' (by omega)
          have hbb : (bk == bk) = true := by simp
          have hvv := hv.out
          go_wp2_with fail
          refine g4.out.mono ?_
          rintro e w' ⟨rfl, rfl⟩
          go_wp2_with fail
          go_ret
          exact ⟨rfl, HB5.out⟩
end Go.Proofs.Ytgngcllodofimaa
