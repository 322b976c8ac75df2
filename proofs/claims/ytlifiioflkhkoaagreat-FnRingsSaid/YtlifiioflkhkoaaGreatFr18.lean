/- Merging two runs in place, whole, over any program that bears this function. Printed by mk_sy3.py. Conditions: as each states. -/
import Derived.Deep.DeepCutAuto
import Derived.Sort.WalkB2
import Derived.Sort.WalkB12
import Derived.Deep.LoopGhost
import Derived.Sort.AssemblyPlain
import Derived.StillTail
import Derived.Deep.RegionHeld3
import Derived.Test.YtlifiioflkhkoaaGreatFr16
import Derived.Test.YtlifiioflkhkoaaGreatFr17
import Derived.Test.YtlifiioflkhkoaaGreatFr15
import Derived.Test.YtlifiioflkhkoaaGreatFr10
import Derived.Test.YtlifiioflkhkoaaGreatFr01
namespace Go.Proofs.YtlifiioflkhkoaaGreat
open Go.RowKit Go.Shelf Go.Lib Go.Sort Go.Proofs
set_option linter.unusedVariables false
set_option maxRecDepth 100000
set_option linter.unusedSimpArgs false
variable {P : Program} {ρ : Ren} {α : Type} [Inhabited α]

/-- what is shown of runs of at most so many elements -/
def SymAt (P : Program) (ρ : Ren) (k : Nat) (enc : α → List Value) (cf : α → α → Int) (g : Nat) (cb : Array Value) (d0 : Array α) (blk off : Nat) (w0 : World) (len : Nat) : Prop := ∀ (cap a m b : Nat) (A X Y B : List α) (d : Array α) (w : World), X.length + Y.length ≤ len → d.toList = A ++ (X ++ (Y ++ B)) → A.length = a → m = a + X.length → b = m + Y.length → 0 < X.length → 0 < Y.length → SortedL (ltOf cf) X → SortedL (ltOf cf) Y → d0.size = d.size → SWK enc k w0 blk off d w → d.size < 1000000000000 → Calls P (ρ.f 89) #[.slice (some ⟨blk, off, none⟩) d.size cap, .int .i64 a, .int .i64 m, .int .i64 b, .func (.func g) #[] cb] w fun e w' =>
      e = .returned (.tuple #[]) ∧ ∃ d' : Array α, d'.toList = A ++ (mrg (ltOf cf) X Y ++ B) ∧ SWK enc k w0 blk off d' w'
set_option maxHeartbeats 16000000 in
set_option maxRecDepth 1000000 in
theorem symMain_any (L : StL P ρ) (k : Nat) (aE : ∀ w, (isAgg (ρ.t 42)).run P w = .ok true w) (zE : ∀ w, (Go.sizeOf (ρ.t 42)).run P w = .ok k w) (enc : α → List Value) (cf : α → α → Int) (hO : SWO (ltOf cf)) (g : Nat) (cb : Array Value) (eg : ∀ args w, (callFunc g args).run P w = .ok (.enter g args) w) (d0 : Array α) (blk off : Nat) (w0 : World) (hcmp : CmpLays P g cb enc k cf blk off d0.size w0) (R : RowK enc k w0 blk off d0) (cap a m b : Nat) (A X Y B : List α) (d : Array α) (w : World) (len : Nat) (hlen : X.length + Y.length ≤ len + 1) (ih : SymAt P ρ k enc cf g cb d0 blk off w0 len) (hm0 : a + 1 < m) (hm1 : m + 1 < b) : d.toList = A ++ (X ++ (Y ++ B)) → A.length = a → m = a + X.length → b = m + Y.length → 0 < X.length → 0 < Y.length → SortedL (ltOf cf) X → SortedL (ltOf cf) Y → d0.size = d.size → SWK enc k w0 blk off d w → d.size < 1000000000000 → Calls P (ρ.f 89) #[.slice (some ⟨blk, off, none⟩) d.size cap, .int .i64 a, .int .i64 m, .int .i64 b, .func (.func g) #[] cb] w fun e w' =>
      e = .returned (.tuple #[]) ∧ ∃ d' : Array α, d'.toList = A ++ (mrg (ltOf cf) X Y ++ B) ∧ SWK enc k w0 blk off d' w' := by
  have mixed := L.mixed; have t0 := L.t0; have a0 := L.a0; have z0 := L.z0; have v0 := L.v0; have t3 := L.t3; have a3 := L.a3; have z3 := L.z3; have v3 := L.v3; have t4 := L.t4; have a4 := L.a4; have z4 := L.z4; have v4 := L.v4; have tsl := L.tsl; have asl := L.asl; have zsl := L.zsl; have vsl := L.vsl; have tfn := L.tfn; have afn := L.afn; have zfn := L.zfn; have vfn := L.vfn; have tun := L.tun; have aun := L.aun; have zun := L.zun; have vun := L.vun
  obtain ⟨_, _, FG⟩ := L.fsym
  intro hd ha hm hb hX hY hsX hsY hs S hsz
  have hdl := size_list hd
  simp only [List.length_append] at hdl
  have S0 : Aside (SWK enc k w0 blk off d w) := S
  have HC : Aside (CmpLays P g cb enc k cf blk off d0.size w0) := hcmp
  have HD : Hid _ := hd
  obtain ⟨N, hN⟩ : ∃ N, N = d.size := ⟨_, rfl⟩
  rw [← hN] at hdl hs hsz ⊢
  have hN0 : d0.size = N := hs
  replace hN : Hid (d.size = N ∧ d0.size = N) := ⟨hN.symm, hs⟩
  have hab : a < m ∧ m < b ∧ b ≤ N := by omega
  have LL : Hid (A.length = a ∧ m = a + X.length ∧ b = m + Y.length ∧ N = A.length + (X.length + (Y.length + B.length))) := ⟨ha, hm, hb, hdl⟩
  replace hsX := Lib.hid hsX
  replace hsY := Lib.hid hsY
  replace hO : Aside (SWO (ltOf cf)) := hO
  obtain ⟨ham, hmb, hbN⟩ := hab
  have hlen2 := Lib.hid hlen
  have IH : Aside _ := ih
  have e89 : ∀ args w, (callFunc (ρ.f 89) args).run P w = .ok (.enter (ρ.f 89) args) w := L.fsym.enters rfl
  have e100 : ∀ args w, (callFunc (ρ.f 100) args).run P w = .ok (.enter (ρ.f 100) args) w := L.frot.enters rfl
  clear S hd hdl hcmp hX hY ha hm hb hs hN0 hlen ih
  have hma : IntKind.i64.wrap ((b : Int) - (m : Int)) = (b : Int) - (m : Int) := by rw [IntKind.wrap_i64]; omega
  have hma0 : IntKind.i64.wrap ((m : Int) - (a : Int)) = (m : Int) - (a : Int) := by rw [IntKind.wrap_i64]; omega
  have hm00 : ((m : Int) - (a : Int) == 1) = false := by simp; omega
  have hm02 : ((b : Int) - (m : Int) == 1) = false := by simp; omega
  obtain ⟨mid, hmid⟩ : ∃ h : Nat, ((a : Int) + (b : Int)) / 2 = (h : Int) := ⟨(a + b) / 2, by omega⟩
  obtain ⟨n, hn⟩ : ∃ n : Nat, n = mid + m := ⟨_, rfl⟩
  have hw1 : IntKind.i64.wrap ((mid : Int) + (m : Int)) = (n : Int) := by rw [IntKind.wrap_i64]; omega
  have hw3 : IntKind.i64.wrap ((n : Int) - (b : Int)) = (n : Int) - (b : Int) := by rw [IntKind.wrap_i64]; omega
  have hmid2 : a < mid ∧ mid < b ∧ 2 * mid ≤ a + b ∧ a + b ≤ 2 * mid + 1 := by omega
  go_enter FG, StB.symR_ntmps ρ
  go_upto_if 140 with fail
  go_cut [19, 20, 21] from 138 to 146 (fun s19 s20 s21 wx => ∃ i j : Nat, s19 = .int .i64 n ∧ s20 = .int .i64 i ∧ s21 = .int .i64 j ∧ i ≤ j ∧ a ≤ i ∧ j ≤ m ∧ j ≤ mid ∧ n ≤ b + i ∧ (i = a ∨ i + b = n) ∧ (j = m ∨ j = mid) ∧ wx = w)
  case first =>
    by_cases hgt : mid < m
    · have hgz : (mid : Int) < (m : Int) := by omega
      go_wp2
      go_meet
      case rel => exact ⟨n - b, mid, by go_num, by go_num, rfl, by omega, by omega, by omega, by omega, by omega, by omega, by omega, rfl⟩
    · have hgz : ¬ (mid : Int) < (m : Int) := by omega
      go_wp2
      go_meet
      case rel => exact ⟨a, m, by go_num, rfl, rfl, by omega, by omega, by omega, by omega, by omega, by omega, by omega, rfl⟩
  case rest =>
  obtain ⟨i0, j0, rfl, rfl, rfl, hij0, hai0, hjm0, hjd0, hnb0, hi0, hj0, rfl⟩ := hcut
  have hbn : m ≤ n ∧ n ≤ 1000000000000 + m ∧ n ≤ j0 + b ∧ m + j0 ≤ n := by omega
  replace hn := Lib.hid hn
  clear hmid hw1
  replace hi0 := Lib.hid hi0
  replace hj0 := Lib.hid hj0
  go_wp2_with fail
  go_loopg [20, 21] (j0 - i0) (fun kx s20 s21 wr => ∃ i j : Nat, s20 = .int .i64 i ∧ s21 = .int .i64 j ∧ i0 ≤ i ∧ i ≤ j ∧ j ≤ j0 ∧ j - i ≤ kx ∧ Hid (i = i0 ∨ ltOf cf d[n - i]! d[i - 1]! = false) ∧ Hid (j = j0 ∨ ltOf cf d[n - 1 - j]! d[j]! = true) ∧ Aside (SWK enc k w0 blk off d wr))
  case atStart => exact ⟨i0, j0, rfl, rfl, Nat.le_refl _, hij0, Nat.le_refl _, Nat.le_refl _, .inl rfl, .inl rfl, S0⟩
  case round =>
    clear S0
    obtain ⟨i, j, rfl, rfl, hmi, hij, hjb, hkx, HI, HJ, S1⟩ := hrel
    by_cases hlt : i < j
    · obtain ⟨h, hh⟩ : ∃ h : Nat, ((i : Int) + (j : Int)) / 2 = (h : Int) := ⟨(i + j) / 2, by omega⟩
      have hh1 : i ≤ h ∧ h < j := by omega
      have xa5 : (h : Int) ≤ (n : Int) - 1 := by omega
      have xb5 : (h : Int) + 1 ≤ (n : Int) := by omega
      have xc5 : h + 1 ≤ n := by omega
      cases hL : ltOf cf d[n - 1 - h]! d[h]! with
      | true =>
        have ea5 : ((n : Int) - 1 - (h : Int)).toNat = n - 1 - h := by omega
        have pa5 : (0 : Int) ≤ (n : Int) - 1 - (h : Int) := by omega
        have ba5 : (n : Int) - 1 - (h : Int) < (N : Int) := by omega
        have ra5 : IntKind.i64.wrap ((n : Int) - 1 - (h : Int)) = (n : Int) - 1 - (h : Int) := by rw [IntKind.wrap_i64]; omega
        have ec5 : ((h : Int)).toNat = h := by omega
        have pc5 : (0 : Int) ≤ (h : Int) := by omega
        have bc5 : (h : Int) < (N : Int) := by omega
        have rc5 : IntKind.i64.wrap ((h : Int)) = (h : Int) := by rw [IntKind.wrap_i64]; omega
        obtain ⟨x5, hx5⟩ : ∃ x, x = d[n - 1 - h]! := ⟨_, rfl⟩
        obtain ⟨y5, hy5⟩ : ∃ x, x = d[h]! := ⟨_, rfl⟩
        have la := S1.out.ld R (by have := hN.out; omega) P (n - 1 - h) (by have := hN.out; omega)
        have lb := S1.out.ld R (by have := hN.out; omega) P (h) (by have := hN.out; omega)
        rw [← hx5] at la
        rw [← hy5] at lb
        have hc5 := S1.out.cmp HC.out (by have := hN.out; omega) x5 y5
        have hv5 : cf x5 y5 < 0 := by rw [hx5, hy5]; exact of_decide_eq_true hL
        have hd5 : decide (cf x5 y5 < 0) = true := decide_eq_true hv5
        replace hL := Lib.hid hL
        clear hx5 hy5
        go_wp2_with fail
        go_quiet_grown (first | (go_at_fn g; refine Calls.grown_of (hc5 _ _)))
        have S2 : Aside (SWK enc k w0 blk off d (grow (wr.drewN nq) osq)) := S1.out.grown nq osq
        clear la lb hc5 S1
        generalize grow (wr.drewN nq) osq = w2 at S2 ⊢
        clear nq osq
        go_wp2
        go_roundg (h - i)
        case measure => omega
        case rel => exact ⟨i, h, rfl, by go_num, hmi, by omega, by omega, Nat.le_refl _, HI, .inr hL.out, S2⟩
      | false =>
        have ea5 : ((n : Int) - 1 - (h : Int)).toNat = n - 1 - h := by omega
        have pa5 : (0 : Int) ≤ (n : Int) - 1 - (h : Int) := by omega
        have ba5 : (n : Int) - 1 - (h : Int) < (N : Int) := by omega
        have ra5 : IntKind.i64.wrap ((n : Int) - 1 - (h : Int)) = (n : Int) - 1 - (h : Int) := by rw [IntKind.wrap_i64]; omega
        have ec5 : ((h : Int)).toNat = h := by omega
        have pc5 : (0 : Int) ≤ (h : Int) := by omega
        have bc5 : (h : Int) < (N : Int) := by omega
        have rc5 : IntKind.i64.wrap ((h : Int)) = (h : Int) := by rw [IntKind.wrap_i64]; omega
        obtain ⟨x5, hx5⟩ : ∃ x, x = d[n - 1 - h]! := ⟨_, rfl⟩
        obtain ⟨y5, hy5⟩ : ∃ x, x = d[h]! := ⟨_, rfl⟩
        have la := S1.out.ld R (by have := hN.out; omega) P (n - 1 - h) (by have := hN.out; omega)
        have lb := S1.out.ld R (by have := hN.out; omega) P (h) (by have := hN.out; omega)
        rw [← hx5] at la
        rw [← hy5] at lb
        have hc5 := S1.out.cmp HC.out (by have := hN.out; omega) x5 y5
        have hv5 : ¬ cf x5 y5 < 0 := by rw [hx5, hy5]; exact of_decide_eq_false hL
        have hd5 : decide (cf x5 y5 < 0) = false := decide_eq_false hv5
        replace hL := Lib.hid hL
        clear hx5 hy5
        go_wp2_with fail
        go_quiet_grown (first | (go_at_fn g; refine Calls.grown_of (hc5 _ _)))
        have S2 : Aside (SWK enc k w0 blk off d (grow (wr.drewN nq) osq)) := S1.out.grown nq osq
        clear la lb hc5 S1
        generalize grow (wr.drewN nq) osq = w2 at S2 ⊢
        clear nq osq
        go_wp2
        go_roundg (j - (h + 1))
        case measure => omega
        case rel => exact ⟨h + 1, j, by go_num, rfl, by omega, by omega, hjb, Nat.le_refl _, .inr (by rw [Nat.add_sub_cancel, show n - (h + 1) = n - 1 - h by omega]; exact hL.out), HJ, S2⟩
    · have hij2 : i = j := by omega
      subst hij2
      have hsplit : ∃ X1 X2 Y1 Y2, Hid (X = X1 ++ X2 ∧ X1.length = i - a ∧ Y = Y1 ++ Y2 ∧ Y1.length = n - i - m ∧ mrg (ltOf cf) X Y = mrg (ltOf cf) X1 Y1 ++ mrg (ltOf cf) X2 Y2) := by
        have hl := LL.out
        have hnn := hn.out
        obtain ⟨X1, X2, h1, h2, h3, h4⟩ := cut_at (d := d) (A := A) (X := X) (B := Y ++ B) HD.out i (by omega) (by omega)
        obtain ⟨Y1, Y2, g1, g2, g3, g4⟩ := cut_at (d := d) (A := A ++ X) (X := Y) (B := B) (by rw [HD.out]; simp) (n - i) (by simp; omega) (by simp; omega)
        simp only [List.length_append] at g2 g3 g4
        have hsx := hsX.out
        have hsy := hsY.out
        rw [h1] at hsx; rw [g1] at hsy
        refine ⟨X1, X2, Y1, Y2, h1, by omega, g1, by omega, ?_⟩
        rw [h1, g1]
        refine split_ok hO.out hsx hsy ?_ ?_
        · rcases HI.out with h6 | h6
          · rcases hi0.out with h7 | h7
            · exact .inl (List.eq_nil_of_length_eq_zero (by omega))
            · exact .inr (.inl (List.eq_nil_of_length_eq_zero (by have := congrArg List.length g1; rw [List.length_append] at this; omega)))
          · rcases h3 with ⟨_, h3⟩ | ⟨X', x, h3, h5⟩
            · exact .inl h3
            · rcases g4 with ⟨_, g4⟩ | ⟨y, Y', g4, g5⟩
              · exact .inr (.inl g4)
              · exact .inr (.inr ⟨X', x, y, Y', h3, g4, by rw [← h5, ← g5]; exact h6⟩)
        · rcases HJ.out with h6 | h6
          · rcases hj0.out with h7 | h7
            · exact .inr (.inl (List.eq_nil_of_length_eq_zero (by have := congrArg List.length h1; rw [List.length_append] at this; omega)))
            · exact .inl (List.eq_nil_of_length_eq_zero (by omega))
          · rcases g3 with ⟨_, g3⟩ | ⟨Y', y, g3, g5⟩
            · exact .inl g3
            · rcases h4 with ⟨_, h4⟩ | ⟨x, X', h4, h5⟩
              · exact .inr (.inl h4)
              · exact .inr (.inr ⟨Y', y, x, X', g3, h4, by rw [← h5, ← g5, show n - i - 1 = n - 1 - i by omega]; exact h6⟩)
      obtain ⟨X1, X2, Y1, Y2, HS⟩ := hsplit
      clear HI HJ hi0 hj0 hkx
      have hmn : n ≤ b + i ∧ m + i ≤ n ∧ a ≤ i ∧ i ≤ m ∧ i ≤ mid := by have := hn.out; omega
      obtain ⟨en, hen⟩ : ∃ en : Nat, en = n - i := ⟨_, rfl⟩
      have hw4 : IntKind.i64.wrap ((n : Int) - (i : Int)) = (en : Int) := by rw [IntKind.wrap_i64]; omega
      have hE : m ≤ en ∧ en ≤ b ∧ en + i = n := by omega
      have hls : Hid (X1.length = i - a ∧ X2.length = m - i ∧ Y1.length = en - m ∧ Y2.length = b - en ∧ SortedL (ltOf cf) X1 ∧ SortedL (ltOf cf) X2 ∧ SortedL (ltOf cf) Y1 ∧ SortedL (ltOf cf) Y2) := by
        have hl := LL.out
        have h1 := congrArg List.length HS.out.1
        have h2 := congrArg List.length HS.out.2.2.1
        have h3 := HS.out.2.1
        have h4 := HS.out.2.2.2.1
        rw [List.length_append] at h1 h2
        have hsx := hsX.out
        have hsy := hsY.out
        rw [HS.out.1] at hsx; rw [HS.out.2.2.1] at hsy
        exact ⟨by omega, by omega, by omega, by omega, (sorted_app.1 hsx).1, (sorted_app.1 hsx).2.1, (sorted_app.1 hsy).1, (sorted_app.1 hsy).2.1⟩
      clear hen hsX hsY
      go_upto_region 39 with fail
      go_cut [24, 185] from 178 to 185 (fun s24 sb wx => s24 = .int .i64 en ∧ sb = .bool (decide (i < m ∧ m < en)) ∧ wr = wx)
      case first =>
        by_cases q0 : i < m
        · have q0i : (i : Int) < (m : Int) := by omega
          by_cases q1 : m < en
          · have q1i : (m : Int) < (en : Int) := by omega
            go_wp2
            go_meet
            case rel => exact ⟨rfl, by simp [q0, q1], rfl⟩
          · have q1i : ¬ (m : Int) < (en : Int) := by omega
            go_wp2
            go_meet
            case rel => exact ⟨rfl, by simp [q0, q1], rfl⟩
        · have q0i : ¬ (i : Int) < (m : Int) := by omega
          go_wp2
          go_meet
          case rel => exact ⟨rfl, by simp [q0], rfl⟩
      case rest =>
      obtain ⟨rfl, rfl, hwx⟩ := hcut
      subst hwx
      go_upto_if 185 with fail
      go_cut [24] from 185 to 191 (fun s24 wx => s24 = .int .i64 en ∧ ∃ d2 : Array α, Hid (d2.toList = A ++ (X1 ++ (Y1 ++ (X2 ++ (Y2 ++ B))))) ∧ Aside (SWK enc k w0 blk off d2 wx))
      case first =>
        by_cases q0 : i < m ∧ m < en
        · rw [decide_eq_true q0]
          have HZ := hN.out.1
          have hc := Lib.hid (rotate_any L k aE zE enc cap i m en (A ++ X1) X2 Y1 (Y2 ++ B) d d0 blk off w0 wr g cb (by rw [HD.out, HS.out.1, HS.out.2.2.1]; simp only [List.append_assoc]) (by simp only [List.length_append]; have := hls.out; have := LL.out; omega) (by have := hls.out; omega) (by have := hls.out; omega) (by have := hls.out; omega) (by have := hls.out; omega) R (by rw [hN.out.1]; exact hN.out.2) S1.out (by rw [hN.out.1]; exact hsz))
          rw [HZ] at hc
          clear S1
          go_wp2_with (go_at_fn (ρ.f 100); refine hc.out.mono ?_; rintro e w5 ⟨rfl, d5, hd5, S5⟩; replace hd5 := Lib.hid hd5; replace S5 : Aside _ := S5)
          go_meet
          case rel => exact ⟨rfl, d5, by rw [Hid] at *; rw [hd5]; try simp only [List.append_assoc], S5⟩
        · rw [decide_eq_false q0]
          go_wp2
          go_meet
          case rel =>
            refine ⟨rfl, _, ?_, S1⟩
            show _ = _
            have hh : Y1 = [] ∨ X2 = [] := by
              by_cases q1 : i < m
              · exact .inl (List.eq_nil_of_length_eq_zero (by have := hls.out; omega))
              · exact .inr (List.eq_nil_of_length_eq_zero (by have := hls.out; omega))
            rw [HD.out, HS.out.1, HS.out.2.2.1]
            rcases hh with hh | hh
            · rw [hh]; simp only [List.append_assoc, List.nil_append]
            · rw [hh]; simp only [List.append_assoc, List.nil_append]
      case rest =>
      clear S1
      obtain ⟨rfl, d2, hd2, S2⟩ := hcut
      generalize wc = wd at *
      go_upto_region 41 with fail
      go_cut [24, 199] from 192 to 199 (fun s24 sb wx => s24 = .int .i64 en ∧ sb = .bool (decide (a < i ∧ i < mid)) ∧ wd = wx)
      case first =>
        by_cases q0 : a < i
        · have q0i : (a : Int) < (i : Int) := by omega
          by_cases q1 : i < mid
          · have q1i : (i : Int) < (mid : Int) := by omega
            go_wp2
            go_meet
            case rel => exact ⟨rfl, by simp [q0, q1], rfl⟩
          · have q1i : ¬ (i : Int) < (mid : Int) := by omega
            go_wp2
            go_meet
            case rel => exact ⟨rfl, by simp [q0, q1], rfl⟩
        · have q0i : ¬ (a : Int) < (i : Int) := by omega
          go_wp2
          go_meet
          case rel => exact ⟨rfl, by simp [q0], rfl⟩
      case rest =>
      obtain ⟨rfl, rfl, hwx⟩ := hcut
      subst hwx
      go_upto_if 199 with fail
      go_cut [24] from 199 to 205 (fun s24 wx => s24 = .int .i64 en ∧ ∃ d2 : Array α, Hid (d2.toList = A ++ (mrg (ltOf cf) X1 Y1 ++ (X2 ++ (Y2 ++ B)))) ∧ Aside (SWK enc k w0 blk off d2 wx))
      case first =>
        by_cases q0 : a < i ∧ i < mid
        · rw [decide_eq_true q0]
          have zd2 : d2.size = N := by have := size_list hd2.out; simp only [List.length_append, mrg_len] at this; rw [this]; have := hls.out; have := LL.out; omega
          have HZ := zd2
          have hc := Lib.hid (IH.out cap a i mid A X1 Y1 (X2 ++ (Y2 ++ B)) d2 wd (by have := hls.out; have := hlen2.out; have := LL.out; have := hn.out; omega) hd2.out LL.out.1 (by have := hls.out; omega) (by have := hls.out; have := hn.out; omega) (by have := hls.out; omega) (by have := hls.out; have := hn.out; omega) hls.out.2.2.2.2.1 hls.out.2.2.2.2.2.2.1 (by rw [zd2]; exact hN.out.2) S2.out (by rw [zd2]; exact hsz))
          rw [HZ] at hc
          clear S2
          go_wp2_with (go_at_fn (ρ.f 89); refine hc.out.mono ?_; rintro e w5 ⟨rfl, d5, hd5, S5⟩; replace hd5 := Lib.hid hd5; replace S5 : Aside _ := S5)
          go_meet
          case rel => exact ⟨rfl, d5, by rw [Hid] at *; rw [hd5]; try simp only [List.append_assoc], S5⟩
        · rw [decide_eq_false q0]
          go_wp2
          go_meet
          case rel =>
            refine ⟨rfl, _, ?_, S2⟩
            show _ = _
            have hh : Y1 = [] ∨ X1 = [] := by
              by_cases q1 : a < i
              · exact .inl (List.eq_nil_of_length_eq_zero (by have := hls.out; have := hn.out; omega))
              · exact .inr (List.eq_nil_of_length_eq_zero (by have := hls.out; omega))
            rw [hd2.out]
            rcases hh with hh | hh
            · rw [hh, mrg_nil_right]; simp only [List.nil_append]
            · rw [hh, mrg_nil_left]; simp only [List.nil_append]
      case rest =>
      clear S2
      obtain ⟨rfl, d3, hd3, S3⟩ := hcut
      generalize wc = we at *
      by_cases c2 : mid < en
      · have cmiden : (mid : Int) < (en : Int) := by omega
        by_cases c3 : en < b
        · have cenb : (en : Int) < (b : Int) := by omega
          have zd3 : d3.size = N := by have := size_list hd3.out; simp only [List.length_append, mrg_len] at this; rw [this]; have := hls.out; have := LL.out; omega
          have hc := Lib.hid (IH.out cap mid en b (A ++ mrg (ltOf cf) X1 Y1) X2 Y2 B d3 we (by have := hls.out; have := hlen2.out; have := LL.out; have := hn.out; omega) (by rw [hd3.out]; simp only [List.append_assoc]) (by simp only [List.length_append, mrg_len]; have := hls.out; have := LL.out; have := hn.out; omega) (by have := hls.out; have := hn.out; omega) (by have := hls.out; omega) (by have := hls.out; have := hn.out; omega) (by have := hls.out; omega) hls.out.2.2.2.2.2.1 hls.out.2.2.2.2.2.2.2 (by rw [zd3]; exact hN.out.2) S3.out (by rw [zd3]; exact hsz))
          rw [zd3] at hc
          clear S3
          go_wp2_with (go_at_fn (ρ.f 89); refine hc.out.mono ?_; rintro e w7 ⟨rfl, d7, hd7, S7⟩; replace hd7 := Lib.hid hd7; replace S7 : Aside _ := S7)
          go_end0
          exact ⟨rfl, d7, by rw [hd7.out, HS.out.2.2.2.2]; simp only [List.append_assoc], S7.out⟩
        · have cenb : ¬ (en : Int) < (b : Int) := by omega
          have hy2 : Y2 = [] := List.eq_nil_of_length_eq_zero (by have := hls.out; omega)
          go_wp2
          go_end0
          exact ⟨rfl, d3, by rw [hd3.out, HS.out.2.2.2.2, hy2, mrg_nil_right]; simp only [List.append_assoc, List.nil_append], S3.out⟩
      · have cmiden : ¬ (mid : Int) < (en : Int) := by omega
        have hx2 : X2 = [] := List.eq_nil_of_length_eq_zero (by have := hls.out; have := hn.out; omega)
        go_wp2
        go_end0
        exact ⟨rfl, d3, by rw [hd3.out, HS.out.2.2.2.2, hx2, mrg_nil_left]; simp only [List.append_assoc, List.nil_append], S3.out⟩

theorem symMerge_any (L : StL P ρ) (k : Nat) (aE : ∀ w, (isAgg (ρ.t 42)).run P w = .ok true w) (zE : ∀ w, (Go.sizeOf (ρ.t 42)).run P w = .ok k w) (enc : α → List Value) (cf : α → α → Int) (hO : SWO (ltOf cf)) (g : Nat) (cb : Array Value) (eg : ∀ args w, (callFunc g args).run P w = .ok (.enter g args) w) (d0 : Array α) (blk off : Nat) (w0 : World) (hcmp : CmpLays P g cb enc k cf blk off d0.size w0) (R : RowK enc k w0 blk off d0) : ∀ len, SymAt P ρ k enc cf g cb d0 blk off w0 len
  | 0 => fun cap a m b A X Y B d w h1 _ _ _ _ hX => by omega
  | len + 1 => fun cap a m b A X Y B d w h1 hd ha hm hb hX hY => by
    by_cases c0 : m = a + 1
    · exact symLeft_any L k aE zE enc cf hO g cb eg d0 blk off w0 hcmp R cap a m b A X Y B d w c0 hd ha hm hb hX hY
    · by_cases c1 : b = m + 1
      · exact symRight_any L k aE zE enc cf hO g cb eg d0 blk off w0 hcmp R cap a m b A X Y B d w (by omega) c1 hd ha hm hb hX hY
      · exact symMain_any L k aE zE enc cf hO g cb eg d0 blk off w0 hcmp R cap a m b A X Y B d w len h1 (symMerge_any L k aE zE enc cf hO g cb eg d0 blk off w0 hcmp R len) (by omega) (by omega) hd ha hm hb hX hY
end Go.Proofs.YtlifiioflkhkoaaGreat

/- A stable sort by blocks: the numbers alone. Conditions: as each states. -/
namespace Go.Proofs.YtlifiioflkhkoaaGreat
open Go.Sort
set_option linter.unusedVariables false
set_option maxRecDepth 100000
set_option linter.unusedSectionVars false
variable {α : Type}
/-- sorted blocks of one length -/
def BlkS (lt : α → α → Bool) (s : Nat) (Bs : List (List α)) : Prop := ∀ X ∈ Bs, X.length = s ∧ SortedL lt X
theorem blk_nil (lt : α → α → Bool) (s : Nat) : BlkS lt s [] := fun X h => by cases h
theorem blk_len {lt : α → α → Bool} {s : Nat} : ∀ {Bs : List (List α)}, BlkS lt s Bs → Bs.flatten.length = Bs.length * s
  | [], _ => by simp
  | X :: Bs, h => by
    have ih := blk_len (Bs := Bs) (fun Y hY => h Y (List.mem_cons_of_mem _ hY))
    rw [List.flatten_cons, List.length_append, ih, (h X List.mem_cons_self).1, List.length_cons, Nat.add_mul]; omega
theorem blk_snoc {lt : α → α → Bool} {s : Nat} {Bs : List (List α)} {X : List α} (h : BlkS lt s Bs) (h1 : X.length = s) (h2 : SortedL lt X) : BlkS lt s (Bs ++ [X]) := fun Y hY => by
  rcases List.mem_append.1 hY with hY | hY
  · exact h Y hY
  · rw [List.mem_singleton.1 hY]; exact ⟨h1, h2⟩
theorem flat_snoc (Bs : List (List α)) (X : List α) : (Bs ++ [X]).flatten = Bs.flatten ++ X := by simp
variable [Inhabited α]
/-- insertion sort of a part of a row, as lists -/
theorem ins_list {lt : α → α → Bool} (hO : SWO lt) {d : Array α} {A X B : List α} {a b : Nat} (h : d.toList = A ++ (X ++ B)) (ha : A.length = a) (hb : b = a + X.length) :
    ∃ X', (insertionSort lt d a b).toList = A ++ (X' ++ B) ∧ X'.Perm X ∧ SortedL lt X' := by
  have hl := size_list h
  simp only [List.length_append] at hl
  obtain ⟨⟨h1, h2, h3⟩, h4⟩ := insertionSort_holds hO d a b (by omega) (by omega)
  generalize insertionSort lt d a b = d' at *
  have hsz : d'.toList.length = A.length + (X.length + B.length) := by rw [Array.length_toList, h1]; exact hl
  have hget : ∀ i, i < a ∨ b ≤ i → d'.toList[i]? = d.toList[i]? := by
    intro i hi
    have h5 := h2 i hi
    by_cases hlt : i < d.size
    · rw [Array.getElem?_toList, Array.getElem?_toList, Array.getElem?_eq_getElem hlt, Array.getElem?_eq_getElem (by omega)]
      rw [getElem!_pos d i hlt, getElem!_pos d' i (by omega)] at h5
      rw [h5]
    · rw [Array.getElem?_toList, Array.getElem?_toList, Array.getElem?_eq_none (by omega), Array.getElem?_eq_none (by omega)]
  have e1 : d'.toList.take a = A := by
    apply List.ext_getElem?
    intro i
    rw [List.getElem?_take]
    by_cases hi : i < a
    · rw [if_pos hi, hget i (.inl hi), h, List.getElem?_append_left (by omega)]
    · rw [if_neg hi, List.getElem?_eq_none (by omega)]
  have e2 : d'.toList.drop b = B := by
    apply List.ext_getElem?
    intro i
    rw [List.getElem?_drop, hget _ (.inr (by omega)), h, ← List.append_assoc, List.getElem?_append_right (by simp; omega)]
    congr 1
    simp; omega
  have e3 : d.toList.take b = A ++ X := by
    rw [h, ← List.append_assoc, List.take_append_of_le_length (by simp; omega), List.take_of_length_le (by simp; omega)]
  refine ⟨(d'.toList.drop a).take (b - a), ?_, ?_, ?_⟩
  · have e4 : d'.toList.drop b = (d'.toList.drop a).drop (b - a) := by rw [List.drop_drop]; congr 1; omega
    rw [← e2, e4, List.take_append_drop]
    conv => lhs; rw [← List.take_append_drop a d'.toList, e1]
  · have e5 : ∀ c : Array α, (c.extract a b).toList = (c.toList.drop a).take (b - a) := by
      intro c
      rw [Array.toList_extract, List.extract_eq_take_drop]
    rw [e5, e5] at h3
    refine h3.trans (List.Perm.of_eq ?_)
    rw [h, List.drop_append_of_le_length (by omega), List.drop_of_length_le (by omega), List.nil_append, List.take_append_of_le_length (by omega), List.take_of_length_le (by omega)]
  · unfold SortedL
    rw [List.pairwise_iff_getElem]
    intro i j hi hj hij
    simp only [List.length_take, List.length_drop, Array.length_toList] at hi hj
    have h6 := h4 (a + i) (a + j) (by omega) (by omega) (by omega)
    rw [List.getElem_take, List.getElem_take, List.getElem_drop, List.getElem_drop, Array.getElem_toList, Array.getElem_toList]
    rw [getElem!_pos d' _ (by omega), getElem!_pos d' _ (by omega)] at h6
    exact h6
end Go.Proofs.YtlifiioflkhkoaaGreat

/- A stable sort, whole, over any program that bears it. Printed by mk_sy4.py. Conditions: as each states. -/
namespace Go.Proofs.YtlifiioflkhkoaaGreat
open Go.RowKit Go.Shelf Go.Lib Go.Sort Go.Proofs
set_option linter.unusedVariables false
set_option maxRecDepth 100000
set_option linter.unusedSimpArgs false
variable {P : Program} {ρ : Ren} {α : Type} [Inhabited α]

set_option maxHeartbeats 16000000 in
set_option maxRecDepth 1000000 in
theorem stable_any (L : StL P ρ) (k : Nat) (aE : ∀ w, (isAgg (ρ.t 42)).run P w = .ok true w) (zE : ∀ w, (Go.sizeOf (ρ.t 42)).run P w = .ok k w) (enc : α → List Value) (cf : α → α → Int) (hO : SWO (ltOf cf)) (g : Nat) (cb : Array Value) (eg : ∀ args w, (callFunc g args).run P w = .ok (.enter g args) w) (d0 : Array α) (blk off : Nat) (w0 : World) (hcmp : CmpLays P g cb enc k cf blk off d0.size w0) (R : RowK enc k w0 blk off d0) (hins : ∀ (cap a b : Nat) (d : Array α) (w : World), d0.size = d.size → SWK enc k w0 blk off d w → a ≤ b → b ≤ d.size → d.size < 1000000000000 → Calls P (ρ.f 88) #[.slice (some ⟨blk, off, none⟩) d.size cap, .int .i64 a, .int .i64 b, .func (.func g) #[] cb] w fun e w' => e = .returned (.tuple #[]) ∧ SWK enc k w0 blk off (Sort.insertionSort (ltOf cf) d a b) w') (eins : ∀ args w, (callFunc (ρ.f 88) args).run P w = .ok (.enter (ρ.f 88) args) w) (cap n : Nat) (d : Array α) (w : World) (hn : n = d.size) (hs : d0.size = d.size) (S : SWK enc k w0 blk off d w) (hsz : d.size < 1000000000000) :
    Calls P (ρ.f 73) #[.slice (some ⟨blk, off, none⟩) d.size cap, .int .i64 n, .func (.func g) #[] cb] w fun e w' =>
      e = .returned (.tuple #[]) ∧ ∃ d' : Array α, d'.toList.Perm d.toList ∧ SortedL (ltOf cf) d'.toList ∧ SWK enc k w0 blk off d' w' := by
  have mixed := L.mixed; have t0 := L.t0; have a0 := L.a0; have z0 := L.z0; have v0 := L.v0; have t3 := L.t3; have a3 := L.a3; have z3 := L.z3; have v3 := L.v3; have t4 := L.t4; have a4 := L.a4; have z4 := L.z4; have v4 := L.v4; have tsl := L.tsl; have asl := L.asl; have zsl := L.zsl; have vsl := L.vsl; have tfn := L.tfn; have afn := L.afn; have zfn := L.zfn; have vfn := L.vfn; have tun := L.tun; have aun := L.aun; have zun := L.zun; have vun := L.vun
  obtain ⟨_, _, FG⟩ := L.fstab
  have e89 : ∀ args w, (callFunc (ρ.f 89) args).run P w = .ok (.enter (ρ.f 89) args) w := L.fsym.enters rfl
  have S0 : Aside (SWK enc k w0 blk off d w) := S
  have zd : d.size = n := hn.symm
  rw [zd] at hs hsz ⊢
  have hN0 : Hid (d0.size = n) := hs
  replace hO : Aside (SWO (ltOf cf)) := hO
  replace hcmp : Aside (CmpLays P g cb enc k cf blk off d0.size w0) := hcmp
  replace hins := Lib.hid hins
  have hsize : Hid (∀ dk : Array α, dk.toList.Perm d.toList → dk.size = n) := fun dk h => by have := h.length_eq; simp only [Array.length_toList] at this; omega
  replace zd := Lib.hid zd
  clear S hs hn
  go_enter FG, StB.stabR_ntmps ρ
  go_wp2_with fail
  go_loopg [7, 8] (n) (fun kx s7 s8 wr => ∃ (a b : Nat) (dk : Array α) (Bs : List (List α)) (T : List α), s7 = .int .i64 a ∧ s8 = .int .i64 b ∧ Hid (b = a + 20) ∧ a ≤ n ∧ n - a ≤ kx ∧ Hid (dk.toList = Bs.flatten ++ T ∧ BlkS (ltOf cf) 20 Bs ∧ Bs.flatten.length = a ∧ dk.toList.Perm d.toList) ∧ Aside (SWK enc k w0 blk off dk wr))
  case atStart => exact ⟨0, 20, d, [], d.toList, rfl, rfl, rfl, Nat.zero_le _, Nat.le_refl _, ⟨rfl, blk_nil _ _, rfl, .refl _⟩, S0⟩
  case round =>
    clear S0
    obtain ⟨a, b, dk, Bs, T, rfl, rfl, hba, han, hkx, HK, S1⟩ := hrel
    have zdk := hsize.out dk HK.out.2.2.2
    have hTl : Hid (T.length = n - a) := by
      have h1 := size_list HK.out.1
      rw [List.length_append, HK.out.2.2.1] at h1
      show _ = _
      omega
    replace zdk := Lib.hid zdk
    by_cases hlt : b ≤ n
    · have hlz : (b : Int) ≤ (n : Int) := by omega
      have hlq : a + 20 ≤ n := by have := hba.out; omega
      have hspl : ∃ X T2, Hid (T = X ++ T2 ∧ X.length = 20) := by
        obtain ⟨X, T2, h1, h2⟩ := list_cut (L := T) 20 (by have := hTl.out; omega)
        exact ⟨X, T2, h1, h2⟩
      obtain ⟨X, T2, HX⟩ := hspl
      have hins2 : ∃ X', Hid ((Sort.insertionSort (ltOf cf) dk a (a + 20)).toList = Bs.flatten ++ (X' ++ T2) ∧ X'.Perm X ∧ SortedL (ltOf cf) X') := by
        obtain ⟨X', h1, h2, h3⟩ := ins_list hO.out (d := dk) (A := Bs.flatten) (X := X) (B := T2) (a := a) (b := a + 20) (by rw [HK.out.1, HX.out.1]) HK.out.2.2.1 (by rw [HX.out.2])
        exact ⟨X', h1, h2, h3⟩
      obtain ⟨X', HX2⟩ := hins2
      have hc := Lib.hid (hins.out cap a (a + 20) dk wr (by rw [zdk.out]; exact hN0.out) S1.out (by omega) (by rw [zdk.out]; omega) (by rw [zdk.out]; exact hsz))
      rw [zdk.out, ← hba.out] at hc
      clear S1
      go_wp2_with (go_at_fn (ρ.f 88); refine hc.out.mono ?_; rintro e w1 ⟨rfl, S2⟩; replace S2 : Aside _ := S2)
      go_roundg (n - b)
      case measure => have := hba.out; omega
      case rel =>
        refine ⟨b, b + 20, _, Bs ++ [X'], T2, rfl, by go_num, rfl, by omega, Nat.le_refl _, ⟨?_, blk_snoc HK.out.2.1 (by rw [HX2.out.2.1.length_eq, HX.out.2]) HX2.out.2.2, ?_, ?_⟩, S2⟩
        · rw [hba.out, HX2.out.1, flat_snoc]; simp only [List.append_assoc]
        · rw [flat_snoc, List.length_append, HK.out.2.2.1, HX2.out.2.1.length_eq, HX.out.2, hba.out]
        · rw [hba.out, HX2.out.1]
          refine List.Perm.trans ?_ HK.out.2.2.2
          rw [HK.out.1, HX.out.1]
          exact (HX2.out.2.1.append_right T2).append_left _
    · have hlz : ¬ (b : Int) ≤ (n : Int) := by omega
      have hlq : n < a + 20 := by have := hba.out; omega
      have hins2 : ∃ X', Hid ((Sort.insertionSort (ltOf cf) dk a n).toList = Bs.flatten ++ X' ∧ X'.Perm T ∧ SortedL (ltOf cf) X') := by
        obtain ⟨X', h1, h2, h3⟩ := ins_list hO.out (d := dk) (A := Bs.flatten) (X := T) (B := []) (a := a) (b := n) (by rw [HK.out.1]; simp) HK.out.2.2.1 (by have := hTl.out; omega)
        exact ⟨X', by rw [h1]; simp, h2, h3⟩
      obtain ⟨X', HX2⟩ := hins2
      have hc := Lib.hid (hins.out cap a n dk wr (by rw [zdk.out]; exact hN0.out) S1.out han (by rw [zdk.out]; omega) (by rw [zdk.out]; exact hsz))
      rw [zdk.out] at hc
      clear S1
      go_wp2_with (go_at_fn (ρ.f 88); refine hc.out.mono ?_; rintro e w1 ⟨rfl, S2⟩; replace S2 : Aside _ := S2)
      clear hc
      have hst : Hid ((Sort.insertionSort (ltOf cf) dk a n).toList = Bs.flatten ++ X' ∧ BlkS (ltOf cf) 20 Bs ∧ X'.length < 20 ∧ SortedL (ltOf cf) X' ∧ (Sort.insertionSort (ltOf cf) dk a n).toList.Perm d.toList) := by
        refine ⟨HX2.out.1, HK.out.2.1, by rw [HX2.out.2.1.length_eq]; have := hTl.out; omega, HX2.out.2.2, ?_⟩
        rw [HX2.out.1]
        refine List.Perm.trans ?_ HK.out.2.2.2
        rw [HK.out.1]
        exact HX2.out.2.1.append_left _
      generalize Sort.insertionSort (ltOf cf) dk a n = d2 at *
      clear HX2 HK zdk hTl hlz hlt hkx
      generalize w1 = v1 at *
      go_loopg [6, 7, 8, 9] (n) (fun kx s6 s7 s8 s9 wr => ∃ (s : Nat) (dk : Array α) (Bs : List (List α)) (T : List α), s6 = .int .i64 s ∧ 20 ≤ s ∧ s ≤ 2 * n + 20 ∧ n - s ≤ kx ∧ Hid (dk.toList = Bs.flatten ++ T ∧ BlkS (ltOf cf) s Bs ∧ T.length < s ∧ SortedL (ltOf cf) T ∧ dk.toList.Perm d.toList) ∧ Aside (SWK enc k w0 blk off dk wr))
      case atStart => exact ⟨20, d2, Bs, X', rfl, Nat.le_refl _, by omega, by omega, hst, S2⟩
      case round =>
        clear S2 hst
        obtain ⟨s, dk, Bs, T, rfl, hs20, hs2n, hkx, HK, S1⟩ := hrel
        have zdk := Lib.hid (hsize.out dk HK.out.2.2.2.2)
        generalize wr = xr at *
        by_cases hlt : s < n
        · have hlz : (s : Int) < (n : Int) := by omega
          have hw2 : IntKind.i64.wrap (2 * (s : Int)) = 2 * (s : Int) := by rw [IntKind.wrap_i64]; omega
          go_wp2_with fail
          go_loopg [7, 8] (n) (fun ky s7 s8 wr => ∃ (a b : Nat) (dk : Array α) (Ms Bs : List (List α)) (T : List α), s7 = .int .i64 a ∧ s8 = .int .i64 b ∧ Hid (b = a + 2 * s) ∧ b ≤ 4 * n + 100 ∧ a ≤ n ∧ n - a ≤ ky ∧ Hid (dk.toList = Ms.flatten ++ (Bs.flatten ++ T) ∧ BlkS (ltOf cf) (2 * s) Ms ∧ Ms.flatten.length = a ∧ BlkS (ltOf cf) s Bs ∧ T.length < s ∧ SortedL (ltOf cf) T ∧ dk.toList.Perm d.toList) ∧ Aside (SWK enc k w0 blk off dk wr))
          case atStart => exact ⟨0, 2 * s, dk, [], Bs, T, rfl, by go_num, (by show _ = _; omega), by omega, Nat.zero_le _, Nat.le_refl _, ⟨by rw [HK.out.1]; rfl, blk_nil _ _, rfl, HK.out.2.1, HK.out.2.2.1, HK.out.2.2.2.1, HK.out.2.2.2.2⟩, S1⟩
          case round =>
            clear S1 HK zdk
            obtain ⟨a, b, dk, Ms, Bs, T, rfl, rfl, hba, hbn, han, hky, HK, S1⟩ := hrel
            have zdk := hsize.out dk HK.out.2.2.2.2.2.2
            have hTl : Hid (Bs.length * s + T.length = n - a) := by
              have h1 := size_list HK.out.1
              rw [List.length_append, HK.out.2.2.1, List.length_append, blk_len HK.out.2.2.2.1] at h1
              show _ = _
              omega
            replace zdk := Lib.hid zdk
            by_cases hlt2 : b ≤ n
            · have hlz2 : (b : Int) ≤ (n : Int) := by omega
              have hlq : a + 2 * s ≤ n := by have := hba.out; omega
              have hspl : ∃ X Y Bs', Hid (Bs = X :: Y :: Bs') := by
                have h1 := hTl.out
                have h2 := HK.out.2.2.2.2.1
                match Bs, h1 with
                | [], h1 => simp at h1; omega
                | [X], h1 => simp at h1; omega
                | X :: Y :: Bs', _ => exact ⟨X, Y, Bs', rfl⟩
              obtain ⟨X, Y, Bs', HB⟩ := hspl
              have HXY : Hid ((X.length = s ∧ SortedL (ltOf cf) X) ∧ (Y.length = s ∧ SortedL (ltOf cf) Y) ∧ BlkS (ltOf cf) s Bs') := by
                have h := HK.out.2.2.2.1
                rw [HB.out] at h
                exact ⟨h X List.mem_cons_self, h Y (List.mem_cons_of_mem _ List.mem_cons_self), fun Z hZ => h Z (List.mem_cons_of_mem _ (List.mem_cons_of_mem _ hZ))⟩
              have hc := Lib.hid (symMerge_any L k aE zE enc cf hO.out g cb eg d0 blk off w0 hcmp.out R (X.length + Y.length) cap a (a + s) (a + 2 * s) Ms.flatten X Y (Bs'.flatten ++ T) dk wr (Nat.le_refl _) (by rw [HK.out.1, HB.out]; simp) HK.out.2.2.1 (by rw [HXY.out.1.1]) (by rw [HXY.out.2.1.1]; omega) (by rw [HXY.out.1.1]; omega) (by rw [HXY.out.2.1.1]; omega) HXY.out.1.2 HXY.out.2.1.2 (by rw [zdk.out]; exact hN0.out) S1.out (by rw [zdk.out]; exact hsz))
              rw [zdk.out, show ((a + s : Nat) : Int) = (a : Int) + (s : Int) by omega, ← hba.out] at hc
              clear S1
              go_wp2_with (go_at_fn (ρ.f 89); refine hc.out.mono ?_; rintro e w1 ⟨rfl, d3, hd3, S2⟩; replace hd3 := Lib.hid hd3; replace S2 : Aside _ := S2)
              clear hc
              go_roundg (n - b)
              case measure => have := hba.out; omega
              case rel =>
                refine ⟨b, b + 2 * s, d3, Ms ++ [mrg (ltOf cf) X Y], Bs', T, rfl, by go_num, rfl, by omega, by omega, Nat.le_refl _, ⟨?_, blk_snoc HK.out.2.1 ?_ (mrg_sorted hO.out HXY.out.1.2 HXY.out.2.1.2), ?_, HXY.out.2.2, HK.out.2.2.2.2.1, HK.out.2.2.2.2.2.1, ?_⟩, S2⟩
                · rw [hd3.out, flat_snoc]; simp only [List.append_assoc]
                · rw [mrg_len, HXY.out.1.1, HXY.out.2.1.1]; omega
                · rw [flat_snoc, List.length_append, HK.out.2.2.1, mrg_len, HXY.out.1.1, HXY.out.2.1.1, hba.out]; omega
                · rw [hd3.out]
                  refine List.Perm.trans ?_ HK.out.2.2.2.2.2.2
                  rw [HK.out.1, HB.out]
                  simp only [List.flatten_cons, List.append_assoc]
                  refine List.Perm.append_left _ ?_
                  have := (mrg_perm (ltOf cf) X Y).append_right (Bs'.flatten ++ T)
                  simpa only [List.append_assoc] using this
            · have hlz2 : ¬ (b : Int) ≤ (n : Int) := by omega
              have hlq : n < a + 2 * s := by have := hba.out; omega
              have hB1 : Bs.length ≤ 1 := by
                have h1 := hTl.out
                match Bs, h1 with
                | [], h1 => simp
                | [X], h1 => simp
                | X :: Y :: Bs', h1 => exfalso; simp only [List.length_cons, Nat.add_mul] at h1; omega
              by_cases hlt3 : a + s < n
              · have hlz3 : (a : Int) + (s : Int) < (n : Int) := by omega
                have hspl : ∃ X, Hid (Bs = [X]) := by
                  have h1 := hTl.out
                  have h2 := HK.out.2.2.2.2.1
                  match Bs, h1, hB1 with
                  | [], h1, _ => simp at h1; omega
                  | [X], _, _ => exact ⟨X, rfl⟩
                obtain ⟨X, HB⟩ := hspl
                have HXY : Hid ((X.length = s ∧ SortedL (ltOf cf) X) ∧ T.length = n - a - s) := by
                  have h := HK.out.2.2.2.1
                  have h1 := hTl.out
                  rw [HB.out] at h h1
                  refine ⟨h X List.mem_cons_self, ?_⟩
                  simp at h1; omega
                have hc := Lib.hid (symMerge_any L k aE zE enc cf hO.out g cb eg d0 blk off w0 hcmp.out R (X.length + T.length) cap a (a + s) n Ms.flatten X T [] dk wr (Nat.le_refl _) (by rw [HK.out.1, HB.out]; simp) HK.out.2.2.1 (by rw [HXY.out.1.1]) (by rw [HXY.out.2]; omega) (by rw [HXY.out.1.1]; omega) (by rw [HXY.out.2]; omega) HXY.out.1.2 HK.out.2.2.2.2.2.1 (by rw [zdk.out]; exact hN0.out) S1.out (by rw [zdk.out]; exact hsz))
                rw [zdk.out, show ((a + s : Nat) : Int) = (a : Int) + (s : Int) by omega] at hc
                clear S1
                go_wp2_with (go_at_fn (ρ.f 89); refine hc.out.mono ?_; rintro e w1 ⟨rfl, d3, hd3, S2⟩; replace hd3 := Lib.hid hd3; replace S2 : Aside _ := S2)
                clear hc
                go_roundg (n - 2 * s)
                case measure => omega
                case rel =>
                  refine ⟨2 * s, d3, Ms, mrg (ltOf cf) X T, by go_num, by omega, by omega, Nat.le_refl _, ⟨?_, HK.out.2.1, ?_, mrg_sorted hO.out HXY.out.1.2 HK.out.2.2.2.2.2.1, ?_⟩, S2⟩
                  · rw [hd3.out]; simp only [List.append_nil]
                  · rw [mrg_len, HXY.out.1.1]; have := HK.out.2.2.2.2.1; omega
                  · rw [hd3.out]
                    refine List.Perm.trans ?_ HK.out.2.2.2.2.2.2
                    rw [HK.out.1, HB.out]
                    simp only [List.flatten_cons, List.flatten_nil, List.append_nil]
                    exact List.Perm.append_left _ (mrg_perm (ltOf cf) X T)
              · have hlz3 : ¬ (a : Int) + (s : Int) < (n : Int) := by omega
                have hT : ∃ T2, Hid (Bs.flatten ++ T = T2 ∧ T2.length < 2 * s ∧ SortedL (ltOf cf) T2) := by
                  have h1 := hTl.out
                  have h2 := HK.out.2.2.2.1
                  have h3 := HK.out.2.2.2.2.2.1
                  match Bs, h1, hB1, h2 with
                  | [], h1, _, _ => exact ⟨T, by simp, by simp at h1; omega, h3⟩
                  | [X], h1, _, h2 =>
                    have hx := h2 X List.mem_cons_self
                    have : T = [] := List.eq_nil_of_length_eq_zero (by simp at h1; omega)
                    exact ⟨X, by simp [this], by omega, hx.2⟩
                obtain ⟨T2, HT2⟩ := hT
                go_wp2_with fail
                go_roundg (n - 2 * s)
                case measure => omega
                case rel => exact ⟨2 * s, dk, Ms, T2, by go_num, by omega, by omega, Nat.le_refl _, ⟨by rw [HK.out.1, HT2.out.1], HK.out.2.1, HT2.out.2.1, HT2.out.2.2, HK.out.2.2.2.2.2.2⟩, S1⟩
        · have hlz : ¬ (s : Int) < (n : Int) := by omega
          go_wp2_with fail
          go_end0
          refine ⟨rfl, dk, HK.out.2.2.2.2, ?_, S1.out⟩
          have h1 := HK.out.1
          have h2 := size_list h1
          have h3 := zdk.out
          have h4 := HK.out.2.1
          rw [List.length_append, blk_len h4] at h2
          match Bs, h1, h2, h4 with
          | [], h1, _, _ => rw [h1]; exact HK.out.2.2.2.1
          | [X], h1, h2, h4 =>
            have : T = [] := List.eq_nil_of_length_eq_zero (by simp at h2; omega)
            rw [h1, this]
            simpa using (h4 X List.mem_cons_self).2
          | X :: Y :: Bs', h1, h2, _ => exfalso; simp only [List.length_cons, Nat.add_mul] at h2; omega

end Go.Proofs.YtlifiioflkhkoaaGreat

/- A row of one's own, of k cells an element, as a sort holds it. Conditions: as each states. -/
namespace Go.Proofs.YtlifiioflkhkoaaGreat
open Go.RowKit Go.Shelf Go.Lib Go.Sort Go.Proofs
set_option linter.unusedVariables false
set_option maxRecDepth 100000

theorem own_putK {w : World} {base : Nat} {e : TypeId} {g n cap q k : Nat} {xs : List Value} {F : Array Value} (h : w.ownsRow base e k (.slice (some ⟨g, 0, none⟩) n cap) n xs) (hF : F.size = n * k) :
    (putRow id (Sort.ahead w q) g 0 F).ownsRow base e k (.slice (some ⟨g, 0, none⟩) n cap) n F.toList := by
  rcases h.2 with ⟨e0, _⟩ | ⟨g', cap', cur, e0, hb, hg, hn, hm, hs, ht⟩
  · cases e0
  · injection e0 with e1 _ e3
    injection e1 with e1
    injection e1 with e1
    subst e1; subst e3
    refine ⟨by simp [hF], .inr ⟨g, cap, putCells id 0 F cur, rfl, hb, ?_, by omega, hm, by simpa [putCells] using hs, ?_⟩⟩
    · simp [putRow, mapBlock, Sort.ahead, Array.getElem?_modify, hg, onCells]
    · apply List.ext_getElem?
      intro j
      rw [List.getElem?_take, Array.getElem?_toList, Array.getElem?_toList]
      have hnk : n * k ≤ cap * k := Nat.mul_le_mul_right k hn
      by_cases hj : j < n * k
      · have hjc : j < cur.size := by omega
        simp only [if_pos hj, putCells, Array.getElem?_mapIdx, Array.getElem?_eq_getElem hjc, Option.map_some]
        rw [if_pos (by omega), Array.getElem?_eq_getElem (by omega)]
        simp [getElem!_pos, show j < F.size by omega]
      · rw [if_neg hj, Array.getElem?_eq_none (by omega)]
theorem flatK_listK {α : Type} [Inhabited α] {k : Nat} (hk0 : 0 < k) (enc : α → List Value) (henc : ∀ a, (enc a).length = k) (d : Array α) : (flatK enc k d).toList = d.toList.flatMap enc := by
  apply List.ext_getElem?
  intro j
  by_cases hj : j < d.size * k
  · have hq : j / k < d.size := Nat.div_lt_of_lt_mul (by rw [Nat.mul_comm]; exact hj)
    have h2 := flat_get henc d.toList (j / k) d[j / k] (j % k) (by rw [Array.getElem?_toList, Array.getElem?_eq_getElem hq]) (Nat.mod_lt _ hk0)
    rw [Nat.mul_comm, Nat.div_add_mod] at h2
    rw [h2, Array.getElem?_toList, Array.getElem?_eq_getElem (by simp; omega)]
    have h3 := get_flatK enc k d j hj
    rw [getElem!_pos _ j (by simp; omega)] at h3
    rw [h3, getElem!_pos d (j / k) hq]
    rw [List.getElem?_eq_getElem (by rw [henc]; exact Nat.mod_lt _ hk0), getElem!_pos]
  · rw [List.getElem?_eq_none (by simp; omega), List.getElem?_eq_none (by rw [flat_length henc]; simp; omega)]
theorem holds_ownK {w : World} {base : Nat} {e : TypeId} {g n cap k : Nat} {α : Type} [Inhabited α] (hk0 : 0 < k) (enc : α → List Value) (henc : ∀ a, (enc a).length = k) (d : Array α) (hd : d.size = n) (h : w.ownsRow base e k (.slice (some ⟨g, 0, none⟩) n cap) n (d.toList.flatMap enc)) : HoldsK enc k w g 0 d := by
  intro j hj
  rw [size_flatK, hd] at hj
  have h1 := h.cellAt j hj
  refine ⟨?_, by rw [Nat.zero_add]; exact h.frozenAt j⟩
  rw [Nat.zero_add, h1, ← flatK_listK hk0 enc henc, Array.getElem?_toList, Array.getElem?_eq_getElem (by rw [size_flatK, hd]; exact hj)]
  rw [getElem!_pos _ j (by rw [size_flatK, hd]; exact hj)]
  rfl
/-- what a sort leaves: the row alone is turned -/
def Turned (w : World) (g : Nat) (w' : World) : Prop := ∃ q os F, w' = grow (putRow id (Sort.ahead w q) g 0 F) os
theorem Turned.below {B : Nat} {w w' : World} {g : Nat} (h : Turned w g w') (hg : B ≤ g) (hB : B ≤ w.heap.size) : Below B w w' := by
  obtain ⟨q, os, F, rfl⟩ := h
  exact below_row2 hg hB
theorem Turned.block {w w' : World} {g b : Nat} (h : Turned w g w') (hb : b < w.heap.size) (hne : b ≠ g) : w'.heap[b]? = w.heap[b]? := by
  obtain ⟨q, os, F, rfl⟩ := h
  have e : (putRow id (Sort.ahead w q) g 0 F).heap.size = w.heap.size := by simp [putRow, mapBlock, Sort.ahead]
  simp only [grow]
  rw [Array.getElem?_append, if_pos (by omega)]
  simp only [putRow, mapBlock, Sort.ahead, Array.getElem?_modify]
  rw [if_neg (by omega)]
theorem Turned.size {w w' : World} {g : Nat} (h : Turned w g w') : w.heap.size ≤ w'.heap.size := by
  obtain ⟨q, os, F, rfl⟩ := h
  have e : (putRow id (Sort.ahead w q) g 0 F).heap.size = w.heap.size := by simp [putRow, mapBlock, Sort.ahead]
  simp [grow]; try omega
theorem swk_turned {α : Type} [Inhabited α] {enc : α → List Value} {k : Nat} {w w' : World} {g : Nat} {d : Array α} (h : SWK enc k w g 0 d w') : Turned w g w' := by
  obtain ⟨q, os, rfl⟩ := h
  exact ⟨q, os, _, rfl⟩
theorem swk_own {α : Type} [Inhabited α] {k : Nat} (hk0 : 0 < k) {enc : α → List Value} (henc : ∀ a, (enc a).length = k) {w w' : World} {base : Nat} {e : TypeId} {g n cap : Nat} {xs : List Value} {d : Array α} (h : SWK enc k w g 0 d w') (ho : w.ownsRow base e k (.slice (some ⟨g, 0, none⟩) n cap) n xs) (hd : d.size = n) :
    w'.ownsRow base e k (.slice (some ⟨g, 0, none⟩) n cap) n (d.toList.flatMap enc) := by
  obtain ⟨q, os, rfl⟩ := h
  have h1 := own_putK (q := q) ho (F := flatK enc k d) (by simp [hd])
  rw [flatK_listK hk0 enc henc] at h1
  exact ownsRow_grow h1 0 os

variable {P : Program} {ρ : Ren} {α : Type} [Inhabited α]
set_option maxHeartbeats 4000000 in
set_option maxRecDepth 1000000 in
/-- slices.SortStableFunc on a row of one's own -/
theorem sortStable_any (L : StL P ρ) (k : Nat) (hk0 : 0 < k) (aE : ∀ w, (isAgg (ρ.t 42)).run P w = .ok true w) (zE : ∀ w, (Go.sizeOf (ρ.t 42)).run P w = .ok k w) (enc : α → List Value) (henc : ∀ a, (enc a).length = k) (h1 : ∀ x, ∀ v ∈ enc x, v.oneCell' = true)
    (cf : α → α → Int) (hO : SWO (ltOf cf)) (g : Nat) (cb : Array Value) (eg : ∀ args w, (callFunc g args).run P w = .ok (.enter g args) w) {ρ2 : Ren} (LI : SlLaysF0.n20 P ρ2) (h24 : ρ2.t 24 = ρ.t 42) (h20 : ρ2.f 20 = ρ.f 88)
    (base n cap gb : Nat) (e : TypeId) (D : List α) (w : World) (ho : w.ownsRow base e k (.slice (some ⟨gb, 0, none⟩) n cap) n (D.flatMap enc)) (hl : D.length = n) (hn : n < 1000000000000) (hcmp : CmpLays P g cb enc k cf gb 0 n w) :
    Calls P (ρ.f 61) #[.slice (some ⟨gb, 0, none⟩) n cap, .func (.func g) #[] cb] w fun e' w' =>
      e' = .returned (.tuple #[]) ∧ ∃ M : List α, M.Perm D ∧ SortedL (ltOf cf) M ∧ w'.ownsRow base e k (.slice (some ⟨gb, 0, none⟩) n cap) n (M.flatMap enc) ∧ Turned w gb w' := by
  have mixed := L.mixed; have t0 := L.t0; have a0 := L.a0; have z0 := L.z0; have v0 := L.v0; have t3 := L.t3; have a3 := L.a3; have z3 := L.z3; have v3 := L.v3; have t4 := L.t4; have a4 := L.a4; have z4 := L.z4; have v4 := L.v4; have tsl := L.tsl; have asl := L.asl; have zsl := L.zsl; have vsl := L.vsl; have tfn := L.tfn; have afn := L.afn; have zfn := L.zfn; have vfn := L.vfn
  obtain ⟨_, _, FG⟩ := L.fsort
  have e73 : ∀ args w, (callFunc (ρ.f 73) args).run P w = .ok (.enter (ρ.f 73) args) w := L.fstab.enters rfl
  obtain ⟨hgB, hgl⟩ := ho.lt gb rfl
  have hds : D.toArray.size = n := by simpa using hl
  have hH : HoldsK enc k w gb 0 D.toArray := holds_ownK hk0 enc henc D.toArray hds (by simpa using ho)
  have R : RowK enc k w gb 0 D.toArray := ⟨henc, h1, hH, hgl⟩
  have eins : ∀ args w, (callFunc (ρ.f 88) args).run P w = .ok (.enter (ρ.f 88) args) w := by
    rw [← h20]; exact LI.f20.enters rfl
  have hc := Lib.hid (stable_any L k aE zE enc cf hO g cb eg D.toArray gb 0 w (by rw [hds]; exact hcmp) R (fun cap a b d w' hs S hab hb hsz => by
    rw [← h20]
    exact AnyQ.insertionSortCmpFunc_w LI k (by rw [h24]; exact aE) (by rw [h24]; exact zE) enc cf g cb gb 0 cap a b D.toArray d w w' eg (by rw [hds]; exact hcmp) R hs S hO hab hb (by omega)) eins cap n D.toArray w hds.symm rfl (SWK.start hH) (by omega))
  rw [hds] at hc
  replace ho := Lib.hid ho
  clear R hH hcmp
  go_enter FG, StB.sortR_ntmps ρ
  go_wp2_with (go_at_fn (ρ.f 73); refine hc.out.mono ?_; rintro e w1 ⟨rfl, d2, hp, hs, S2⟩; replace hp := Lib.hid hp; replace hs := Lib.hid hs; replace S2 : Aside _ := S2)
  go_end0
  have hsz : d2.size = n := by have := hp.out.length_eq; simp at this; omega
  exact ⟨rfl, d2.toList, by simpa using hp.out, hs.out, swk_own hk0 henc S2.out ho.out hsz, swk_turned S2.out⟩
set_option maxHeartbeats 4000000 in
/-- at no element -/
theorem sortStable_none (L : StL P ρ) {ρ2 : Ren} (LI : SlLaysF0.n20 P ρ2) (h20 : ρ2.f 20 = ρ.f 88) (A : Option Addr) (cap g : Nat) (cb : Array Value) (w : World) :
    Calls P (ρ.f 61) #[.slice A 0 cap, .func (.func g) #[] cb] w fun e w' => e = .returned (.tuple #[]) ∧ w' = w := by
  have mixed := L.mixed; have t0 := L.t0; have a0 := L.a0; have z0 := L.z0; have v0 := L.v0; have t3 := L.t3; have a3 := L.a3; have z3 := L.z3; have v3 := L.v3; have t4 := L.t4; have a4 := L.a4; have z4 := L.z4; have v4 := L.v4; have tsl := L.tsl; have asl := L.asl; have zsl := L.zsl; have vsl := L.vsl; have tfn := L.tfn; have afn := L.afn; have zfn := L.zfn; have vfn := L.vfn
  have e73 : ∀ args w, (callFunc (ρ.f 73) args).run P w = .ok (.enter (ρ.f 73) args) w := L.fstab.enters rfl
  have eins : ∀ args w, (callFunc (ρ.f 88) args).run P w = .ok (.enter (ρ.f 88) args) w := by
    rw [← h20]; exact LI.f20.enters rfl
  have hi := fun W => AnyF.insertionSortCmpFunc_none (P := P) LI A cap (.func (.func g) #[] cb) W
  rw [h20] at hi
  have hst : Calls P (ρ.f 73) #[.slice A 0 cap, .int .i64 0, .func (.func g) #[] cb] w fun e w' => e = .returned (.tuple #[]) ∧ w' = w := by
    obtain ⟨_, _, FG⟩ := L.fstab
    go_enter FG, StB.stabR_ntmps ρ
    go_wp2
    refine wp_loop_rounds 1 ?_
    rw [rounds_succ]
    go_wp2_with (go_at_fn (ρ.f 88); refine (hi _).mono ?_; rintro e w' ⟨rfl, rfl⟩)
    refine wp_loop_rounds 1 ?_
    rw [rounds_succ]
    go_wp2
    go_end0
    exact ⟨rfl, rfl⟩
  obtain ⟨_, _, FG⟩ := L.fsort
  go_enter FG, StB.sortR_ntmps ρ
  go_wp2_with (go_at_fn (ρ.f 73); refine hst.mono ?_; rintro e w' ⟨rfl, rfl⟩)
  go_end0
  exact ⟨rfl, rfl⟩
end Go.Proofs.YtlifiioflkhkoaaGreat

/- Straight ways: both sides. Conditions: as each states. -/
namespace Go.Proofs.YtlifiioflkhkoaaGreat
open Go.RowKit
set_option linter.unusedVariables false
set_option maxRecDepth 100000

end Go.Proofs.YtlifiioflkhkoaaGreat

/- A region that draws its order, whose last operations wait for all that stand ahead of them: its head by itself (with what is held in S), its tail in order. No program in sight. Conditions: as each states. -/
namespace Go.Proofs.YtlifiioflkhkoaaGreat
set_option linter.unusedVariables false
set_option maxRecDepth 100000

/-- what is to be shown behind the head: the tail, in order -/
def QTail (P : Program) (ops : Array Oper) (l : List Oper) (Q : Exit → Act → World → Prop) : Exit → Act → World → Prop
  | .normal, a, w => wpList P ops Q l a w
  | e, a, w => Q e a w
theorem wp_of_tail {P : Program} {Q : Exit → Act → World → Prop} {ops : Array Oper} {l : List Oper} {o : Oper} {a : Act} {w : World} {K K' : Act → World → Prop} (h : ∀ a w, K a w → K' a w)
    (hh : Oper.wp P o a w K (QTail P ops l Q)) : Oper.wp P o a w K' Q := by
  have h1 := Oper.wp_mono h hh
  clear hh
  unfold Oper.wp at *
  generalize (execOp a.eval o).run P w = r at *
  cases r with
  | ok n w' =>
    cases n <;> first
      | exact h1
      | (refine Calls.mono h1 fun e w'' he => ?_
         cases e <;> exact he)
  | halt x w' => cases x <;> exact h1
theorem wpAny_more {P : Program} {md : Region.Mode} {ops : Array Oper} {Q : Exit → Act → World → Prop} : ∀ (g : Nat) (listed : Array Bool) (a : Act) (w : World), wpAny P md ops Q g listed a w → wpAny P md ops Q (g + 1) listed a w
  | 0, listed, a, w, h => ⟨fun _ => h.2, by rw [h.1]; intro i hi; cases hi⟩
  | g + 1, listed, a, w, h => ⟨h.1, fun i hi => wpOp_mono (fun a' w' h' => wpAny_more g _ a' w' h') (h.2 i hi)⟩
theorem wpAny_plus {P : Program} {md : Region.Mode} {ops : Array Oper} {Q : Exit → Act → World → Prop} {g : Nat} {listed : Array Bool} {a : Act} {w : World} (h : wpAny P md ops Q g listed a w) (k : Nat) : wpAny P md ops Q (k + g) listed a w := by
  induction k with
  | zero => rw [Nat.zero_add]; exact h
  | succ k ih => rw [show k + 1 + g = (k + g) + 1 by omega]; exact wpAny_more _ _ _ _ ih
theorem leastN {p : Nat → Prop} (hp : ∀ j, p j ∨ ¬ p j) : ∀ (j : Nat), p j → ∃ i, i ≤ j ∧ p i ∧ ∀ k, k < i → ¬ p k := by
  intro j
  induction j using Nat.strongRecOn with
  | _ j ih =>
    intro hj
    by_cases h : ∃ k, k < j ∧ p k
    · obtain ⟨k, hk, hpk⟩ := h
      obtain ⟨i, h1, h2, h3⟩ := ih k hk hpk
      exact ⟨i, by omega, h2, h3⟩
    · exact ⟨j, Nat.le_refl _, hj, fun k hk hpk => h ⟨k, hk, hpk⟩⟩

def backRB (l : List Oper) (n : Nat) : Bool := (List.range n).all fun i => match l[i]? with
  | some o => o.after.all (fun e => decide (e.on < i)) && o.guard.isNone
  | none => false
def maskL (n m : Nat) : Array Bool := (List.replicate n true ++ List.replicate m false).toArray
def headRB (l : List Oper) (n : Nat) : Bool := decide (n < l.length) && Region.sinkB .any l.toArray n && Region.chainB .any l.toArray n && backRB l n && Region.seqB .any l.toArray (l.length - n) n (maskL n (l.length - n))
theorem back_specR {l : List Oper} {n i : Nat} (h : backRB l n = true) (hi : i < n) : ∃ o, l[i]? = some o ∧ (∀ e ∈ o.after, e.on < i) ∧ o.guard = none := by
  have h1 := List.all_eq_true.1 h i (List.mem_range.2 hi)
  cases ho : l[i]? with
  | none => rw [ho] at h1; cases h1
  | some o =>
    rw [ho] at h1
    simp only [Bool.and_eq_true] at h1
    refine ⟨o, rfl, fun e he => ?_, by simpa using h1.2⟩
    have := Array.all_eq_true'.1 h1.1 e he
    simpa using this

structure HRel (n : Nat) (l : List Oper) (h f : Array Bool) : Prop where
  hs : h.size = n
  fs : f.size = l.length
  hn : n < l.length
  eq : ∀ j, j < n → f.getD j true = h.getD j true
  tl : ∀ t, n ≤ t → t < l.length → f.getD t true = false
theorem getD_two {a : Array Bool} {j : Nat} (hj : j < a.size) : a.getD j false = a.getD j true := by simp [hj]
theorem getD_out {a : Array Bool} {j : Nat} {d : Bool} (hj : a.size ≤ j) : a.getD j d = d := by simp [Array.getElem?_eq_none hj]
theorem HRel.fb {n : Nat} {l : List Oper} {h f : Array Bool} (r : HRel n l h f) (j : Nat) : f.getD j false = h.getD j false := by
  rcases Nat.lt_or_ge j n with hj | hj
  · rw [getD_two (by have := r.fs; have := r.hn; omega), getD_two (by have := r.hs; omega)]
    exact r.eq j hj
  · rw [getD_out (a := h) (by have := r.hs; omega)]
    rcases Nat.lt_or_ge j l.length with h2 | h2
    · rw [getD_two (by have := r.fs; omega)]; exact r.tl j hj h2
    · exact getD_out (by have := r.fs; omega)
theorem ready_head {md : Region.Mode} {n : Nat} {l : List Oper} {h f : Array Bool} (r : HRel n l h f) {j : Nat} (hj : j < n) : j ∈ Region.ready md l.toArray f ↔ j ∈ Region.ready md (l.take n).toArray h := by
  rw [mem_ready, mem_ready, r.eq j hj]
  have e : (l.take n).toArray[j]? = l.toArray[j]? := by simp [hj]
  rw [e]
  simp only [r.fb]
theorem HRel.set {n : Nat} {l : List Oper} {h f : Array Bool} (r : HRel n l h f) {i : Nat} (hi : i < n) : HRel n l (h.setIfInBounds i true) (f.setIfInBounds i true) := by
  refine ⟨by simp [r.hs], by simp [r.fs], r.hn, fun j hj => ?_, fun t h1 h2 => ?_⟩
  · by_cases hij : i = j
    · subst hij
      have h1 := r.hs
      have h2 := r.fs
      have h3 := r.hn
      simp [hi, h1, show i < f.size by omega]
    · rw [getD_set_ne true hij, getD_set_ne true hij]; exact r.eq j hj
  · rw [getD_set_ne true (by omega)]; exact r.tl t h1 h2
theorem HRel.mask {n : Nat} {l : List Oper} {h f : Array Bool} (r : HRel n l h f) (hall : ∀ j, j < n → h.getD j true = true) : f = maskL n (l.length - n) := by
  have h1 := r.hn
  apply Array.ext
  · rw [r.fs]; simp [maskL]; omega
  · intro i hi1 hi2
    rw [r.fs] at hi1
    have hg : f[i] = f.getD i true := by simp [show i < f.size by rw [r.fs]; exact hi1]
    rw [hg]
    rcases Nat.lt_or_ge i n with hj | hj
    · rw [r.eq i hj, hall i hj]
      simp [maskL, hj]
    · rw [r.tl i hj hi1]
      simp [maskL, List.getElem_append, Nat.not_lt.2 hj]

theorem wpAny_of_take {P : Program} {Q : Exit → Act → World → Prop} {n : Nat} {l : List Oper} (hs : Region.sinkB .any l.toArray n = true) (hc : Region.chainB .any l.toArray n = true) (hb : backRB l n = true) (hq : Region.seqB .any l.toArray (l.length - n) n (maskL n (l.length - n)) = true) :
    ∀ (fuel : Nat) (h f : Array Bool) (a : Act) (w : World), HRel n l h f → HeadInv .any l.toArray n f → wpAny P .any (l.take n).toArray (QTail P l.toArray (l.drop n) Q) fuel h a w → wpAny P .any l.toArray Q (fuel + (l.length - n)) f a w := by
  intro fuel
  induction fuel with
  | zero =>
    intro h f a w r inv hh
    by_cases hall : ∀ j, j < n → h.getD j true = true
    · rw [r.mask hall, Nat.zero_add]
      have hdl : (l.drop n).length = l.length - n := by simp
      have := wpAny_of_seq (md := .any) (ops := l.toArray) (Q' := Q) (l.drop n) n (maskL n (l.length - n)) a w (fun j => by simp [List.getElem?_drop]) (by rw [hdl]; exact hq) hh.2
      rwa [hdl] at this
    · exfalso
      obtain ⟨j, hj⟩ : ∃ j, j < n ∧ h.getD j true = false := by
        refine Classical.byContradiction fun hno => hall fun j hj => ?_
        cases hv : h.getD j true with
        | true => rfl
        | false => exact absurd ⟨j, hj, hv⟩ hno
      obtain ⟨i, hi, hpi, hmin⟩ := leastN (p := fun j => j < n ∧ h.getD j true = false) (fun j => Classical.em _) j hj
      obtain ⟨o, ho, hon, _⟩ := back_specR hb hpi.1
      have hr : i ∈ Region.ready .any (l.take n).toArray h := mem_ready.2 ⟨hpi.2, o, by simpa [List.getElem?_take, hpi.1] using ho, fun e he _ => by
        have h1 := hon e he
        have h2 := hmin e.on h1
        rw [getD_two (by have := r.hs; have := hpi.1; omega)]
        cases hv : h.getD e.on true with
        | true => rfl
        | false => exact absurd ⟨by have := hpi.1; omega, hv⟩ h2⟩
      rw [hh.1] at hr
      cases hr
  | succ fuel ih =>
    intro h f a w r inv hh
    by_cases hall : ∀ j, j < n → h.getD j true = true
    · have h0 : Region.ready .any (l.take n).toArray h = [] := by
        cases hr : Region.ready .any (l.take n).toArray h with
        | nil => rfl
        | cons x xs =>
          exfalso
          have hx : x ∈ Region.ready .any (l.take n).toArray h := by rw [hr]; exact List.mem_cons_self
          obtain ⟨h1, o, h2, _⟩ := mem_ready.1 hx
          have hxn : x < n := by
            have h3 := (Array.getElem?_eq_some_iff.1 h2).1
            simp at h3; omega
          rw [hall x hxn] at h1; cases h1
      rw [r.mask hall]
      have hdl : (l.drop n).length = l.length - n := by simp
      have := wpAny_of_seq (md := .any) (ops := l.toArray) (Q' := Q) (l.drop n) n (maskL n (l.length - n)) a w (fun j => by simp [List.getElem?_drop]) (by rw [hdl]; exact hq) (hh.1 h0)
      rw [hdl] at this
      exact wpAny_plus this _
    · obtain ⟨j, hj⟩ : ∃ j, j < n ∧ h.getD j true = false := by
        refine Classical.byContradiction fun hno => hall fun j hj => ?_
        cases hv : h.getD j true with
        | true => rfl
        | false => exact absurd ⟨j, hj, hv⟩ hno
      obtain ⟨i, hi, hpi, hmin⟩ := leastN (p := fun j => j < n ∧ h.getD j true = false) (fun j => Classical.em _) j hj
      obtain ⟨o, ho, hon, _⟩ := back_specR hb hpi.1
      have hr : i ∈ Region.ready .any (l.take n).toArray h := mem_ready.2 ⟨hpi.2, o, by simpa [List.getElem?_take, hpi.1] using ho, fun e he _ => by
        have h1 := hon e he
        have h2 := hmin e.on h1
        rw [getD_two (by have := r.hs; have := hpi.1; omega)]
        cases hv : h.getD e.on true with
        | true => rfl
        | false => exact absurd ⟨by have := hpi.1; omega, hv⟩ h2⟩
      have hrf := (ready_head r hpi.1).2 hr
      rw [show fuel + 1 + (l.length - n) = (fuel + (l.length - n)) + 1 by omega]
      refine ⟨fun h0 => (by rw [h0] at hrf; cases hrf), fun k hk => ?_⟩
      have hkn : k < n := by
        rcases Nat.lt_or_ge k n with h1 | h1
        · exact h1
        · exact absurd hk (tail_waits hs hc (by simpa using r.hn) inv (n - i) i rfl hpi.1 (by rw [r.eq i hpi.1]; exact hpi.2) k h1)
      have hkh := (ready_head r hkn).1 hk
      have hop := hh.2 k hkh
      obtain ⟨o', ho', _, hgd⟩ := back_specR hb hkn
      have e1 : (l.take n).toArray[k]? = some o' := by simpa [List.getElem?_take, hkn] using ho'
      have e2 : l.toArray[k]? = some o' := by simpa using ho'
      have hw : ∀ y, Region.wanted o' y = true := fun y => by simp [Region.wanted, hgd]
      unfold wpOp at hop ⊢
      rw [e1] at hop
      rw [e2]
      simp only [hw, if_true] at hop ⊢
      rcases hop with hop | ⟨h1, h2⟩
      · exact .inl (wp_of_tail (fun a' w' h' => ih _ _ a' w' (r.set hkn) (inv.set hk hkn) h') hop)
      · exact .inr ⟨h1, h2⟩

/-- the head by itself, and the tail in order -/
theorem wp_region_head {P : Program} {Q : Exit → Act → World → Prop} {id : Nat} {a : Act} {w : World} {l : List Oper} (n : Nat) (S : World → Prop) (hm : P.follows .mixedOrders = true) (hB : headRB l n = true) (hS : S w.drew)
    (h : S w.drew → wpAnyH P .any (l.take n).toArray (QTail P l.toArray (l.drop n) Q) S n (Array.replicate n false) a w.drew) : (Code.region id l.toArray true).wp P Q a w := by
  simp only [headRB, Bool.and_eq_true, decide_eq_true_eq] at hB
  obtain ⟨⟨⟨⟨hn, hs⟩, hc⟩, hb⟩, hq⟩ := hB
  have inv0 : HeadInv .any l.toArray n (Array.replicate l.length false) :=
    ⟨by simp, fun j oj _ hl => (by rw [getD_replicate_false] at hl; cases hl), fun t _ ht => getD_in (by simpa using ht) (getD_replicate_false _ _)⟩
  have r0 : HRel n l (Array.replicate n false) (Array.replicate l.length false) :=
    ⟨by simp, by simp, hn, fun j hj => by rw [getD_in (by simp; omega) (getD_replicate_false _ _), getD_in (by simp; omega) (getD_replicate_false _ _)], fun t _ ht => getD_in (by simpa using ht) (getD_replicate_false _ _)⟩
  refine wp_region_any hm ?_
  have := wpAny_of_take hs hc hb hq n _ _ a _ r0 inv0 (wpAny_of_held _ _ _ _ (h hS))
  rw [show n + (l.length - n) = l.toArray.size by simp; omega] at this
  simpa using this
end Go.Proofs.YtlifiioflkhkoaaGreat

