/- What FnAssembly says of programs: a program is restored from its bytes and from its text; partners are the ends of blocks; what is nested. No program in sight. Conditions: none. -/
import Derived.Test.YtpmpbfkpiocleaaDoorAs40
import Derived.Test.YtpmpbfkpiocleaaDoorAs19
import Derived.Test.YtpmpbfkpiocleaaDoorAs43
import Derived.Test.YtpmpbfkpiocleaaDoorAs25
namespace Go.Proofs.YtpmpbfkpiocleaaDoor
open Go.RowKit
set_option linter.unusedVariables false
set_option maxRecDepth 100000

theorem valid_is {c o : Int} (h : validHint c o = true) : (0 ≤ c ∧ c ≤ 44) ∧ opLeast c ≤ o ∧ o ≤ opMost c := by
  unfold validHint at h
  rw [Bool.and_eq_true] at h
  exact ⟨inB_iff.1 h.1, inB_iff.1 h.2⟩
theorem b8_small {c : Int} (h0 : 0 ≤ c) (h1 : c ≤ 255) : ((b8 c).toNat : Int) = c := by rw [b8_nat]; omega
theorem sb_b8 {o : Int} (h0 : -128 ≤ o) (h1 : o ≤ 127) : sb (b8 o) = o := by
  have h := b8_nat o
  unfold sb
  split <;> omega
theorem byteAt_app (X Y : List UInt8) (i : Nat) : byteAt ⟨(X ++ Y).toArray⟩ (X.length + i) = Y.getD i 0 := by
  unfold byteAt
  simp [List.getD_eq_getElem?_getD, List.getElem?_append_right]
theorem parse_from : ∀ (L : List (Int × Int)) (X : List UInt8) (f : Nat), allValid L = true → (progL L).length < f → parseAt ⟨(X ++ progL L).toArray⟩ f X.length = some L := by
  intro L
  induction L with
  | nil =>
    intro X f _ hf
    cases f with
    | zero => omega
    | succ f => rw [parseAt, if_pos (by simp [ByteArray.size, progL])]
  | cons p L ih =>
    intro X f hv hf
    obtain ⟨c, o⟩ := p
    have hv1 : validHint c o = true ∧ allValid L = true := by
      unfold allValid at hv ⊢
      simpa using hv
    obtain ⟨⟨hc0, hc1⟩, ho0, ho1⟩ := valid_is hv1.1
    have hp : progL ((c, o) :: L) = b8 c :: (opL c o ++ progL L) := by simp [progL, hintL]
    rw [hp] at hf ⊢
    cases f with
    | zero => omega
    | succ f =>
      have hb0 := byteAt_app X (b8 c :: (opL c o ++ progL L)) 0
      have hb1 := byteAt_app X (b8 c :: (opL c o ++ progL L)) 1
      have hb2 := byteAt_app X (b8 c :: (opL c o ++ progL L)) 2
      rw [Nat.add_zero, List.getD_cons_zero] at hb0
      rw [List.getD_cons_succ] at hb1 hb2
      have hcb := b8_small hc0 (by omega)
      have hlen : (opL c o).length = (opBytes c).toNat := by
        unfold opL
        rcases opBytes_cases c with h | h | h <;> simp [h]
      have hsz : (⟨(X ++ b8 c :: (opL c o ++ progL L)).toArray⟩ : ByteArray).size = X.length + (1 + (opBytes c).toNat + (progL L).length) := by
        simp [ByteArray.size, hlen]; omega
      have hop : operandAt ⟨(X ++ b8 c :: (opL c o ++ progL L)).toArray⟩ X.length = o := by
        unfold operandAt
        rw [hb0, hcb, hb1, hb2]
        rcases opBytes_cases c with h | h | h
        · have hz : o = 0 := by
            unfold opBytes at h
            unfold opLeast at ho0
            unfold opMost at ho1
            repeat' split at h
            all_goals omega
          simp [h, hz]
        · have hbd : -128 ≤ o ∧ o ≤ 127 := by
            unfold opBytes at h
            split at h
            · rename_i h3
              unfold opLeast at ho0
              unfold opMost at ho1
              rcases h3 with rfl | rfl | rfl <;> simp at ho0 ho1 <;> omega
            · split at h <;> omega
          have : opL c o = [b8 o] := by unfold opL; simp [h]
          simp [h, this, sb_b8 hbd.1 hbd.2]
        · have hbd := op_bd c
          have : opL c o = [b8 (o / 256), b8 o] := by unfold opL; simp [h]
          simp [h, this]
          rw [sb_b8 (by omega) (by omega), b8_nat]
          omega
      have hih := ih (X ++ (b8 c :: opL c o)) f hv1.2 (by simp at hf; omega)
      rw [show (X ++ (b8 c :: opL c o)) ++ progL L = X ++ b8 c :: (opL c o ++ progL L) by simp, show (X ++ (b8 c :: opL c o)).length = X.length + 1 + (opBytes c).toNat by simp [hlen]; omega] at hih
      rw [parseAt, if_neg (by rw [hsz]; omega), hb0, hcb, hop, if_neg (by rw [hsz]; have := (opBytes_cases c); omega), if_pos hv1.1, hih]
      rfl
theorem parse_prog {L : List (Int × Int)} (hv : allValid L = true) (hl : (progL L).length ≤ 400) : hintList ⟨(progL L).toArray⟩ = some L := by
  have h := parse_from L [] ((progL L).length + 1) hv (by omega)
  unfold hintList parse
  rw [if_neg (by simp [ByteArray.size]; omega)]
  simpa [ByteArray.size] using h

/-! ### texts -/
theorem names_plain : ∀ j, j < 45 → ∀ b ∈ (htNames.getD j ByteArray.empty).data.toList, b ≠ 32 ∧ b ≠ 10 := by
  have h : (List.range 45).all (fun j => (htNames.getD j ByteArray.empty).data.toList.all fun b => b != 32 && b != 10) = true := by kernel_rfl
  intro j hj b hb
  have h1 := List.all_eq_true.1 h j (List.mem_range.2 hj)
  have h2 := List.all_eq_true.1 h1 b hb
  simpa using h2
theorem names_first : ∀ j, j < 45 → ∀ i, i < j → htNames.getD i ByteArray.empty ≠ htNames.getD j ByteArray.empty := by
  have h : (List.range 45).all (fun j => (List.range j).all fun i => decide ((htNames.getD i ByteArray.empty).data.toList ≠ (htNames.getD j ByteArray.empty).data.toList)) = true := by kernel_rfl
  intro j hj i hi e
  have h1 := List.all_eq_true.1 h j (List.mem_range.2 hj)
  have h2 := List.all_eq_true.1 h1 i (List.mem_range.2 hi)
  rw [decide_eq_true_eq] at h2
  exact h2 (by rw [e])
theorem word_first {k : Nat} (hk : k < 45) : FirstAt htNames (htNames.getD k ByteArray.empty) (k : Int) := .inr ⟨k, rfl, hk, rfl, fun j hj => names_first k hk j hj⟩
def htBody (p : Int × Int) : List UInt8 := (htWord p.1).data.toList ++ (if opBytes p.1 = 0 then [] else [32] ++ decL p.2)
theorem htLine_is (p : Int × Int) : htLine p = htBody p ++ [10] := by unfold htLine htBody; simp
theorem isDec_of {v : Int} (h0 : -32768 ≤ v) (h1 : v ≤ 32767) : IsDec (bytesOf (decL v)) v := ⟨rfl, by
  have : v.natAbs ≤ 32768 := by omega
  exact Nat.lt_of_le_of_lt this (by decide)⟩
theorem body_is {c o : Int} (h : validHint c o = true) : LineIs (htBody (c, o)) c o ∧ ∀ b ∈ htBody (c, o), b ≠ 10 := by
  obtain ⟨⟨hc0, hc1⟩, ho0, ho1⟩ := valid_is h
  obtain ⟨k, rfl⟩ : ∃ k : Nat, c = k := ⟨c.toNat, by omega⟩
  have hk : k < 45 := by omega
  have hop := op_bd (k : Int)
  have hw : htWord (k : Int) = htNames.getD k ByteArray.empty := htWord_in hk
  have hpl := names_plain k hk
  have hd := isDec_of (v := o) (by omega) (by omega)
  have hbw : bytesOf (htWord (k : Int)).data.toList = htNames.getD k ByteArray.empty := by rw [hw]; rfl
  refine ⟨⟨(htWord (k : Int)).data.toList, by rw [hbw]; exact word_first hk, ?_, h⟩, ?_⟩
  · by_cases hz : opBytes (k : Int) = 0
    · left
      refine ⟨hz, ?_, ?_⟩
      · unfold htBody
        rw [if_pos hz, List.append_nil]
        exact splitF_last 32 _ fun b hb => (hpl b (by rw [hw] at hb; exact hb)).1
      · unfold opBytes at hz
        repeat' split at hz
        all_goals try omega
        unfold opLeast at ho0
        unfold opMost at ho1
        rw [if_neg (by omega), if_neg (by omega)] at ho0
        rw [if_neg (by omega), if_neg (by omega), if_neg (by omega), if_neg (by omega), if_neg (by omega), if_neg (by omega)] at ho1
        omega
    · right
      refine ⟨hz, decL o, ?_, hd⟩
      unfold htBody
      rw [if_neg hz]
      have h1 := splitF_hit 32 (htWord (k : Int)).data.toList (decL o) fun b hb => (hpl b (by rw [hw] at hb; exact hb)).1
      have h2 := splitF_last 32 (decL o) fun b hb => dec_no hd (by decide) (by decide) b (by simpa [bytesOf] using hb)
      rw [h2] at h1
      simpa using h1
  · intro b hb
    unfold htBody at hb
    rcases List.mem_append.1 hb with hb | hb
    · exact (hpl b (by rw [← hw]; exact hb)).2
    · split at hb
      · cases hb
      · rcases List.mem_append.1 hb with hb | hb
        · simp at hb; subst hb; decide
        · exact dec_no hd (by decide) (by decide) b (by simpa [bytesOf] using hb)
theorem lines_of : ∀ {L : List (Int × Int)}, allValid L = true → splitF 10 (htText L) = L.map htBody ++ [[]] ∧ LinesR (L.map htBody) (some L) := by
  intro L
  induction L with
  | nil => intro _; exact ⟨by simp [htText, splitF], rfl⟩
  | cons p L ih =>
    intro hv
    obtain ⟨c, o⟩ := p
    have hv1 : validHint c o = true ∧ allValid L = true := by
      unfold allValid at hv ⊢
      simpa using hv
    obtain ⟨h1, h2⟩ := ih hv1.2
    obtain ⟨g1, g2⟩ := body_is hv1.1
    refine ⟨?_, some (c, o), g1, some L, h2, rfl⟩
    have e : htText ((c, o) :: L) = htBody (c, o) ++ 10 :: htText L := by
      simp [htText, htLine_is]
    rw [e, splitF_hit 10 _ _ g2, h1]
    rfl
theorem text_back {L : List (Int × Int)} (hv : allValid L = true) : TextR (htText L) (some L) := .inr ⟨L.map htBody, (lines_of hv).1, (lines_of hv).2⟩
end Go.Proofs.YtpmpbfkpiocleaaDoor

/- The law on the instructions of a program. Conditions: as each states. -/
namespace Go.Proofs.YtpmpbfkpiocleaaDoor
open Go.RowKit
set_option linter.unusedVariables false
set_option maxRecDepth 100000

theorem implHintsOf_any (s : ByteArray) (w : World) (hs : s.size ≤ 1048576) :
    Calls Tryd.prog 6 #[.string s] w fun e w' =>
      ((∀ L, hintList s = some L → nestB (codesOf L) = false) ∧ e = .returned (.tuple #[.slice none 0 0, .bool false]) ∧ Below w.heap.size w w') ∨
      ∃ L A c, hintList s = some L ∧ nestB (codesOf L) = true ∧ e = .returned (.tuple #[.slice A L.length c, .bool true]) ∧ w'.ownsRow w.heap.size 32 2 (.slice A L.length c) L.length (hintCells L) ∧ Below w.heap.size w w' := by
  go_enter Tryd.func6, Tryd.ntmps6
  go_wp2_with fail
  refine (readHints_any s _ hs).mono ?_
  rintro e w1 (⟨h1, rfl, hb1⟩ | ⟨L, A, c, vp, h1, rfl, hown, hps, hb1⟩)
  · replace h1 := Lib.hid h1
    go_wp2_with fail
    go_ret2
    exact .inl ⟨fun L hL => absurd (h1.out.symm.trans hL) (by simp), rfl, hb1⟩
  · replace h1 := Lib.hid h1
    clear hps
    cases hb : nestB (codesOf L)
    · go_wp2_with fail
      go_ret2
      exact .inl ⟨fun L' hL => by rw [h1.out] at hL; injection hL with hL; subst hL; exact hb, rfl, hb1⟩
    · go_wp2_with fail
      go_ret2
      exact .inr ⟨L, A, c, h1.out, hb, rfl, hown, hb1⟩

end Go.Proofs.YtpmpbfkpiocleaaDoor

