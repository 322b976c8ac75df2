/- The walks of the functions that read a program. Conditions: as each states. -/
import Derived.Test.YtpmpbfkpiocleaaDoorAs21
import Derived.Test.YtpmpbfkpiocleaaDoorAs23
namespace Go.Proofs.YtpmpbfkpiocleaaDoor
open Go.RowKit
set_option linter.unusedVariables false
set_option maxRecDepth 100000

theorem rdH_own {w : World} {B e n c : Nat} {A : Option Addr} {L : List (Int × Int)} (h : w.ownsRow B e 2 (.slice A n c) n (hintCells L)) (hl : L.length = n) : RdH w A n L := by
  refine ⟨hl, fun hn => ?_⟩
  obtain ⟨g, rfl, h1, h2, h3, hc, _⟩ := own_addr h hn
  refine ⟨g, 0, rfl, h2, fun j hj => ?_⟩
  have e1 : ∀ (L : List (Int × Int)) (j : Nat), j < L.length → (hintCells L)[j * 2]? = some (.int .i64 (L.getD j (0, 0)).1) ∧ (hintCells L)[j * 2 + 1]? = some (.int .i64 (L.getD j (0, 0)).2) := by
    intro L
    induction L with
    | nil => intro j hj; simp at hj
    | cons p L ih =>
      intro j hj
      cases j with
      | zero => simp [hintCells]
      | succ j =>
        have := ih j (by simpa using hj)
        have e : hintCells (p :: L) = .int .i64 p.1 :: .int .i64 p.2 :: hintCells L := by simp [hintCells]
        rw [e, show (j + 1) * 2 = j * 2 + 1 + 1 by omega]
        simpa using this
  have := e1 L j (by omega)
  rw [Nat.zero_add, hc _ (by omega), hc _ (by omega)]
  exact this

theorem parseAt_len (s : ByteArray) : ∀ (f i : Nat) (L : List (Int × Int)), parseAt s f i = some L → L.length ≤ s.size - i := by
  intro f
  induction f with
  | zero => intro i L h; simp [parseAt] at h
  | succ f ih =>
    intro i L h
    rw [parseAt] at h
    by_cases h1 : s.size ≤ i
    · rw [if_pos h1] at h; injection h with h; subst h; simp
    · rw [if_neg h1] at h
      split at h
      · cases h
      · split at h
        · cases hp : parseAt s f (i + 1 + (opBytes (byteAt s i).toNat).toNat) with
          | none => rw [hp] at h; cases h
          | some L' =>
            rw [hp] at h
            injection h with h
            have := ih _ _ hp
            subst h
            simp; omega
        · cases h
theorem parse_len {s : ByteArray} {L : List (Int × Int)} (h : parse s = some L) : L.length ≤ s.size := by
  have := parseAt_len s _ 0 L h
  omega

theorem u16_or (b1 b2 : UInt8) : bits .or .u16 ((b1.toNat : Int) * 256) (b2.toNat : Int) = (b1.toNat : Int) * 256 + b2.toNat := by
  have h1 := b1.toNat_lt
  have h2 := b2.toNat_lt
  have e1 : (BitVec.ofInt 16 ((b1.toNat : Int) * 256)).toNat = b1.toNat * 256 := by
    rw [show ((b1.toNat : Int) * 256) = ((b1.toNat * 256 : Nat) : Int) by omega, BitVec.ofInt_natCast, BitVec.toNat_ofNat]; omega
  have e2 : (BitVec.ofInt 16 (b2.toNat : Int)).toNat = b2.toNat := by
    rw [BitVec.ofInt_natCast, BitVec.toNat_ofNat]; omega
  have e3 : b1.toNat * 256 ||| b2.toNat = b1.toNat * 256 + b2.toNat := by
    have := Nat.shiftLeft_add_eq_or_of_lt (i := 8) (b := b2.toNat) (by omega) b1.toNat
    rw [Nat.shiftLeft_eq] at this; exact this.symm
  show IntKind.u16.wrap ((BitVec.ofInt 16 ((b1.toNat : Int) * 256) ||| BitVec.ofInt 16 (b2.toNat : Int)).toNat : Int) = _
  rw [BitVec.toNat_or, e1, e2, e3]
  simp only [IntKind.wrap, IntKind.signed, IntKind.bits]
  simp
  omega
theorem i16_word (b1 b2 : UInt8) : IntKind.i16.wrap (bits .or .u16 ((b1.toNat : Int) * 256) (b2.toNat : Int)) = sb b1 * 256 + b2.toNat := by
  have h1 := b1.toNat_lt
  have h2 := b2.toNat_lt
  rw [u16_or]
  simp only [IntKind.wrap, IntKind.signed, IntKind.bits, sb]
  simp
  split <;> omega

theorem own_base {w : World} {base base' e size n : Nat} {v : Value} {xs : List Value} (h : w.ownsRow base e size v n xs) (hb : base' ≤ base) : w.ownsRow base' e size v n xs := by
  refine ⟨h.1, ?_⟩
  rcases h.2 with h2 | ⟨g, cap, cur, hv, hg, r⟩
  · exact .inl h2
  · exact .inr ⟨g, cap, cur, hv, Nat.le_trans hb hg, r⟩

def hintList (s : ByteArray) : Option (List (Int × Int)) := if 400 < s.size then none else parse s
def codesOf (L : List (Int × Int)) : List Int := L.map (·.1)

/-- the instructions that a program was read to, its partners beside them -/
def RHPost (s : ByteArray) (w : World) (e : Ending) (w' : World) : Prop :=
  (hintList s = none ∧ e = .returned (.tuple #[.slice none 0 0, .slice none 0 0, .bool false]) ∧ Below w.heap.size w w') ∨
  ∃ L A c vp, hintList s = some L ∧ e = .returned (.tuple #[.slice A L.length c, vp, .bool (nestB (codesOf L))]) ∧ w'.ownsRow w.heap.size 32 2 (.slice A L.length c) L.length (hintCells L) ∧
    (∀ ps st, pAll (codesOf L) = some (ps, st) → ∃ g, vp = .slice (some ⟨g, 0, none⟩) L.length L.length ∧ w'.ownsRow w.heap.size 3 1 vp L.length (intV ps)) ∧ Below w.heap.size w w'

set_option maxRecDepth 100000 in
set_option maxHeartbeats 8000000 in
theorem readHints_any (s : ByteArray) (w : World) (hs : s.size ≤ 1048576) :
    Calls Tryd.prog 23 #[.string s] w fun e w' => RHPost s w e w' := by
  by_cases h4 : (400 : Int) < s.size
  · go_enter Tryd.func23, Tryd.ntmps23
    go_wp2_with fail
    go_ret3
    exact .inl ⟨by unfold hintList; rw [if_pos (by omega)], rfl, Below.refl _ _⟩
  have hhl : hintList s = parse s := by unfold hintList; rw [if_neg (by omega)]
  replace hhl := Lib.hid hhl
  go_enter Tryd.func23, Tryd.ntmps23
  go_wp2_with fail
  go_loopw [5, 6] (fun out i wr => ∃ (k : Nat) (L : List (Int × Int)) (A : Option Addr) (c : Nat), i = .int .i64 k ∧ ParseTo s k L ∧ out = .slice A L.length c ∧ wr.ownsRow w.heap.size 32 2 (.slice A L.length c) L.length (hintCells L) ∧ Below w.heap.size w wr) (fun out i wr => s.size - (intOf i).toNat)
  case atStart => exact ⟨0, [], _, _, rfl, ParseTo.start s, rfl, World.ownsRow_nil _ _ _ _, Below.refl _ _⟩
  case round =>
    obtain ⟨k, L, A, c, rfl, hp, rfl, hown, hbel⟩ := hrel
    have hk := hp.1
    have hL := hp.2.1
    replace hp := Lib.hid hp
    replace hown := Lib.hid hown
    have hsz := hbel.size
    by_cases hlt : k < s.size
    · obtain ⟨b, hbk⟩ : ∃ b, s[k] = b := ⟨_, rfl⟩
      have hb256 : b.toNat < 256 := b.toNat_lt
      have hba : byteAt s k = b := by rw [← hbk]; exact byteAt_get s k hlt
      replace hba := Lib.hid hba
      rcases opBytes_cases (b.toNat : Int) with hop | hop | hop
      · have hod : operandAt s k = 0 := by simp [operandAt, hba.out, hop]
        replace hod := Lib.hid hod
        by_cases hv : validHint (b.toNat : Int) 0 = true
        · go_wp2_with (first | (go_at_call 18; refine (operandOf_any _ _).mono ?_; rintro e w1 ⟨rfl, rfl⟩) | (go_at_call 15; refine (implValidHint_any _ _ _).mono ?_; rintro e w1 ⟨rfl, hb1⟩; obtain ⟨hc1, hf1⟩ := bcell hb1; have hsz1 : w.heap.size ≤ w1.heap.size := by { have := hb1.size; simp at this; omega }) | (at_builtin; refine wpApp rfl (.tmp 71) (.tmp 73) elemHint rfl (v := .slice A L.length c) (n := L.length) (xs := hintCells L) rfl ((own_below (hown.out.alloc _) hb1).alloc _) rfl (src_new (cs := [.int .i64 b.toNat, .int .i64 0]) rfl (by simp [Value.oneCell'])) (by omega) (by omega) (by simp; omega) (L.length + 1) rfl ?_; intro A' c' w2 hown2 hb2; replace hown2 := Lib.hid hown2; clear hc1 hf1))
          have hB1 : Below w.heap.size w w1 := ((hbel.alloc hsz _)).trans (hb1.mono (by simp; omega))
          have hB2 := (hB1.alloc hsz1 _).trans hb2
          go_roundw
          case rel =>
            have hst := hp.out.step hlt (by rw [hba.out, hop]; omega) (by rw [hba.out, hod.out]; exact hv)
            rw [hba.out, hod.out, hop] at hst
            refine ⟨k + 1 + 0, _, A', c', by go_num, hst, by simp, ?_, hB2⟩
            rw [hintCells_append, List.length_append]
            exact hown2.out
          case measure => simp [intOf]; omega
        · have hv' : validHint (b.toNat : Int) 0 = false := by simpa using hv
          clear hv
          go_wp2_with (first | (go_at_call 18; refine (operandOf_any _ _).mono ?_; rintro e w1 ⟨rfl, rfl⟩) | (go_at_call 15; refine (implValidHint_any _ _ _).mono ?_; rintro e w1 ⟨rfl, hb1⟩; obtain ⟨hc1, hf1⟩ := bcell hb1; have hsz1 : w.heap.size ≤ w1.heap.size := by { have := hb1.size; simp at this; omega }))
          go_ret3
          have hB1 : Below w.heap.size w w1 := ((hbel.alloc hsz _)).trans (hb1.mono (by simp; omega))
          exact .inl ⟨hhl.out.trans (hp.out.bad hlt (by rw [hba.out, hop]; omega) (by rw [hba.out, hod.out]; exact hv')), rfl, hB1⟩
      · by_cases hlt1 : k + 1 < s.size
        · obtain ⟨b1, hbk1⟩ : ∃ b, s[k + 1] = b := ⟨_, rfl⟩
          have hb1256 : b1.toNat < 256 := b1.toNat_lt
          have hba1 : byteAt s (k + 1) = b1 := by rw [← hbk1]; exact byteAt_get s (k + 1) hlt1
          have hod : operandAt s k = sb b1 := by simp [operandAt, hba.out, hop, hba1]
          clear hba1
          replace hod := Lib.hid hod
          have hw8 := sb_wrap b1
          obtain ⟨hw1, hw2⟩ := sb_bd b1
          by_cases hv : validHint (b.toNat : Int) (sb b1) = true
          · go_wp2_with (first | (go_at_call 18; refine (operandOf_any _ _).mono ?_; rintro e w1 ⟨rfl, rfl⟩) | (go_at_call 15; refine (implValidHint_any _ _ _).mono ?_; rintro e w1 ⟨rfl, hb1⟩; obtain ⟨hc1, hf1⟩ := bcell hb1; have hsz1 : w.heap.size ≤ w1.heap.size := by { have := hb1.size; simp at this; omega }) | (at_builtin; refine wpApp rfl (.tmp 71) (.tmp 73) elemHint rfl (v := .slice A L.length c) (n := L.length) (xs := hintCells L) rfl ((own_below (hown.out.alloc _) hb1).alloc _) rfl (src_new (cs := [.int .i64 b.toNat, .int .i64 (sb b1)]) rfl (by simp [Value.oneCell'])) (by omega) (by omega) (by simp; omega) (L.length + 1) rfl ?_; intro A' c' w2 hown2 hb2; replace hown2 := Lib.hid hown2; clear hc1 hf1))
            have hB1 : Below w.heap.size w w1 := ((hbel.alloc hsz _)).trans (hb1.mono (by simp; omega))
            have hB2 := (hB1.alloc hsz1 _).trans hb2
            go_roundw
            case rel =>
              have hst := hp.out.step hlt (by rw [hba.out, hop]; omega) (by rw [hba.out, hod.out]; exact hv)
              rw [hba.out, hod.out, hop] at hst
              refine ⟨k + 1 + 1, _, A', c', by go_num, hst, by simp, ?_, hB2⟩
              rw [hintCells_append, List.length_append]
              exact hown2.out
            case measure => simp [intOf]; omega
          · have hv' : validHint (b.toNat : Int) (sb b1) = false := by simpa using hv
            clear hv
            go_wp2_with (first | (go_at_call 18; refine (operandOf_any _ _).mono ?_; rintro e w1 ⟨rfl, rfl⟩) | (go_at_call 15; refine (implValidHint_any _ _ _).mono ?_; rintro e w1 ⟨rfl, hb1⟩; obtain ⟨hc1, hf1⟩ := bcell hb1; have hsz1 : w.heap.size ≤ w1.heap.size := by { have := hb1.size; simp at this; omega }))
            go_ret3
            have hB1 : Below w.heap.size w w1 := ((hbel.alloc hsz _)).trans (hb1.mono (by simp; omega))
            exact .inl ⟨hhl.out.trans (hp.out.bad hlt (by rw [hba.out, hop]; omega) (by rw [hba.out, hod.out]; exact hv')), rfl, hB1⟩
        · go_wp2_with (first | (go_at_call 18; refine (operandOf_any _ _).mono ?_; rintro e w1 ⟨rfl, rfl⟩) | (go_at_call 15; refine (implValidHint_any _ _ _).mono ?_; rintro e w1 ⟨rfl, hb1⟩; obtain ⟨hc1, hf1⟩ := bcell hb1; have hsz1 : w.heap.size ≤ w1.heap.size := by { have := hb1.size; simp at this; omega }))
          go_ret3
          exact .inl ⟨hhl.out.trans (hp.out.short hlt (by rw [hba.out, hop]; omega)), rfl, hbel.alloc hsz _⟩
      · by_cases hlt2 : k + 2 < s.size
        · obtain ⟨b1, hbk1⟩ : ∃ b, s[k + 1] = b := ⟨_, rfl⟩
          have hb1256 : b1.toNat < 256 := b1.toNat_lt
          have hba1 : byteAt s (k + 1) = b1 := by rw [← hbk1]; exact byteAt_get s (k + 1) (by omega)
          obtain ⟨b2, hbk2⟩ : ∃ b, s[k + 2] = b := ⟨_, rfl⟩
          have hb2256 : b2.toNat < 256 := b2.toNat_lt
          have hbk3 : s[k + 1 + 1] = b2 := hbk2
          have hi1 : (0 : Int) ≤ (k : Int) + 1 ∧ (k : Int) + 1 < (s.size : Int) := by omega
          have hi2 : (0 : Int) ≤ (k : Int) + 1 + 1 ∧ (k : Int) + 1 + 1 < (s.size : Int) := by omega
          have hba2 : byteAt s (k + 2) = b2 := by rw [← hbk2]; exact byteAt_get s (k + 2) (by omega)
          have hod : operandAt s k = sb b1 * 256 + b2.toNat := by simp [operandAt, hba.out, hop, hba1, hba2]
          clear hba1 hba2
          replace hod := Lib.hid hod
          have hw16 := i16_word b1 b2
          obtain ⟨hw1, hw2⟩ := sb_bd b1
          by_cases hv : validHint (b.toNat : Int) (sb b1 * 256 + b2.toNat) = true
          · go_wp2_with (first | (go_at_call 18; refine (operandOf_any _ _).mono ?_; rintro e w1 ⟨rfl, rfl⟩) | (go_at_call 15; refine (implValidHint_any _ _ _).mono ?_; rintro e w1 ⟨rfl, hb1⟩; obtain ⟨hc1, hf1⟩ := bcell hb1; have hsz1 : w.heap.size ≤ w1.heap.size := by { have := hb1.size; simp at this; omega }))
            go_region
            all_goals go_wp2_with (first | (go_at_call 18; refine (operandOf_any _ _).mono ?_; rintro e w1 ⟨rfl, rfl⟩) | (go_at_call 15; refine (implValidHint_any _ _ _).mono ?_; rintro e w1 ⟨rfl, hb1⟩; obtain ⟨hc1, hf1⟩ := bcell hb1; have hsz1 : w.heap.size ≤ w1.heap.size := by { have := hb1.size; simp at this; omega }) | (at_builtin; refine wpApp rfl (.tmp 71) (.tmp 73) elemHint rfl (v := .slice A L.length c) (n := L.length) (xs := hintCells L) rfl ((own_below ((hown.out.alloc _).drew) hb1).alloc _) rfl (src_new (cs := [.int .i64 b.toNat, .int .i64 (sb b1 * 256 + b2.toNat)]) rfl (by simp [Value.oneCell'])) (by omega) (by omega) (by simp; omega) (L.length + 1) rfl ?_; intro A' c' w2 hown2 hb2; replace hown2 := Lib.hid hown2; clear hc1 hf1))
            have hB1 : Below w.heap.size w w1 := ((hbel.alloc hsz _).drew).trans (hb1.mono (by simp; omega))
            have hB2 := (hB1.alloc hsz1 _).trans hb2
            go_roundw
            case rel =>
              have hst := hp.out.step hlt (by rw [hba.out, hop]; omega) (by rw [hba.out, hod.out]; exact hv)
              rw [hba.out, hod.out, hop] at hst
              refine ⟨k + 1 + 2, _, A', c', by go_num, hst, by simp, ?_, hB2⟩
              rw [hintCells_append, List.length_append]
              exact hown2.out
            case measure => simp [intOf]; omega
          · have hv' : validHint (b.toNat : Int) (sb b1 * 256 + b2.toNat) = false := by simpa using hv
            clear hv
            go_wp2_with (first | (go_at_call 18; refine (operandOf_any _ _).mono ?_; rintro e w1 ⟨rfl, rfl⟩) | (go_at_call 15; refine (implValidHint_any _ _ _).mono ?_; rintro e w1 ⟨rfl, hb1⟩; obtain ⟨hc1, hf1⟩ := bcell hb1; have hsz1 : w.heap.size ≤ w1.heap.size := by { have := hb1.size; simp at this; omega }))
            go_region
            all_goals go_wp2_with (first | (go_at_call 18; refine (operandOf_any _ _).mono ?_; rintro e w1 ⟨rfl, rfl⟩) | (go_at_call 15; refine (implValidHint_any _ _ _).mono ?_; rintro e w1 ⟨rfl, hb1⟩; obtain ⟨hc1, hf1⟩ := bcell hb1; have hsz1 : w.heap.size ≤ w1.heap.size := by { have := hb1.size; simp at this; omega }))
            go_ret3
            have hB1 : Below w.heap.size w w1 := ((hbel.alloc hsz _).drew).trans (hb1.mono (by simp; omega))
            exact .inl ⟨hhl.out.trans (hp.out.bad hlt (by rw [hba.out, hop]; omega) (by rw [hba.out, hod.out]; exact hv')), rfl, hB1⟩
        · go_wp2_with (first | (go_at_call 18; refine (operandOf_any _ _).mono ?_; rintro e w1 ⟨rfl, rfl⟩) | (go_at_call 15; refine (implValidHint_any _ _ _).mono ?_; rintro e w1 ⟨rfl, hb1⟩; obtain ⟨hc1, hf1⟩ := bcell hb1; have hsz1 : w.heap.size ≤ w1.heap.size := by { have := hb1.size; simp at this; omega }))
          go_ret3
          exact .inl ⟨hhl.out.trans (hp.out.short hlt (by rw [hba.out, hop]; omega)), rfl, hbel.alloc hsz _⟩
    · have hd := hp.out.done (by omega)
      have hll := parse_len hd
      have hpt := partnersOf_any A L.length c L (codesOf L) wr (rdH_own hown.out rfl) (by omega) rfl
      replace hpt := Lib.hid hpt
      replace hd := Lib.hid hd
      go_wp2_with fail
      refine (hpt.out).mono ?_
      rintro e w1 (⟨hn, rfl, hb1⟩ | ⟨ps, st, g, hn, hpl, rfl, hps, hb1⟩)
      · replace hn := Lib.hid hn
        go_wp2_with fail
        go_ret3
        refine .inr ⟨L, A, c, .slice none 0 0, hhl.out.trans hd.out, ?_, own_below hown.out hb1, ?_, hbel.trans (hb1.mono hsz)⟩
        · rw [nestB_none hn.out]; rfl
        · intro ps st h; rw [hn.out] at h; cases h
      · replace hn := Lib.hid hn
        replace hps := Lib.hid hps
        replace hpl := Lib.hid hpl
        go_wp2_with fail
        go_ret3
        refine .inr ⟨L, A, c, .slice (some ⟨g, 0, none⟩) L.length L.length, hhl.out.trans hd.out, ?_, own_below hown.out hb1, ?_, hbel.trans (hb1.mono hsz)⟩
        · rw [nestB_some hn.out]; rfl
        · intro ps' st' h
          rw [hn.out] at h
          injection h with h
          injection h with h1 h2
          subst h1
          exact ⟨g, rfl, own_base hps.out hsz⟩

theorem implValidHints_any (s : ByteArray) (w : World) (hs : s.size ≤ 1048576) (v : Bool) (hv : v = match hintList s with | none => false | some L => nestB (codesOf L)) :
    Calls Tryd.prog 9 #[.string s] w fun e w' => e = .returned (.bool v) ∧ Below w.heap.size w w' := by
  replace hv := Lib.hid hv
  go_enter Tryd.func9, Tryd.ntmps9
  go_wp2_with fail
  refine (readHints_any s _ hs).mono ?_
  rintro e w1 (⟨h1, rfl, hb1⟩ | ⟨L, A, c, vp, h1, rfl, hown, hps, hb1⟩)
  · replace h1 := Lib.hid h1
    go_wp2_with fail
    go_ret
    exact ⟨ret_bool (by rw [hv.out, h1.out]), hb1⟩
  · replace h1 := Lib.hid h1
    clear hps
    go_wp2_with fail
    go_ret
    exact ⟨ret_bool (by rw [hv.out, h1.out]), hb1⟩

end Go.Proofs.YtpmpbfkpiocleaaDoor

