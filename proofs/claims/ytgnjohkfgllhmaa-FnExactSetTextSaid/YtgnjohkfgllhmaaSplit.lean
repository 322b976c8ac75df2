/- The walk of the function that splits a text. Conditions: as it states. -/
import Derived.Test.YtgnjohkfgllhmaaMem
import Derived.Test.YtgnjohkfgllhmaaProg
import Derived.BigQuiet
import Derived.Outline
namespace Go.Proofs.Ytgnjohkfgllhmaa
open Go.RowKit
set_option linter.unusedVariables false
set_option maxRecDepth 100000

def splitF (b : UInt8) : List UInt8 → List (List UInt8)
  | [] => [[]]
  | c :: l => if c = b then [] :: splitF b l else match splitF b l with | [] => [[c]] | x :: r => (c :: x) :: r
theorem splitF_ne (b : UInt8) (l : List UInt8) : splitF b l ≠ [] := by
  cases l with
  | nil => simp [splitF]
  | cons c l => rw [splitF]; split
                · simp
                · split <;> simp
theorem splitF_hit (b : UInt8) : ∀ (a l : List UInt8), (∀ c ∈ a, c ≠ b) → splitF b (a ++ b :: l) = a :: splitF b l := by
  intro a
  induction a with
  | nil => intro l _; simp [splitF]
  | cons c a ih =>
    intro l h
    have h1 := ih l (fun c hc => h c (List.mem_cons_of_mem _ hc))
    rw [List.cons_append, splitF, if_neg (h c (by simp)), h1]
theorem splitF_last (b : UInt8) : ∀ a : List UInt8, (∀ c ∈ a, c ≠ b) → splitF b a = [a] := by
  intro a
  induction a with
  | nil => intro _; rfl
  | cons c a ih =>
    intro h
    rw [splitF, if_neg (h c (by simp)), ih (fun c hc => h c (List.mem_cons_of_mem _ hc))]
def strV (xs : List (List UInt8)) : List Value := xs.map fun x => .string ⟨x.toArray⟩
theorem strV_length (xs : List (List UInt8)) : (strV xs).length = xs.length := by simp [strV]

/-- behind i bytes: the pieces P, the next one from f on -/
def SplitTo (s : ByteArray) (b : UInt8) (i f : Nat) (P : List (List UInt8)) : Prop :=
  f ≤ i ∧ i ≤ s.size ∧ P.length ≤ i ∧ splitF b s.data.toList = P ++ splitF b (s.data.toList.drop f) ∧ ∀ c ∈ (s.data.toList.take i).drop f, c ≠ b
theorem SplitTo.start (s : ByteArray) (b : UInt8) : SplitTo s b 0 0 [] := ⟨Nat.le_refl _, Nat.zero_le _, Nat.zero_le _, by simp, by simp⟩
theorem drop_split (l : List UInt8) (f i : Nat) (hf : f ≤ i) (hi : i < l.length) : l.drop f = (l.take i).drop f ++ l[i] :: l.drop (i + 1) := by
  have e : l = l.take i ++ l[i] :: l.drop (i + 1) := by simp
  conv => lhs; rw [e]
  rw [List.drop_append_of_le_length (by simp; omega)]
theorem SplitTo.hit {s : ByteArray} {b : UInt8} {i f : Nat} {P : List (List UInt8)} (h : SplitTo s b i f P) (hi : i < s.size) (hb : s[i] = b) : SplitTo s b (i + 1) (i + 1) (P ++ [(s.data.toList.take i).drop f]) := by
  obtain ⟨h1, h2, h3, h4, h5⟩ := h
  refine ⟨Nat.le_refl _, by omega, by simp; omega, ?_, by simp⟩
  have hb' : s.data.toList[i]'(by simpa using hi) = b := hb
  rw [h4, drop_split _ f i h1 (by simpa using hi), hb', splitF_hit _ _ _ h5]
  simp
theorem SplitTo.miss {s : ByteArray} {b : UInt8} {i f : Nat} {P : List (List UInt8)} (h : SplitTo s b i f P) (hi : i < s.size) (hb : s[i] ≠ b) : SplitTo s b (i + 1) f P := by
  obtain ⟨h1, h2, h3, h4, h5⟩ := h
  refine ⟨by omega, by omega, by omega, h4, fun c hc => ?_⟩
  have hb' : s.data.toList[i]'(by simpa using hi) ≠ b := hb
  rw [List.take_succ_eq_append_getElem (by simpa using hi), List.drop_append_of_le_length (by simp; omega), List.mem_append] at hc
  rcases hc with hc | hc
  · exact h5 c hc
  · simp at hc; subst hc; exact hb
theorem SplitTo.done {s : ByteArray} {b : UInt8} {f : Nat} {P : List (List UInt8)} (h : SplitTo s b s.size f P) : splitF b s.data.toList = P ++ [s.data.toList.drop f] := by
  obtain ⟨h1, h2, h3, h4, h5⟩ := h
  rw [List.take_of_length_le (by simp)] at h5
  rw [h4, splitF_last _ _ h5]

theorem elemStr : Elem Try.prog 157 9 1 16 := elem_mk (z := .string ⟨#[]⟩) Try.underlying157 (by kernel_rfl) rfl (by omega)
theorem extract_mk (s : ByteArray) (f i : Nat) : s.extract f i = ⟨((s.data.toList.take i).drop f).toArray⟩ := by
  have h : (s.extract f i).data.toList = (s.data.toList.take i).drop f := by simp [ByteArray.data_extract, List.drop_take]
  rw [← h]

set_option maxHeartbeats 1000000 in
theorem l01Split_any (s : ByteArray) (b : UInt8) (w : World) (hs : s.size ≤ 1048576) :
    Calls Try.prog 91 #[.string s, .int .u8 b.toNat] w fun e w' => ∃ (A : Option Addr) (c n : Nat), n = (splitF b s.data.toList).length ∧ e = .returned (.slice A n c) ∧ w'.ownsRow w.heap.size 9 1 (.slice A n c) n (strV (splitF b s.data.toList)) ∧ Below w.heap.size w w' := by
  go_enter Try.func91, Try.ntmps91
  go_wp2_with fail
  go_loopw [5, 6, 7] (fun out fv i wr => ∃ (k f : Nat) (P : List (List UInt8)) (A : Option Addr) (c : Nat), i = .int .i64 k ∧ fv = .int .i64 f ∧ SplitTo s b k f P ∧ out = .slice A P.length c ∧ wr.ownsRow w.heap.size 9 1 (.slice A P.length c) P.length (strV P) ∧ Below w.heap.size w wr) (fun out fv i wr => s.size - (intOf i).toNat)
  case atStart => exact ⟨0, 0, [], _, _, rfl, rfl, SplitTo.start s b, rfl, World.ownsRow_lit w _ _ (Nat.le_refl _) (by decide) (by simp), (Below.refl _ _).alloc (Nat.le_refl _) _⟩
  case round =>
    obtain ⟨k, f, P, A, c, rfl, rfl, hsp, rfl, hown, hbel⟩ := hrel
    have hfk := hsp.1
    have hk := hsp.2.1
    have hP := hsp.2.2.1
    have hsz := hbel.size
    replace hsp := Lib.hid hsp
    replace hown := Lib.hid hown
    by_cases hlt : k < s.size
    · obtain ⟨d, hd⟩ : ∃ d, s[k] = d := ⟨_, rfl⟩
      have hd256 := d.toNat_lt
      by_cases hdb : d = b
      · have ht : ((d.toNat : Int) == (b.toNat : Int)) = true := by subst hdb; simp
        have hh := Lib.hid (hsp.out.hit hlt (hd.trans hdb))
        have hex := Lib.hid (extract_mk s f k)
        replace hdb := Lib.hid hdb
        go_wp2_with (at_builtin; refine wpApp rfl (.tmp 20) (.tmp 25) elemStr rfl (v := .slice A P.length c) (n := P.length) (xs := strV P) rfl (hown.out.alloc _) rfl (src_at (cs := [.string (s.extract f k)]) rfl (by simp [Value.oneCell']) rfl) (by omega) (by omega) (by simp; omega) (P.length + 1) rfl ?_; intro A' c' w1 hown1 hb1)
        go_roundw
        case rel =>
          refine ⟨k + 1, k + 1, _, A', c', by go_num, by go_num, hh.out, by simp, ?_, (hbel.alloc hsz _).trans hb1⟩
          rw [List.length_append, strV, List.map_append]
          rw [hex.out] at hown1
          exact hown1
        case measure => simp [intOf]; omega
      · have ht : ((d.toNat : Int) == (b.toNat : Int)) = false := by
          rw [beq_eq_false_iff_ne]; intro e; exact hdb (UInt8.toNat_inj.1 (by omega))
        have hh := Lib.hid (hsp.out.miss hlt (by rw [hd]; exact hdb))
        replace hdb := Lib.hid hdb
        go_wp2_with fail
        go_roundw
        case rel => exact ⟨k + 1, f, P, A, c, by go_num, rfl, hh.out, rfl, hown.out, hbel⟩
        case measure => simp [intOf]; omega
    · have hkn : k = s.size := by omega
      have hh := hsp.out
      rw [hkn] at hh
      have hdone := Lib.hid hh.done
      have hex := Lib.hid (extract_mk s f s.size)
      have hfs : (f : Int) ≤ s.size := by omega
      replace hkn := Lib.hid hkn
      clear hh
      go_wp2_with (at_builtin; refine wpApp rfl (.tmp 29) (.tmp 33) elemStr rfl (v := .slice A P.length c) (n := P.length) (xs := strV P) rfl (hown.out.alloc _) rfl (src_at (cs := [.string (s.extract f s.size)]) rfl (by simp [Value.oneCell']) rfl) (by omega) (by omega) (by simp; omega) (P.length + 1) rfl ?_; intro A' c' w1 hown1 hb1)
      go_ret
      refine ⟨A', c', P.length + 1, by rw [hdone.out]; simp, rfl, ?_, (hbel.alloc hsz _).trans hb1⟩
      rw [hdone.out, strV, List.map_append]
      rw [hex.out] at hown1
      rw [List.take_of_length_le (by simp)] at hown1
      exact hown1
end Go.Proofs.Ytgnjohkfgllhmaa
