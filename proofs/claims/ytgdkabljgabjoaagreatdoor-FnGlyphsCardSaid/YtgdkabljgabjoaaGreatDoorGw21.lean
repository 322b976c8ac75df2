/- The plain law of FnGlyphs: counts, depths, users, names. Conditions: as each states. -/
import Derived.BigQuiet
import Derived.Outline
import Derived.Lib.Join
import Derived.StillTailTactics
import Derived.Lib.Hide
import Derived.Laws.BitsLemmas
import Derived.Test.YtgdkabljgabjoaaGreatDoorGw19
import Derived.Test.YtgdkabljgabjoaaGreatDoorGw18
import Derived.Test.YtgdkabljgabjoaaGreatDoorGw20
import Derived.Test.YtgdkabljgabjoaaGreatDoorGw01
import Derived.Test.YtgdkabljgabjoaaGreatDoorProg
import Derived.Test.YtgdkabljgabjoaaGreatDoorGw10
import Derived.Test.YtgdkabljgabjoaaGreatDoorGw09
import Derived.Test.YtgdkabljgabjoaaGreatDoorGw07
namespace Go.Proofs.YtgdkabljgabjoaaGreatDoor
set_option linter.unusedVariables false
set_option maxRecDepth 100000

theorem gs_ask {d : GSet} (h : setOk d = true) {k : Nat} (hk : k < d.gl.length) : askR d (k : Int) = 0 := ask_0 h (by omega)
theorem gs_place {d : GSet} (h : setOk d = true) {k : Nat} (hk : k < d.gl.length) : ∃ t : Nat, (order (tgts d.gl))[t]? = some (k : Int) := ord_at (set_is h).2.2 (by omega) (by omega)
theorem gs_tgt {L : List Gl} {k : Nat} {g : Gl} (hg : L[k]? = some g) : (tgts L)[(k : Int).toNat]? = some (g.parts.map (·.1)) := by
  unfold tgts; rw [List.getElem?_map, Int.toNat_natCast, hg]; rfl
theorem dOf_ge {D : Int → Int} {ps : List Int} {p : Int} (hp : p ∈ ps) : D p + 1 ≤ dOf D ps := by
  induction ps using list_snoc_ind with
  | h0 => simp at hp
  | h1 l a ih =>
    rw [dOf_snoc]
    rcases List.mem_append.1 hp with h | h
    · have := ih h; omega
    · rw [List.mem_singleton] at h; subst h; omega
theorem gs_dep {d : GSet} (h : setOk d = true) {k : Nat} {g : Gl} (hg : d.gl[k]? = some g) : (depR d (k : Int)).2 = 0 ∧ 0 ≤ (depR d (k : Int)).1 ∧ ((depR d (k : Int)).1 = 0 ↔ g.parts.length = 0) ∧ ∀ p ∈ g.parts, (depR d p.1).1 < (depR d (k : Int)).1 := by
  have hk := (List.getElem?_eq_some_iff.1 hg).1
  obtain ⟨t, ht⟩ := gs_place h hk
  have ho := order_ord (tgts d.gl)
  have hd := depF_at ho ht (gs_tgt hg)
  have e : ∀ j : Int, askR d j = 0 → (depR d j).1 = depF (tgts d.gl) (order (tgts d.gl)) j := fun j hj => by unfold depR; rw [if_pos hj]
  have h0 := gs_ask h hk
  have hin := depF_in (T := tgts d.gl) (List.mem_of_getElem? ht)
  have hpart : ∀ p ∈ g.parts, askR d p.1 = 0 ∧ 0 ≤ depF (tgts d.gl) (order (tgts d.gl)) p.1 := fun p hp => by
    have h1 := ho.ready t _ ht _ (gs_tgt hg) p.1 (List.mem_map_of_mem (f := (·.1)) hp)
    have h2 := List.mem_of_mem_take h1
    have h3 := ho.rng _ h2
    rw [tgts_length] at h3
    exact ⟨ask_0 h ⟨h3.1, by omega⟩, depF_in h2⟩
  refine ⟨by unfold depR; exact h0, by rw [e _ h0]; exact hin, ?_, fun p hp => ?_⟩
  · rw [e _ h0, hd]
    constructor
    · intro hz
      cases hps : g.parts with
      | nil => rfl
      | cons p ps =>
        exfalso
        have h1 := (hpart p (by rw [hps]; simp)).2
        have h2 := dOf_ge (D := depF (tgts d.gl) (order (tgts d.gl))) (List.mem_map_of_mem (f := (·.1)) (show p ∈ g.parts by rw [hps]; simp))
        omega
    · intro hz
      rw [List.eq_nil_of_length_eq_zero hz]; rfl
  · rw [e _ h0, e _ (hpart p hp).1, hd]
    have := dOf_ge (D := depF (tgts d.gl) (order (tgts d.gl))) (List.mem_map_of_mem (f := (·.1)) hp)
    omega
theorem usersT_mem {L : List Gl} {x : Int} : ∀ {k : Nat} {y : Int}, y ∈ usersT L x k → ∃ (j : Nat) (g : Gl), y = (j : Int) ∧ j < k ∧ L[j]? = some g ∧ usedIn g.parts x = true
  | 0, y, h => by simp [usersT] at h
  | k + 1, y, h => by
    rw [usersT] at h
    cases hg : L[k]? with
    | none =>
      rw [hg] at h
      obtain ⟨j, g, h1, h2, h3, h4⟩ := usersT_mem h
      exact ⟨j, g, h1, by omega, h3, h4⟩
    | some g =>
      rw [hg] at h
      simp only at h
      cases hu : usedIn g.parts x with
      | false =>
        rw [hu] at h
        obtain ⟨j, g', h1, h2, h3, h4⟩ := usersT_mem h
        exact ⟨j, g', h1, by omega, h3, h4⟩
      | true =>
        rw [hu, if_pos rfl] at h
        rcases List.mem_append.1 h with h | h
        · obtain ⟨j, g', h1, h2, h3, h4⟩ := usersT_mem h
          exact ⟨j, g', h1, by omega, h3, h4⟩
        · rw [List.mem_singleton] at h
          exact ⟨k, g, h, by omega, hg, hu⟩
theorem gs_user {d : GSet} (h : setOk d = true) {x y : Int} (hy : y ∈ useU d x) : (depR d y).2 = 0 ∧ (depR d x).1 < (depR d y).1 := by
  unfold useU at hy
  split at hy
  · obtain ⟨j, g, rfl, _, hg, hu⟩ := usersT_mem hy
    unfold usedIn at hu
    rw [List.any_eq_true] at hu
    obtain ⟨p, hp, he⟩ := hu
    have he := of_decide_eq_true he
    obtain ⟨h1, _, _, h4⟩ := gs_dep h hg
    have := h4 p hp
    rw [he] at this
    exact ⟨h1, this⟩
  · cases hy
theorem gs_named {d : GSet} (h : setOk d = true) {k : Nat} {g : Gl} (hg : d.gl[k]? = some g) : foundR d (fun b : Gl => decide (b.name = g.name)) = ((k : Int), true) := by
  have hk := (List.getElem?_eq_some_iff.1 hg).1
  have hf : findG d.gl (fun b : Gl => decide (b.name = g.name)) = k := by
    refine findG_hit hg (by simp) fun b hb => ?_
    have h1 := h
    unfold setOk at h1
    simp only [Bool.and_eq_true, decide_eq_true_eq] at h1
    have h2 := range_at h1.1.2 hk
    rw [glAt_eq hg, Bool.and_eq_true] at h2
    have h3 := List.all_eq_true.1 h2.2 b hb
    simp only [Bool.not_eq_true', clash, Bool.or_eq_false_iff, decide_eq_false_iff_not] at h3
    simpa using h3.1
  rw [found_hit h (by rw [hf]; omega), hf]
theorem gs_whole {d : GSet} (h : setOk d = true) {k : Nat} {g : Gl} (hg : d.gl[k]? = some g) : (cntR d (k : Int)).2 = 0 ∧ ((whoR d (k : Int)).2 = 0 → ((whoR d (k : Int)).1.length : Int) = (cntR d (k : Int)).1) ∧ ((whoR d (k : Int)).2 = 5 → 12 < (cntR d (k : Int)).1) := by
  have hk := (List.getElem?_eq_some_iff.1 hg).1
  obtain ⟨t, ht⟩ := gs_place h hk
  have ho := order_ord (tgts d.gl)
  have h0 := gs_ask h hk
  have hall : ∀ (t' : Nat) (y : Int), (order (tgts d.gl))[t']? = some y → ∃ g, d.gl[y.toNat]? = some g := fun t' y hy => by
    have h3 := (ho.rng y (List.mem_of_getElem? hy)).2
    rw [tgts_length] at h3
    exact ⟨_, List.getElem?_eq_getElem h3⟩
  unfold cntR whoR
  rw [if_pos h0, if_pos h0]
  refine ⟨h0, fun h1 => ?_, fun h1 => ?_⟩
  · unfold whoF at h1 ⊢
    split at h1
    · cases h1
    · next h2 =>
      split at h1
      · next h3 =>
        rw [if_neg h2, if_pos h3]
        exact wholeF_len ho t _ ht (hall t _ ht) hall (0, 0) (by omega)
      · cases h1
  · unfold whoF at h1
    split at h1
    · assumption
    · split at h1 <;> cases h1
end Go.Proofs.YtgdkabljgabjoaaGreatDoor

/- The walk of the function that splits a text. Conditions: as it states. -/
namespace Go.Proofs.YtgdkabljgabjoaaGreatDoor
open Go.RowKit
set_option linter.unusedVariables false
set_option maxRecDepth 100000

def splitF (b : UInt8) : List UInt8 → List (List UInt8)
  | [] => [[]]
  | c :: l => if c = b then [] :: splitF b l else match splitF b l with | [] => [[c]] | x :: r => (c :: x) :: r
theorem splitF_ne (b : UInt8) (l : List UInt8) : splitF b l ≠ [] := by
  cases l with
  | nil => simp [splitF]
  | cons c l => rw [splitF]; split
                · simp
                · split <;> simp
theorem splitF_hit (b : UInt8) : ∀ (a l : List UInt8), (∀ c ∈ a, c ≠ b) → splitF b (a ++ b :: l) = a :: splitF b l := by
  intro a
  induction a with
  | nil => intro l _; simp [splitF]
  | cons c a ih =>
    intro l h
    have h1 := ih l (fun c hc => h c (List.mem_cons_of_mem _ hc))
    rw [List.cons_append, splitF, if_neg (h c (by simp)), h1]
theorem splitF_last (b : UInt8) : ∀ a : List UInt8, (∀ c ∈ a, c ≠ b) → splitF b a = [a] := by
  intro a
  induction a with
  | nil => intro _; rfl
  | cons c a ih =>
    intro h
    rw [splitF, if_neg (h c (by simp)), ih (fun c hc => h c (List.mem_cons_of_mem _ hc))]
def strV (xs : List (List UInt8)) : List Value := xs.map fun x => .string ⟨x.toArray⟩
/-- behind i bytes: the pieces P, the next one from f on -/
def SplitTo (s : ByteArray) (b : UInt8) (i f : Nat) (P : List (List UInt8)) : Prop :=
  f ≤ i ∧ i ≤ s.size ∧ P.length ≤ i ∧ splitF b s.data.toList = P ++ splitF b (s.data.toList.drop f) ∧ ∀ c ∈ (s.data.toList.take i).drop f, c ≠ b
theorem SplitTo.start (s : ByteArray) (b : UInt8) : SplitTo s b 0 0 [] := ⟨Nat.le_refl _, Nat.zero_le _, Nat.zero_le _, by simp, by simp⟩
theorem SplitTo.done {s : ByteArray} {b : UInt8} {f : Nat} {P : List (List UInt8)} (h : SplitTo s b s.size f P) : splitF b s.data.toList = P ++ [s.data.toList.drop f] := by
  obtain ⟨h1, h2, h3, h4, h5⟩ := h
  rw [List.take_of_length_le (by simp)] at h5
  rw [h4, splitF_last _ _ h5]

theorem elemStr : Elem Tryz.prog 56 9 1 16 := elem_mk (z := .string ⟨#[]⟩) Tryz.underlying56 (by kernel_rfl) rfl (by omega)
theorem extract_mk (s : ByteArray) (f i : Nat) : s.extract f i = ⟨((s.data.toList.take i).drop f).toArray⟩ := by
  have h : (s.extract f i).data.toList = (s.data.toList.take i).drop f := by simp [ByteArray.data_extract, List.drop_take]
  rw [← h]

end Go.Proofs.YtgdkabljgabjoaaGreatDoor

/- The decimal digits of a number: plain facts. No program in sight. Conditions: none. -/
namespace Go.Proofs.YtgdkabljgabjoaaGreatDoor
open Go.RowKit
set_option linter.unusedVariables false
set_option maxRecDepth 100000

/-- the digits of a number, none of 0 -/
def digsF : Nat → Nat → List UInt8
  | 0, _ => []
  | f + 1, n => if n = 0 then [] else digsF f (n / 10) ++ [UInt8.ofNat (48 + n % 10)]
def digs (n : Nat) : List UInt8 := digsF n n

theorem digsF_enough : ∀ (f g n : Nat), n ≤ f → n ≤ g → digsF f n = digsF g n := by
  intro f
  induction f with
  | zero =>
    intro g n h _
    have : n = 0 := by omega
    subst this
    cases g <;> simp [digsF]
  | succ f ih =>
    intro g n h h'
    cases g with
    | zero =>
      have : n = 0 := by omega
      subst this
      simp [digsF]
    | succ g =>
      simp only [digsF]
      split
      · rfl
      · rw [ih g (n / 10) (by omega) (by omega)]
theorem digs_zero : digs 0 = [] := rfl
theorem digs_step {n : Nat} (h : n ≠ 0) : digs n = digs (n / 10) ++ [UInt8.ofNat (48 + n % 10)] := by
  unfold digs
  cases n with
  | zero => exact absurd rfl h
  | succ n =>
    simp only [digsF, Nat.add_eq_zero_iff, Nat.succ_ne_self, and_false, if_false]
    rw [digsF_enough n ((n + 1) / 10) ((n + 1) / 10) (by omega) (Nat.le_refl _)]
theorem digs_len : ∀ (f n : Nat), n < 10 ^ f → (digs n).length ≤ f := by
  intro f
  induction f with
  | zero => intro n h; have : n = 0 := by simpa using h
            subst this; simp [digs_zero]
  | succ f ih =>
    intro n h
    by_cases h0 : n = 0
    · subst h0; simp [digs_zero]
    · rw [digs_step h0]
      have := ih (n / 10) (by rw [Nat.pow_succ] at h; omega)
      simp; omega
theorem digs_len19 {n : Nat} (h : n ≤ 9223372036854775808) : (digs n).length ≤ 19 := digs_len 19 n (by omega)
theorem digs_ne {n : Nat} (h : n ≠ 0) : digs n ≠ [] := by rw [digs_step h]; simp

/-- the decimal form -/
def dec1 (n : Nat) : List UInt8 := if n = 0 then [48] else digs n
def decL (n : Int) : List UInt8 := (if n < 0 then [45] else []) ++ dec1 n.natAbs
def decS (n : Int) : ByteArray := ⟨(decL n).toArray⟩
theorem dec1_len {n : Nat} (h : n ≤ 9223372036854775808) : (dec1 n).length ≤ 19 := by
  unfold dec1; split
  · simp
  · exact digs_len19 h
theorem decL_len {n : Int} (h1 : -9223372036854775808 ≤ n) (h2 : n ≤ 9223372036854775807) : (decL n).length ≤ 20 := by
  unfold decL
  have := dec1_len (n := n.natAbs) (by omega)
  rw [List.length_append]
  split <;> simp <;> omega

end Go.Proofs.YtgdkabljgabjoaaGreatDoor

/- The texts of points, loops and glyphs: plain facts. Conditions: as each states. -/
namespace Go.Proofs.YtgdkabljgabjoaaGreatDoor
open Go.RowKit
set_option linter.unusedVariables false
set_option maxRecDepth 100000

def ptT (x y : Int) : List UInt8 := decL x ++ ([44] ++ decL y)
def knotT (k : Knot) : List UInt8 := (if k.2.2 = true then [] else [126]) ++ ptT k.1 k.2.1
def loopT (K : List Knot) : List UInt8 := Lib.join (K.map knotT) [32]
def hexD (n : Nat) : UInt8 := UInt8.ofNat (if n < 10 then 48 + n else 87 + n)
def hexT (l : List UInt8) : List UInt8 := l.flatMap fun b => [hexD (b.toNat / 16), hexD (b.toNat % 16)]
def headT (name : List UInt8) (code adv : Int) : List UInt8 := [103, 108, 121, 112, 104, 32] ++ name ++ [32] ++ decL code ++ [32] ++ decL adv ++ [10]
def loopL (K : List Knot) : List UInt8 := [108, 111, 111, 112, 32] ++ loopT K ++ [10]
def partL (p : Part) : List UInt8 := [112, 97, 114, 116, 32] ++ decL p.1 ++ [32] ++ ptT p.2.1 p.2.2 ++ [10]
def anchL (a : Anch) : List UInt8 := [97, 110, 99, 104, 111, 114, 32] ++ a.1.data.toList ++ [32] ++ ptT a.2.1 a.2.2 ++ [10]
def hintL (h : List UInt8) : List UInt8 := if h = [] then [] else [104, 105, 110, 116, 115, 32] ++ hexT h ++ [10]
def glyphT (g : Gl) : List UInt8 := headT g.name.data.toList g.code g.adv ++ g.out.flatMap loopL ++ g.parts.flatMap partL ++ g.anchors.flatMap anchL ++ hintL g.hints.data.toList ++ [101, 110, 100, 10]
def setT (s : GSet) : List UInt8 := [117, 110, 105, 116, 32] ++ decL s.unit ++ [10] ++ s.gl.flatMap glyphT

theorem loopT_one (k : Knot) : loopT [k] = knotT k := by unfold loopT; simp [Lib.join_one]
theorem take_snoc {α : Type} {L : List α} {k : Nat} {a : α} (h : L[k]? = some a) : L.take (k + 1) = L.take k ++ [a] := by
  rw [List.take_add_one, h]; rfl
theorem flat_snoc {α β : Type} (f : α → List β) (L : List α) (a : α) : (L ++ [a]).flatMap f = L.flatMap f ++ f a := by simp
theorem flat_take {α β : Type} (f : α → List β) {L : List α} {k : Nat} {a : α} (h : L[k]? = some a) : (L.take (k + 1)).flatMap f = (L.take k).flatMap f ++ f a := by
  rw [take_snoc h, flat_snoc]

theorem dec1_dig {n : Nat} : ∀ c ∈ dec1 n, 48 ≤ c.toNat ∧ c.toNat ≤ 57 := by
  have go : ∀ f n, ∀ c ∈ digsF f n, 48 ≤ c.toNat ∧ c.toNat ≤ 57 := by
    intro f
    induction f with
    | zero => intro n c hc; simp [digsF] at hc
    | succ f ih =>
      intro n c hc
      unfold digsF at hc
      split at hc
      · simp at hc
      · rcases List.mem_append.1 hc with hc | hc
        · exact ih _ c hc
        · rw [List.mem_singleton] at hc
          subst hc
          have : (UInt8.ofNat (48 + n % 10)).toNat = 48 + n % 10 := by
            rw [UInt8.toNat_ofNat']; omega
          omega
  intro c hc
  unfold dec1 at hc
  split at hc
  · simp at hc; subst hc; decide
  · exact go _ _ c hc
theorem decL_no {n : Int} {b : UInt8} (h1 : b ≠ 45) (h2 : b.toNat < 48 ∨ 57 < b.toNat) : ∀ c ∈ decL n, c ≠ b := by
  intro c hc
  unfold decL at hc
  rcases List.mem_append.1 hc with hc | hc
  · split at hc
    · rw [List.mem_singleton] at hc; subst hc; exact fun e => h1 e.symm
    · simp at hc
  · have := dec1_dig c hc
    intro e; subst e; omega
theorem ptT_no {x y : Int} : ∀ c ∈ ptT x y, c ≠ 10 := by
  intro c hc
  unfold ptT at hc
  simp only [List.mem_append, List.mem_singleton] at hc
  rcases hc with hc | hc | hc
  · exact decL_no (by decide) (.inl (by decide)) c hc
  · subst hc; decide
  · exact decL_no (by decide) (.inl (by decide)) c hc
theorem knotT_no {k : Knot} : ∀ c ∈ knotT k, c ≠ 10 := by
  intro c hc
  unfold knotT at hc
  rcases List.mem_append.1 hc with hc | hc
  · split at hc
    · simp at hc
    · rw [List.mem_singleton] at hc; subst hc; decide
  · exact ptT_no c hc
theorem loopT_no {K : List Knot} : ∀ c ∈ loopT K, c ≠ 10 := by
  intro c hc
  unfold loopT at hc
  cases K with
  | nil => simp [Lib.join_nil] at hc
  | cons k K =>
    rw [List.map_cons, Lib.join_cons] at hc
    rcases List.mem_append.1 hc with hc | hc
    · exact knotT_no c hc
    · unfold Lib.joinTail at hc
      rw [List.mem_flatten] at hc
      obtain ⟨l, hl, hc⟩ := hc
      rw [List.mem_map] at hl
      obtain ⟨y, hy, rfl⟩ := hl
      rw [List.mem_map] at hy
      obtain ⟨k', _, rfl⟩ := hy
      rcases List.mem_append.1 hc with hc | hc
      · rw [List.mem_singleton] at hc; subst hc; decide
      · exact knotT_no c hc
theorem decL_lenP {n : Int} (h : -262144 ≤ n ∧ n ≤ 262144) : (decL n).length ≤ 20 := decL_len (by omega) (by omega)
theorem ptT_len {x y : Int} (h : ptOk x y = true) : (ptT x y).length ≤ 41 := by
  obtain ⟨h1, h2⟩ := ptOk_iff.1 h
  have a := decL_lenP h1
  have b := decL_lenP h2
  unfold ptT; simp; omega
theorem knotT_len {k : Knot} (h : knotOk k = true) : (knotT k).length ≤ 42 := by
  have := ptT_len h
  unfold knotT; split <;> simp <;> omega
theorem tail_len {K : List Knot} (h : ∀ k ∈ K, knotOk k = true) : (Lib.joinTail [32] (K.map knotT)).length ≤ 43 * K.length := by
  induction K with
  | nil => simp [Lib.joinTail]
  | cons k K ih =>
    have a := ih (fun x hx => h x (List.mem_cons_of_mem _ hx))
    have b := knotT_len (h k (List.mem_cons_self ..))
    simp [Lib.joinTail] at a ⊢
    omega
theorem loopT_len {K : List Knot} (h : ∀ k ∈ K, knotOk k = true) : (loopT K).length ≤ 43 * K.length := by
  cases K with
  | nil => simp [loopT, Lib.join_nil]
  | cons k K =>
    have a := tail_len (fun x hx => h x (List.mem_cons_of_mem _ hx))
    have b := knotT_len (h k (List.mem_cons_self ..))
    unfold loopT
    rw [List.map_cons, Lib.join_cons]
    simp at a ⊢
    omega
theorem flat_len {α : Type} (f : α → List UInt8) (B : Nat) : ∀ (L : List α), (∀ a ∈ L, (f a).length ≤ B) → (L.flatMap f).length ≤ B * L.length := by
  intro L
  induction L with
  | nil => simp
  | cons a L ih =>
    intro h
    have h1 := ih (fun x hx => h x (List.mem_cons_of_mem _ hx))
    have h2 := h a (List.mem_cons_self ..)
    rw [List.flatMap_cons, List.length_append, List.length_cons, Nat.mul_add]
    omega
theorem loopOk_is {K : List Knot} (h : loopOk K = true) : K.length ≤ 60 ∧ 1 ≤ K.length ∧ ∀ k ∈ K, knotOk k = true := by
  unfold loopOk at h
  simp only [Bool.and_eq_true, inB_iff, List.all_eq_true] at h
  exact ⟨by omega, by omega, h.2⟩
theorem outOk_is {Ls : List (List Knot)} (h : outOk Ls = true) : Ls.length ≤ 12 ∧ ∀ K ∈ Ls, loopOk K = true := by
  unfold outOk at h
  simp only [Bool.and_eq_true, decide_eq_true_eq, List.all_eq_true] at h
  exact ⟨h.2, h.1⟩
theorem loopT_max {K : List Knot} (h : loopOk K = true) : (loopT K).length ≤ 2580 := by
  obtain ⟨h1, _, h3⟩ := loopOk_is h
  have := loopT_len h3
  omega
end Go.Proofs.YtgdkabljgabjoaaGreatDoor

/- The lines and words of a glyph's text: plain facts. Conditions: as each states. -/
namespace Go.Proofs.YtgdkabljgabjoaaGreatDoor
set_option linter.unusedVariables false
set_option maxRecDepth 100000

def headW (nm : List UInt8) (c a : Int) : List UInt8 := [103, 108, 121, 112, 104, 32] ++ nm ++ [32] ++ decL c ++ [32] ++ decL a
def loopW (K : List Knot) : List UInt8 := [108, 111, 111, 112, 32] ++ loopT K
def partW (p : Part) : List UInt8 := [112, 97, 114, 116, 32] ++ decL p.1 ++ [32] ++ ptT p.2.1 p.2.2
def anchW (a : Anch) : List UInt8 := [97, 110, 99, 104, 111, 114, 32] ++ a.1.data.toList ++ [32] ++ ptT a.2.1 a.2.2
def hintW (h : List UInt8) : List (List UInt8) := if h = [] then [] else [[104, 105, 110, 116, 115, 32] ++ hexT h]
def endW : List UInt8 := [101, 110, 100]
def glLines (g : Gl) : List (List UInt8) := headW g.name.data.toList g.code g.adv :: (g.out.map loopW ++ (g.parts.map partW ++ (g.anchors.map anchW ++ (hintW g.hints.data.toList ++ [endW]))))
def endl (l : List UInt8) : List UInt8 := l ++ [10]
theorem glyphT_lines (g : Gl) : glyphT g = (glLines g).flatMap endl := by
  have h1 : ∀ L : List (List Knot), L.flatMap loopL = (L.map loopW).flatMap endl := fun L => by
    rw [List.flatMap_map]; rfl
  have h2 : ∀ L : List Part, L.flatMap partL = (L.map partW).flatMap endl := fun L => by
    rw [List.flatMap_map]; congr 1
  have h3 : ∀ L : List Anch, L.flatMap anchL = (L.map anchW).flatMap endl := fun L => by
    rw [List.flatMap_map]; congr 1
  have h4 : ∀ h : List UInt8, hintL h = (hintW h).flatMap endl := fun h => by
    unfold hintL hintW
    split
    · rfl
    · simp [endl]
  unfold glyphT glLines
  rw [h1, h2, h3, h4]
  simp [headT, headW, endl, endW]
theorem split_lines (L : List (List UInt8)) (h : ∀ l ∈ L, ∀ c ∈ l, c ≠ 10) : splitF 10 (L.flatMap endl) = L ++ [[]] := by
  induction L with
  | nil => exact splitF_last 10 [] (by simp)
  | cons l L ih =>
    have e : (l :: L).flatMap endl = l ++ 10 :: L.flatMap endl := by simp [endl]
    rw [e, splitF_hit 10 _ _ (h l (by simp)), ih fun l' hl' => h l' (by simp [hl'])]
    rfl
theorem rest_noB {c : UInt8} (h : restB c = true) : c ≠ 10 ∧ c ≠ 32 ∧ c ≠ 44 := by
  refine ⟨?_, ?_, ?_⟩ <;> (intro e; subst e; revert h; decide)
theorem name_no {s : ByteArray} (h : nameB s = true) : ∀ c ∈ s.data.toList, c ≠ 10 ∧ c ≠ 32 ∧ c ≠ 44 := by
  unfold nameB at h
  rw [Bool.and_eq_true] at h
  exact fun c hc => rest_noB (List.all_eq_true.1 h.2 c hc)
theorem decL_no10 {n : Int} : ∀ c ∈ decL n, c ≠ 10 := decL_no (by decide) (.inl (by decide))
theorem decL_no32 {n : Int} : ∀ c ∈ decL n, c ≠ 32 := decL_no (by decide) (.inl (by decide))
theorem decL_no44 {n : Int} : ∀ c ∈ decL n, c ≠ 44 := decL_no (by decide) (.inl (by decide))
theorem ptT_no32 {x y : Int} : ∀ c ∈ ptT x y, c ≠ 32 := by
  intro c hc
  unfold ptT at hc
  simp only [List.mem_append, List.mem_singleton] at hc
  rcases hc with hc | hc | hc
  · exact decL_no32 c hc
  · subst hc; decide
  · exact decL_no32 c hc
theorem knotT_no32 {k : Knot} : ∀ c ∈ knotT k, c ≠ 32 := by
  intro c hc
  unfold knotT at hc
  rcases List.mem_append.1 hc with hc | hc
  · split at hc
    · simp at hc
    · rw [List.mem_singleton] at hc; subst hc; decide
  · exact ptT_no32 c hc
theorem hexD_no {n : Nat} (h : n < 16) : hexD n ≠ 10 ∧ hexD n ≠ 32 := by
  have : ∀ n : Fin 16, hexD n.val ≠ 10 ∧ hexD n.val ≠ 32 := by decide
  exact this ⟨n, h⟩
theorem hexT_no {l : List UInt8} : ∀ c ∈ hexT l, c ≠ 10 ∧ c ≠ 32 := by
  intro c hc
  unfold hexT at hc
  rw [List.mem_flatMap] at hc
  obtain ⟨b, _, hc⟩ := hc
  have hb := b.toNat_lt
  simp only [List.mem_cons, List.not_mem_nil, or_false] at hc
  rcases hc with rfl | rfl
  · exact hexD_no (by omega)
  · exact hexD_no (by omega)
theorem glLines_no {g : Gl} (h1 : nameB g.name = true) (h2 : ∀ a ∈ g.anchors, nameB a.1 = true) : ∀ l ∈ glLines g, ∀ c ∈ l, c ≠ 10 := by
  intro l hl c hc
  simp only [glLines, List.mem_cons, List.mem_append, List.mem_map, List.not_mem_nil, or_false] at hl
  rcases hl with rfl | ⟨K, _, rfl⟩ | ⟨p, _, rfl⟩ | ⟨a, ha, rfl⟩ | hl | rfl
  · simp only [headW, List.mem_append] at hc
    rcases hc with ((((hc | hc) | hc) | hc) | hc) | hc
    · revert hc c; decide
    · exact (name_no h1 c hc).1
    · revert hc c; decide
    · exact decL_no10 c hc
    · revert hc c; decide
    · exact decL_no10 c hc
  · simp only [loopW, List.mem_append] at hc
    rcases hc with hc | hc
    · revert hc c; decide
    · exact loopT_no c hc
  · simp only [partW, List.mem_append] at hc
    rcases hc with ((hc | hc) | hc) | hc
    · revert hc c; decide
    · exact decL_no10 c hc
    · revert hc c; decide
    · exact ptT_no c hc
  · simp only [anchW, List.mem_append] at hc
    rcases hc with ((hc | hc) | hc) | hc
    · revert hc c; decide
    · exact (name_no (h2 a ha) c hc).1
    · revert hc c; decide
    · exact ptT_no c hc
  · unfold hintW at hl
    split at hl
    · simp at hl
    · rw [List.mem_singleton] at hl
      subst hl
      rw [List.mem_append] at hc
      rcases hc with hc | hc
      · revert hc c; decide
      · exact (hexT_no c hc).1
  · revert hc c; decide
/-! ### the words of the lines -/
theorem words_head {nm : List UInt8} {c a : Int} (h : ∀ b ∈ nm, b ≠ 32) : splitF 32 (nm ++ [32] ++ decL c ++ [32] ++ decL a) = [nm, decL c, decL a] := by
  have e : nm ++ [32] ++ decL c ++ [32] ++ decL a = nm ++ 32 :: (decL c ++ 32 :: decL a) := by simp
  rw [e, splitF_hit 32 _ _ h, splitF_hit 32 _ _ decL_no32, splitF_last 32 _ decL_no32]
theorem words_two {x y : List UInt8} (hx : ∀ b ∈ x, b ≠ 32) (hy : ∀ b ∈ y, b ≠ 32) : splitF 32 (x ++ [32] ++ y) = [x, y] := by
  have e : x ++ [32] ++ y = x ++ 32 :: y := by simp
  rw [e, splitF_hit 32 _ _ hx, splitF_last 32 _ hy]
theorem words_loop : ∀ (K : List Knot), K ≠ [] → splitF 32 (loopT K) = K.map knotT := by
  intro K hK
  cases K with
  | nil => exact absurd rfl hK
  | cons k K =>
    clear hK
    induction K generalizing k with
    | nil => rw [loopT_one, splitF_last 32 _ knotT_no32]; rfl
    | cons k2 K ih =>
      have e : loopT (k :: k2 :: K) = knotT k ++ 32 :: loopT (k2 :: K) := by
        unfold loopT
        simp [Lib.join_cons, Lib.joinTail]
      rw [e, splitF_hit 32 _ _ knotT_no32, ih k2]
      rfl
/-! ### points -/
/-! ### digits -/
def hexV (c : UInt8) : Int := if 48 ≤ c.toNat ∧ c.toNat ≤ 57 then (c.toNat : Int) - 48 else if 97 ≤ c.toNat ∧ c.toNat ≤ 102 then (c.toNat : Int) - 87 else -1
theorem hexV_bd (c : UInt8) : -1 ≤ hexV c ∧ hexV c < 16 := by unfold hexV; split <;> (try split) <;> omega
theorem hexV_D {n : Nat} (h : n < 16) : hexV (hexD n) = n := by
  have : ∀ n : Fin 16, hexV (hexD n.val) = n.val := by decide
  exact this ⟨n, h⟩
theorem hexT_at {l : List UInt8} {k : Nat} {b : UInt8} (h : l[k]? = some b) : (hexT l)[2 * k]? = some (hexD (b.toNat / 16)) ∧ (hexT l)[2 * k + 1]? = some (hexD (b.toNat % 16)) := by
  induction l generalizing k with
  | nil => simp at h
  | cons a l ih =>
    have e : hexT (a :: l) = hexD (a.toNat / 16) :: hexD (a.toNat % 16) :: hexT l := by unfold hexT; simp
    rw [e]
    cases k with
    | zero => simp at h; subst h; exact ⟨rfl, rfl⟩
    | succ k =>
      simp at h
      have := ih h
      rw [show 2 * (k + 1) = 2 * k + 1 + 1 by omega]
      simpa using this
end Go.Proofs.YtgdkabljgabjoaaGreatDoor

/- The source of draws: a block that holds the code, the place and the seed. Conditions: as each states. -/
namespace Go.Proofs.YtgdkabljgabjoaaGreatDoor
open Go.RowKit
set_option linter.unusedVariables false
set_option maxRecDepth 100000

/-- a byte's cell -/
def u8R : Rel Int := AndR (FlatR fun v : Int => [.int .u8 v]) fun v => 0 ≤ v ∧ v ≤ 255
theorem good_u8 : Good u8R := good_and (good_flat _) _
theorem opens_u8 : Opens Tryz.prog 5 u8R := by
  intro H enc w fuel cs x h
  obtain ⟨n, rfl, _, hw⟩ := DataW.trod_int Tryz.underlying5 h
  refine ⟨n, rfl, ?_⟩
  have e1 : IntKind.u8.min = 0 := rfl
  have e2 : IntKind.u8.max = 255 := rfl
  simp [Lit.wf, e1, e2] at hw
  show 0 ≤ n ∧ n ≤ 255
  omega
/-- block b is a source: its code, its place k, its seed -/
def SrcR (w : World) (b : Nat) (A : Option Addr) (n c k : Nat) (seed : Int) : Prop := w.heap[b]? = some (.cells #[.slice A n c, .int .i64 (k : Int), .int .u64 seed] 147 (0, 0))
theorem SrcR.lt {w : World} {b : Nat} {A : Option Addr} {n c k : Nat} {seed : Int} (h : SrcR w b A n c k seed) : b < w.heap.size := (Array.getElem?_eq_some_iff.1 h).1
theorem SrcR.c0 {w : World} {b : Nat} {A : Option Addr} {n c k : Nat} {seed : Int} (h : SrcR w b A n c k seed) : w.cell? ⟨b, 0, none⟩ = some (.slice A n c) := by rw [Go.Joins.cell_of_block h]; rfl
theorem SrcR.c1 {w : World} {b : Nat} {A : Option Addr} {n c k : Nat} {seed : Int} (h : SrcR w b A n c k seed) : w.cell? ⟨b, 1, none⟩ = some (.int .i64 k) := by rw [Go.Joins.cell_of_block h]; rfl
theorem SrcR.c2 {w : World} {b : Nat} {A : Option Addr} {n c k : Nat} {seed : Int} (h : SrcR w b A n c k seed) : w.cell? ⟨b, 2, none⟩ = some (.int .u64 seed) := by rw [Go.Joins.cell_of_block h]; rfl
theorem SrcR.fz {w : World} {b : Nat} {A : Option Addr} {n c k : Nat} {seed : Int} (h : SrcR w b A n c k seed) (o : Nat) : w.frozen? ⟨b, o, none⟩ = false := Go.Joins.unfrozen_of_block h o
theorem SrcR.keep {w w' : World} {b : Nat} {A : Option Addr} {n c k : Nat} {seed : Int} (h : SrcR w b A n c k seed) (hk : w'.heap[b]? = w.heap[b]?) : SrcR w' b A n c k seed := hk.trans h
theorem SrcR.drewN {w : World} {b : Nat} {A : Option Addr} {n c k : Nat} {seed : Int} (h : SrcR w b A n c k seed) (q : Nat) : SrcR (w.drewN q) b A n c k seed := h
theorem SrcR.set {w : World} {b : Nat} {A : Option Addr} {n c k : Nat} {seed : Int} (h : SrcR w b A n c k seed) (k' : Nat) (seed' : Int) : SrcR ((w.setCell ⟨b, 1, none⟩ (.int .i64 (k' : Int))).setCell ⟨b, 2, none⟩ (.int .u64 seed')) b A n c k' seed' :=
  Go.Joins.block_setCell (Go.Joins.block_setCell h (.int .i64 (k' : Int))) (.int .u64 seed')

theorem u8_at {w : World} {lo hi n : Nat} {A : Option Addr} {L : List Int} (h : RdS 1 u8R w lo hi A n L) {j : Nat} (hj : j < n) : ∃ b off v, A = some ⟨b, off, none⟩ ∧ lo ≤ b ∧ b < hi ∧ 0 ≤ v ∧ v ≤ 255 ∧ w.cell? ⟨b, off + j, none⟩ = some (.int .u8 v) := by
  obtain ⟨h1, h2⟩ := RdS.parted (R := FlatR fun v : Int => [.int .u8 v]) (p := fun v => 0 ≤ v ∧ v ≤ 255) h
  obtain ⟨b, off, v, rfl, hb0, hb1, hja, hcs⟩ := h1.at hj
  have h3 := h2 v (List.mem_of_getElem? hja)
  exact ⟨b, off, v, rfl, hb0, hb1, h3.1, h3.2, by have := hcs 0 _ rfl; simpa using this⟩

theorem u64_wrap_bd (n : Int) : 0 ≤ IntKind.u64.wrap n ∧ IntKind.u64.wrap n < 2 ^ 64 := by rw [IntKind.wrap_u64]; omega
theorem byte_of {sd : Int} (h : 0 ≤ sd ∧ sd < 2 ^ 64) : 0 ≤ wrap64 (bits BinOp.and IntKind.u64 (sd / 1099511627776) 255) ∧ wrap64 (bits BinOp.and IntKind.u64 (sd / 1099511627776) 255) ≤ 255 := by
  have e := bits_mask .u64 64 (by decide) (fun n h0 h1 => by rw [IntKind.wrap_u64]; omega) 8 (by omega) (sd / 1099511627776) (by omega) (by omega)
  have e2 : (2 : Int) ^ 8 - 1 = 255 := by decide
  rw [e2] at e
  rw [e]
  have e3 : (2 : Int) ^ 8 = 256 := by decide
  rw [e3]
  have hb : 0 ≤ sd / 1099511627776 % 256 ∧ sd / 1099511627776 % 256 ≤ 255 := by omega
  rw [IntWalk.wrap64_in _ (by omega)]
  exact hb
theorem grown_setA {w W : World} {b : Nat} (h : w.grownBy W (some b)) (o : Nat) (u : Value) : w.grownBy (W.setCell ⟨b, o, none⟩ u) (some b) :=
  ⟨h.os, h.tape, h.output, by simpa using h.size, fun i hi hn => (Below.heap_setCell W ⟨b, o, none⟩ u i (fun e => hn (by rw [e]))).trans (h.block i hi hn)⟩
theorem grown_drewA {w W : World} {row : Option Nat} (h : w.grownBy W row) (q : Nat) : w.grownBy (W.drewN q) row := ⟨h.os, h.tape, h.output, h.size, h.block⟩
set_option maxHeartbeats 1000000 in
theorem next_any (b : Nat) (A : Option Addr) (n c k lo hi : Nat) (seed : Int) (L : List Int) (w : World) (hs : SrcR w b A n c k seed) (hr : RdS 1 u8R w lo hi A n L) (hn : n ≤ 1000000000) (hk : k ≤ 1000000000) :
    Calls Tryz.prog 130 #[.pointer (some ⟨b, 0, none⟩)] w fun e w' => ∃ (x seed' : Int), e = .returned (.int .i64 x) ∧ 0 ≤ x ∧ x ≤ 255 ∧ SrcR w' b A n c (k + 1) seed' ∧ w.grownBy w' (some b) := by
  have c0 := hs.c0
  have c1 := hs.c1
  have c2 := hs.c2
  have f1 := hs.fz 1
  have f2 := hs.fz 2
  have hb := hs.lt
  replace hs := Lib.hid hs
  by_cases hlt : k < n
  · obtain ⟨b1, o1, v, rfl, _, hbw, hv0, hv1, q0⟩ := u8_at hr hlt
    clear hr
    have hb1 := cell_lt q0
    simp only at hb1
    have hki : decide ((k : Int) < (n : Int)) = true := by simp; omega
    have hkj : decide ((k : Int) + 1 ≤ (n : Int)) = true := by simp; omega
    have hkb : (0 : Int) ≤ (k : Int) ∧ (k : Int) < (n : Int) := by omega
    go_enter Tryz.func130, Tryz.ntmps130
    go_wp2_with fail
    go_quiet (fail)
    go_wp2_with fail
    obtain ⟨nq1, hq1⟩ : ∃ m, m = nq := ⟨_, rfl⟩
    subst hq1
    go_quiet (fail)
    go_wp2_with fail
    generalize hsd : IntKind.u64.wrap (IntKind.u64.wrap (IntKind.u64.wrap (seed * 6364136223846793005) + v) + 1442695040888963407) = sd
    clear hsd
    have hs2 := Lib.hid ((hs.out.drewN (nq1 + nq)).set (k + 1) sd)
    go_quiet (fail)
    go_wp2_with fail
    go_ret
    exact ⟨v, sd, rfl, hv0, hv1, hs2.out, by repeat (first | exact World.grownBy.refl _ _ | refine grown_setA ?_ _ _ | refine grown_drewA ?_ _)⟩
  · clear hr
    have hki : decide ((k : Int) < (n : Int)) = false := by simp; omega
    have hkj : decide ((k : Int) + 1 ≤ (n : Int)) = false := by simp; omega
    go_enter Tryz.func130, Tryz.ntmps130
    go_wp2_with fail
    go_quiet (fail)
    go_wp2_with fail
    have hx := u64_wrap_bd (IntKind.u64.wrap (IntKind.u64.wrap (seed * 6364136223846793005)) + 1442695040888963407)
    generalize hsd : IntKind.u64.wrap (IntKind.u64.wrap (IntKind.u64.wrap (seed * 6364136223846793005)) + 1442695040888963407) = sd at hx
    clear hsd
    replace hx := Lib.hid (byte_of hx)
    have hs2 := Lib.hid ((hs.out.drewN nq).set (k + 1) sd)
    go_quiet (fail)
    go_wp2_with fail
    go_ret
    exact ⟨_, sd, rfl, hx.out.1, hx.out.2, hs2.out, by repeat (first | exact World.grownBy.refl _ _ | refine grown_setA ?_ _ _ | refine grown_drewA ?_ _)⟩
/-- block b is a source whose place is k -/
def Src0 (w : World) (b k : Nat) : Prop := ∃ (A : Option Addr) (n c lo hi : Nat) (seed : Int) (L : List Int), SrcR w b A n c k seed ∧ RdS 1 u8R w lo hi A n L ∧ hi ≤ b ∧ n ≤ 1000000000
theorem Src0.lt {w : World} {b k : Nat} (h : Src0 w b k) : b < w.heap.size := by obtain ⟨_, _, _, _, _, _, _, h, _⟩ := h; exact h.lt
theorem Src0.kept {w w' : World} {b k B : Nat} (h : Src0 w b k) (hb : Below B w w') (hB : b < B) : Src0 w' b k := by
  obtain ⟨A, n, c, lo, hi, seed, L, h1, h2, h3, h4⟩ := h
  exact ⟨A, n, c, lo, hi, seed, L, h1.keep (hb.block b hB), h2.frame good_u8 (Below.sameB hb (by omega)), h3, h4⟩
theorem Src0.drew {w : World} {b k : Nat} (h : Src0 w b k) : Src0 w.drew b k := h
theorem nextS_any (b k : Nat) (w : World) (hs : Src0 w b k) (hk : k ≤ 1000000000) :
    Calls Tryz.prog 130 #[.pointer (some ⟨b, 0, none⟩)] w fun e w' => ∃ x : Int, e = .returned (.int .i64 x) ∧ 0 ≤ x ∧ x ≤ 255 ∧ Src0 w' b (k + 1) ∧ w.grownBy w' (some b) := by
  obtain ⟨A, n, c, lo, hi, seed, L, h1, h2, h3, h4⟩ := hs
  refine (next_any b A n c k lo hi seed L w h1 h2 h4 hk).mono ?_
  rintro e w' ⟨x, seed', rfl, hx0, hx1, hs', hg⟩
  exact ⟨x, rfl, hx0, hx1, ⟨A, n, c, lo, hi, seed', L, hs', h2.frame good_u8 (fun i h5 h6 => hg.block i (by have := h1.lt; omega) (by intro e; injection e with e; omega)), h3, h4⟩, hg⟩
theorem grown_tr {a b c : World} {row : Option Nat} (h : a.grownBy b row) (k : b.grownBy c row) : a.grownBy c row :=
  ⟨k.os.trans h.os, k.tape.trans h.tape, k.output.trans h.output, Nat.le_trans h.size k.size, fun i hi hn => (k.block i (Nat.lt_of_lt_of_le hi h.size) hn).trans (h.block i hi hn)⟩
theorem grown_of {W w' : World} (hb : Below W.heap.size W w') (row : Option Nat) : W.grownBy w' row := ⟨hb.os, hb.tape, hb.output, hb.size, fun k hk _ => hb.block k hk⟩

set_option maxHeartbeats 1000000 in
theorem pick_any (b k : Nat) (m : Int) (w : World) (hs : Src0 w b k) (hk : k ≤ 999999990) :
    Calls Tryz.prog 97 #[.pointer (some ⟨b, 0, none⟩), .int .i64 m] w fun e w' => ∃ (r : Int) (k' : Nat), e = .returned (.int .i64 r) ∧ 0 ≤ r ∧ (1 < m → r < m) ∧ (m ≤ 1 → r = 0) ∧ Src0 w' b k' ∧ k' ≤ k + 2 ∧ w.grownBy w' (some b) := by
  have hs0 := Lib.hid hs
  have hc := Lib.hid (nextS_any b k w hs (by omega))
  clear hs
  by_cases h1 : m ≤ 1
  · go_enter Tryz.func97, Tryz.ntmps97
    go_wp2_with fail
    go_ret
    exact ⟨0, k, rfl, by omega, by omega, fun _ => rfl, hs0.out, by omega, World.grownBy.refl _ _⟩
  by_cases h2 : 200 < m
  · go_enter Tryz.func97, Tryz.ntmps97
    go_wp2_with fail
    refine hc.out.mono ?_
    rintro e w1 ⟨x, rfl, hx0, hx1, hs1, hg1⟩
    have hc1 := Lib.hid (nextS_any b (k + 1) w1 hs1 (by omega))
    clear hs1 hc
    go_wp2_with fail
    refine hc1.out.mono ?_
    rintro e w2 ⟨y, rfl, hy0, hy1, hs2, hg2⟩
    replace hs2 := Lib.hid hs2
    go_wp2_with fail
    go_ret
    have hy := Int.emod_nonneg (x * 256 + y) (show m ≠ 0 by omega)
    have hz := Int.emod_lt_of_pos (x * 256 + y) (show 0 < m by omega)
    exact ⟨_, _, rfl, by omega, fun _ => by omega, by omega, hs2.out, by omega, grown_tr hg1 hg2⟩
  · go_enter Tryz.func97, Tryz.ntmps97
    go_wp2_with fail
    refine hc.out.mono ?_
    rintro e w1 ⟨x, rfl, hx0, hx1, hs1, hg1⟩
    replace hs1 := Lib.hid hs1
    go_wp2_with fail
    go_ret
    have hy := Int.emod_nonneg x (show m ≠ 0 by omega)
    have hz := Int.emod_lt_of_pos x (show 0 < m by omega)
    exact ⟨_, _, rfl, by omega, fun _ => by omega, by omega, hs1.out, by omega, hg1⟩

theorem one_any (b k : Nat) (m : Int) (w : World) (hs : Src0 w b k) (hk : k ≤ 999999990) :
    Calls Tryz.prog 131 #[.pointer (some ⟨b, 0, none⟩), .int .i64 m] w fun e w' => ∃ (r : Bool) (k' : Nat), e = .returned (.bool r) ∧ Src0 w' b k' ∧ k' ≤ k + 2 ∧ w.grownBy w' (some b) := by
  have hc := Lib.hid (pick_any b k m w hs hk)
  clear hs
  go_enter Tryz.func131, Tryz.ntmps131
  go_wp2_with fail
  refine hc.out.mono ?_
  rintro e w1 ⟨r, k', rfl, _, _, _, hs1, hk1, hg1⟩
  replace hs1 := Lib.hid hs1
  go_wp2_with fail
  go_ret
  exact ⟨_, k', rfl, hs1.out, hk1, hg1⟩

set_option maxHeartbeats 1000000 in
theorem among_any (b k : Nat) (A : Option Addr) (n c lo hi : Nat) (L : List Int) (w : World) (hs : Src0 w b k) (hk : k ≤ 999999990) (hr : RdS 1 (FlatR intC) w lo hi A n L) (hb : b < lo ∨ hi ≤ b) (hhi : hi ≤ w.heap.size) (hn : 1 ≤ n) (hn' : n ≤ 1000000) :
    Calls Tryz.prog 96 #[.pointer (some ⟨b, 0, none⟩), .slice A n c] w fun e w' => ∃ (r : Int) (k' : Nat), e = .returned (.int .i64 r) ∧ r ∈ L ∧ Src0 w' b k' ∧ k' ≤ k + 2 ∧ w.grownBy w' (some b) := by
  have hc := Lib.hid (pick_any b k n w hs hk)
  have hbl := hs.lt
  clear hs
  obtain ⟨b0, o0, _, rfl, hb0, hb1, _, _⟩ := hr.at (j := 0) (by omega)
  replace hr := Lib.hid hr
  go_enter Tryz.func96, Tryz.ntmps96
  go_wp2_with fail
  refine hc.out.mono ?_
  rintro e w1 ⟨r, k', rfl, h0, h1, h2, hs1, hk1, hg1⟩
  have hz1 := hg1.size
  obtain ⟨m, rfl⟩ : ∃ m : Nat, r = m := ⟨r.toNat, by omega⟩
  have hmn : m < n := by
    rcases Nat.lt_or_ge 1 n with h | h
    · have := h1 (by omega); omega
    · have := h2 (by omega); omega
  obtain ⟨b2, o2, v, hA, _, hbw, hja, hcs⟩ := (hr.out.frame (good_flat _) (grown_sameB hg1 hhi hb)).at hmn
  injection hA with hA
  injection hA with hA1 hA2
  subst hA1 hA2
  have q0 := hcs 0 _ rfl
  simp only [Nat.mul_one, Nat.add_zero] at q0
  have hmk : (0 : Int) ≤ (m : Int) ∧ (m : Int) < (n : Int) := by omega
  have hbw' : b0 < w1.heap.size := by omega
  replace hja := Lib.hid hja
  replace hs1 := Lib.hid hs1
  clear hcs h1 h2
  go_wp2_with fail
  go_ret
  exact ⟨v, k', rfl, List.mem_of_getElem? hja.out, hs1.out, hk1, hg1⟩

set_option maxHeartbeats 1000000 in
theorem l03Coord_any (b k : Nat) (m : Int) (w : World) (hs : Src0 w b k) (hk : k ≤ 999999900) (hm0 : 0 ≤ m) (hm1 : m ≤ 1000000000) :
    Calls Tryz.prog 153 #[.pointer (some ⟨b, 0, none⟩), .int .i64 m] w fun e w' => ∃ (r : Int) (k' : Nat), e = .returned (.int .i64 r) ∧ -m ≤ r ∧ r ≤ m ∧ Src0 w' b k' ∧ k' ≤ k + 5 ∧ w.grownBy w' (some b) := by
  have hc := Lib.hid (nextS_any b k w hs (by omega))
  clear hs
  go_enter Tryz.func153, Tryz.ntmps153
  go_wp2_with fail
  refine hc.out.mono ?_
  rintro e w1 ⟨x, rfl, hx0, hx1, hs1, hg1⟩
  have hc1 := Lib.hid (nextS_any b (k + 1) w1 hs1 (by omega))
  clear hs1 hc
  go_wp2_with fail
  refine hc1.out.mono ?_
  rintro e w2 ⟨y, rfl, hy0, hy1, hs2, hg2⟩
  have hc2 := Lib.hid (nextS_any b (k + 1 + 1) w2 hs2 (by omega))
  replace hg2 := grown_tr hg1 hg2
  clear hs2 hc1 hg1
  go_wp2_with fail
  refine hc2.out.mono ?_
  rintro e w3 ⟨z, rfl, hz0, hz1, hs3, hg3⟩
  have hc3 := Lib.hid (one_any b (k + 1 + 1 + 1) 2 w3 hs3 (by omega))
  replace hg3 := grown_tr hg2 hg3
  clear hs3 hc2 hg2
  have hv0 := Int.emod_nonneg (x * 65536 + y * 256 + z) (show m + 1 ≠ 0 by omega)
  have hv1 := Int.emod_lt_of_pos (x * 65536 + y * 256 + z) (show 0 < m + 1 by omega)
  go_wp2_with fail
  refine hc3.out.mono ?_
  rintro e w4 ⟨t, k', rfl, hs4, hk4, hg4⟩
  replace hg4 := grown_tr hg3 hg4
  replace hs4 := Lib.hid hs4
  clear hc3 hg3
  generalize (x * 65536 + y * 256 + z) % (m + 1) = v at *
  cases t
  · go_wp2_with fail
    go_ret
    exact ⟨_, k', rfl, by omega, by omega, hs4.out, by omega, hg4⟩
  · go_wp2_with fail
    go_ret
    exact ⟨_, k', rfl, by omega, by omega, hs4.out, by omega, hg4⟩
end Go.Proofs.YtgdkabljgabjoaaGreatDoor

