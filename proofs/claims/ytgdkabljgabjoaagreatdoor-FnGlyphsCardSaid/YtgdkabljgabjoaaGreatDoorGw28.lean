/- A glyph that is being read: its box and its rows. Conditions: as each states. -/
import Derived.Deep.RegionHeld3
import Derived.Test.YtgdkabljgabjoaaGreatDoorGw27
import Derived.Test.YtgdkabljgabjoaaGreatDoorGw24
import Derived.Test.YtgdkabljgabjoaaGreatDoorGw21
import Derived.Test.YtgdkabljgabjoaaGreatDoorGw05
namespace Go.Proofs.YtgdkabljgabjoaaGreatDoor
open Go.RowKit
set_option linter.unusedVariables false
set_option maxRecDepth 100000

def nilH0 : GlH := ⟨⟨none, 0, 0⟩, ⟨none, 0, 0⟩, ⟨none, 0, 0⟩⟩
/-- a glyph in the making: its box is Y, its rows lie from lo on -/
structure MkG (W : World) (Y lo : Nat) (d : Gl) (h : GlH) : Prop where
  yl : Y < lo
  yb : Y < W.heap.size
  box : W.heap[Y]? = some (.cells (glC d h).toArray 28 (0, 0))
  o : ∃ ys, OutTo W lo h.out.A h.out.n h.out.c ys d.out
  on : d.out.length = h.out.n
  p : W.ownsRow lo 106 3 (.slice h.parts.A h.parts.n h.parts.c) h.parts.n (d.parts.flatMap partC)
  pn : d.parts.length = h.parts.n
  a : W.ownsRow lo 117 3 (.slice h.anchors.A h.anchors.n h.anchors.c) h.anchors.n (d.anchors.flatMap anchC)
  an : d.anchors.length = h.anchors.n
theorem MkG.start {W : World} {Y lo : Nat} {nm hn : ByteArray} {c v : Int} (hY : Y < lo) (hb : W.heap[Y]? = some (.cells #[.string nm, .int .i64 c, .int .i64 v, .slice none 0 0, .slice none 0 0, .slice none 0 0, .string hn] 28 (0, 0))) : MkG W Y lo ⟨nm, c, v, [], [], [], hn⟩ nilH0 :=
  ⟨hY, (Array.getElem?_eq_some_iff.1 hb).1, hb, ⟨[], World.ownsRow_nil _ _ _ _, fun j K hj => absurd hj (Nat.not_lt_zero j), fun i j u v _ hu => by simp at hu⟩, rfl, World.ownsRow_nil _ _ _ _, rfl, World.ownsRow_nil _ _ _ _, rfl⟩
theorem mg_ownS {w w' : World} {lo e size n : Nat} {v : Value} {xs : List Value} (h : w.ownsRow lo e size v n xs) (hs : ∀ g, lo ≤ g → g < w.heap.size → w'.heap[g]? = w.heap[g]?) : w'.ownsRow lo e size v n xs :=
  own_same h fun g hg => hs g (h.lt g hg).1 (h.lt g hg).2
theorem mg_outS {w w' : World} {lo k co : Nat} {A : Option Addr} {ys : List Value} {Ls : List (List Knot)} (h : OutTo w lo A k co ys Ls) (hs : ∀ g, lo ≤ g → g < w.heap.size → w'.heap[g]? = w.heap[g]?) : OutTo w' lo A k co ys Ls :=
  ⟨mg_ownS h.1 hs, fun j K hj hK => by obtain ⟨Aj, cj, h1, h2⟩ := h.2.1 j K hj hK; exact ⟨Aj, cj, h1, mg_ownS h2 hs⟩, h.2.2⟩
theorem MkG.same {W W' : World} {Y lo : Nat} {d : Gl} {h : GlH} (r : MkG W Y lo d h) (hs : ∀ g, g = Y ∨ lo ≤ g → g < W.heap.size → W'.heap[g]? = W.heap[g]?) (hz : W.heap.size ≤ W'.heap.size) : MkG W' Y lo d h := by
  obtain ⟨ys, ho⟩ := r.o
  exact ⟨r.yl, Nat.lt_of_lt_of_le r.yb hz, (hs Y (.inl rfl) r.yb).trans r.box, ⟨ys, mg_outS ho fun g h1 h2 => hs g (.inr h1) h2⟩, r.on, mg_ownS r.p fun g h1 h2 => hs g (.inr h1) h2, r.pn, mg_ownS r.a fun g h1 h2 => hs g (.inr h1) h2, r.an⟩
theorem MkG.below {W W' : World} {Y lo : Nat} {d : Gl} {h : GlH} (r : MkG W Y lo d h) (hb : Below W.heap.size W W') : MkG W' Y lo d h :=
  r.same (fun g _ hg => hb.block g hg) hb.size
theorem mg_ownK {w w' : World} {lo e size n lo2 e2 size2 n2 : Nat} {v v2 : Value} {xs xs2 : List Value} (h : w.ownsRow lo e size v n xs) (h2 : w.ownsRow lo2 e2 size2 v2 n2 xs2) (he : e ≠ e2) (hg : w.grownBy w' v2.ownBlock) : w'.ownsRow lo e size v n xs :=
  own_same h fun g hg' => hg.block g (h.lt g hg').2 fun e => own_ne_kind h h2 he hg' e.symm
theorem mg_outK {w w' : World} {lo k co lo2 e2 size2 n2 : Nat} {A : Option Addr} {ys : List Value} {Ls : List (List Knot)} {v2 : Value} {xs2 : List Value} (h : OutTo w lo A k co ys Ls) (h2 : w.ownsRow lo2 e2 size2 v2 n2 xs2) (he : 113 ≠ e2) (he2 : 152 ≠ e2) (hg : w.grownBy w' v2.ownBlock) : OutTo w' lo A k co ys Ls :=
  ⟨mg_ownK h.1 h2 he hg, fun j K hj hK => by obtain ⟨Aj, cj, k1, k2⟩ := h.2.1 j K hj hK; exact ⟨Aj, cj, k1, mg_ownK k2 h2 he2 hg⟩, h.2.2⟩
theorem MkG.base {W W' : World} {Y lo lo' e size n : Nat} {d : Gl} {h : GlH} {v : Value} {xs : List Value} (r : MkG W Y lo d h) (hr : W.ownsRow lo' e size v n xs) (hlo : Y < lo') (hg : W.grownBy W' v.ownBlock) : W'.heap[Y]? = W.heap[Y]? :=
  hg.block Y r.yb fun e => by have := (hr.lt _ e.symm).1; omega
theorem MkG.part {W W' : World} {Y lo c' : Nat} {A' : Option Addr} {d : Gl} {h : GlH} {p : Part} (r : MkG W Y lo d h) (hg : W.grownBy W' (Value.slice h.parts.A h.parts.n h.parts.c).ownBlock) (ho : W'.ownsRow lo 106 3 (.slice A' (h.parts.n + 1) c') (h.parts.n + 1) (d.parts.flatMap partC ++ partC p)) :
    MkG (W'.setCell ⟨Y, 4, none⟩ (.slice A' (h.parts.n + 1) c')) Y lo ⟨d.name, d.code, d.adv, d.out, d.parts ++ [p], d.anchors, d.hints⟩ ⟨h.out, ⟨A', h.parts.n + 1, c'⟩, h.anchors⟩ := by
  have b4 := r.base r.p r.yl hg
  obtain ⟨ys, hys⟩ := r.o
  have hy := r.yl
  refine ⟨hy, by have := hg.size; have := r.yb; simp; omega, Go.Joins.block_setCell (b4.trans r.box) _, ⟨ys, (mg_outK hys r.p (by decide) (by decide) hg).set hy _⟩, r.on, ?_, by simp [r.pn], ownsRow_setCell_below (mg_ownK r.a r.p (by decide) hg) hy _, r.an⟩
  show (W'.setCell _ _).ownsRow _ _ _ _ _ ((d.parts ++ [p]).flatMap partC)
  rw [List.flatMap_append]
  exact ownsRow_setCell_below (by simpa using ho) hy _
theorem MkG.anch {W W' : World} {Y lo c' : Nat} {A' : Option Addr} {d : Gl} {h : GlH} {p : Anch} (r : MkG W Y lo d h) (hg : W.grownBy W' (Value.slice h.anchors.A h.anchors.n h.anchors.c).ownBlock) (ho : W'.ownsRow lo 117 3 (.slice A' (h.anchors.n + 1) c') (h.anchors.n + 1) (d.anchors.flatMap anchC ++ anchC p)) :
    MkG (W'.setCell ⟨Y, 5, none⟩ (.slice A' (h.anchors.n + 1) c')) Y lo ⟨d.name, d.code, d.adv, d.out, d.parts, d.anchors ++ [p], d.hints⟩ ⟨h.out, h.parts, ⟨A', h.anchors.n + 1, c'⟩⟩ := by
  have b4 := r.base r.a r.yl hg
  obtain ⟨ys, hys⟩ := r.o
  have hy := r.yl
  refine ⟨hy, by have := hg.size; have := r.yb; simp; omega, Go.Joins.block_setCell (b4.trans r.box) _, ⟨ys, (mg_outK hys r.a (by decide) (by decide) hg).set hy _⟩, r.on, ownsRow_setCell_below (mg_ownK r.p r.a (by decide) hg) hy _, r.pn, ?_, by simp [r.an]⟩
  show (W'.setCell _ _).ownsRow _ _ _ _ _ ((d.anchors ++ [p]).flatMap anchC)
  rw [List.flatMap_append]
  exact ownsRow_setCell_below (by simpa using ho) hy _
theorem OutTo.nextM {w w1 w2 : World} {lo B k co c2 cc : Nat} {Ao A2 A3 : Option Addr} {ys : List Value} {Ls : List (List Knot)} {K : List Knot} (h : OutTo w lo Ao k co ys Ls) (hl : Ls.length = k)
    (hs : SameB lo w.heap.size w w1) (hz : w.heap.size ≤ w1.heap.size) (hr : w1.ownsRow B 152 3 (.slice A2 K.length c2) K.length (K.flatMap knotC)) (hB : w.heap.size ≤ B) (hlo : lo ≤ w.heap.size)
    (ho : w2.ownsRow lo 113 1 (.slice A3 (k + 1) cc) (k + 1) (ys ++ [.slice A2 K.length c2])) (hg : w1.grownBy w2 (Value.slice Ao k co).ownBlock) : OutTo w2 lo A3 (k + 1) cc (ys ++ [.slice A2 K.length c2]) (Ls ++ [K]) := by
  obtain ⟨h1, h2, h3⟩ := h
  have up : ∀ {e size n : Nat} {v : Value} {xs : List Value}, w.ownsRow lo e size v n xs → w1.ownsRow lo e size v n xs := fun hv => own_same hv fun g hg => hs g (hv.lt g hg).1 (hv.lt g hg).2
  have h1' := up h1
  have hyl := h1.1
  rw [Nat.mul_one] at hyl
  have hne : ∀ {g : Nat} {v : Value} {n : Nat} {xs : List Value} {B' : Nat}, w1.ownsRow B' 152 3 v n xs → v.ownBlock = some g → w2.heap[g]? = w1.heap[g]? := fun {g v n xs B'} hv hg' =>
    hg.block g (hv.lt g hg').2 fun e => own_ne_kind hv h1' (by decide) hg' e.symm
  refine ⟨ho, fun j K' hj hK' => ?_, fun i j u v hij hu hv => ?_⟩
  · by_cases hjk : j = k
    · subst hjk
      rw [List.getElem?_append_right (by omega), hl, Nat.sub_self] at hK'
      simp at hK'
      subst hK'
      exact ⟨A2, c2, by rw [List.getElem?_append_right (by omega), hyl]; simp, own_lower (own_same hr fun g hg' => hne hr hg') (by omega)⟩
    · rw [List.getElem?_append_left (by omega)] at hK'
      obtain ⟨Aj, cj, h4, h5⟩ := h2 j K' (by omega) hK'
      exact ⟨Aj, cj, by rw [List.getElem?_append_left (by omega)]; exact h4, own_same (up h5) fun g hg' => hne (up h5) hg'⟩
  · have hold : ∀ (j : Nat) (v : Value), j < k → ys[j]? = some v → ∀ g, v.ownBlock = some g → g < w.heap.size := fun j v hj hv g hg' => by
      obtain ⟨Aj, cj, h4, h5⟩ := h2 j _ hj (List.getElem?_eq_getElem (by omega))
      rw [hv] at h4
      injection h4 with h4
      subst h4
      exact (h5.lt g hg').2
    have hil := (List.getElem?_eq_some_iff.1 hu).1
    have hjl := (List.getElem?_eq_some_iff.1 hv).1
    simp at hil hjl
    by_cases hik : i < k
    · rw [List.getElem?_append_left (by omega)] at hu
      by_cases hjk : j < k
      · rw [List.getElem?_append_left (by omega)] at hv
        exact h3 i j u v hij hu hv
      · obtain rfl : j = k := by omega
        rw [List.getElem?_append_right (by omega), hyl] at hv
        simp at hv
        subst hv
        intro g hgu hgv
        have := hold i u hik hu g hgu
        have := (hr.lt g hgv).1
        omega
    · obtain rfl : i = k := by omega
      rw [List.getElem?_append_right (by omega), hyl] at hu
      rw [List.getElem?_append_left (by omega)] at hv
      simp at hu
      subst hu
      intro g hgu hgv
      have := hold j v (by omega) hv g hgv
      have := (hr.lt g hgu).1
      omega
theorem MkG.loop {W W1 W' : World} {Y lo B c2 c' : Nat} {A2 A' : Option Addr} {d : Gl} {h : GlH} {K : List Knot} {ys : List Value} (r : MkG W Y lo d h) (hys : OutTo W lo h.out.A h.out.n h.out.c ys d.out) (hs1 : ∀ g, g = Y ∨ lo ≤ g → g < W.heap.size → W1.heap[g]? = W.heap[g]?) (hz1 : W.heap.size ≤ W1.heap.size) (hr : W1.ownsRow B 152 3 (.slice A2 K.length c2) K.length (K.flatMap knotC)) (hB : W.heap.size ≤ B) (hlo : lo ≤ W.heap.size)
    (hg : W1.grownBy W' (Value.slice h.out.A h.out.n h.out.c).ownBlock) (ho : W'.ownsRow lo 113 1 (.slice A' (h.out.n + 1) c') (h.out.n + 1) (ys ++ [.slice A2 K.length c2])) :
    MkG (W'.setCell ⟨Y, 3, none⟩ (.slice A' (h.out.n + 1) c')) Y lo ⟨d.name, d.code, d.adv, d.out ++ [K], d.parts, d.anchors, d.hints⟩ ⟨⟨A', h.out.n + 1, c'⟩, h.parts, h.anchors⟩ := by
  have r1 := r.same hs1 hz1
  have hro := mg_ownS hys.1 fun g h1 h2 => hs1 g (.inr h1) h2
  have b4 := r1.base hro r1.yl hg
  have hy := r.yl
  have hnx := OutTo.nextM hys r.on (fun g h1 h2 => hs1 g (.inr h1) h2) hz1 hr hB hlo ho hg
  exact ⟨hy, by have := hg.size; have := r1.yb; simp; omega, Go.Joins.block_setCell (b4.trans r1.box) _, ⟨_, hnx.set hy _⟩, by simp [r.on], ownsRow_setCell_below (mg_ownK r1.p hro (by decide) hg) hy _, r.pn, ownsRow_setCell_below (mg_ownK r1.a hro (by decide) hg) hy _, r.an⟩
/-- a store into the glyph's own cells -/
theorem MkG.cell {W : World} {Y lo i : Nat} {d d' : Gl} {h : GlH} {u : Value} (r : MkG W Y lo d h) (hc : (glC d h).toArray.set! i u = (glC d' h).toArray) (ho : d'.out = d.out) (hp : d'.parts = d.parts) (ha : d'.anchors = d.anchors) : MkG (W.setCell ⟨Y, i, none⟩ u) Y lo d' h := by
  obtain ⟨ys, hys⟩ := r.o
  have hy := r.yl
  refine ⟨hy, by simp; exact r.yb, ?_, ⟨ys, by rw [ho]; exact hys.set hy _⟩, by rw [ho]; exact r.on, by rw [hp]; exact ownsRow_setCell_below r.p hy _, by rw [hp]; exact r.pn, by rw [ha]; exact ownsRow_setCell_below r.a hy _, by rw [ha]; exact r.an⟩
  have := Go.Joins.block_setCell r.box (i := i) u
  rw [← hc]
  exact this
theorem MkG.cells {W : World} {Y lo : Nat} {d : Gl} {h : GlH} (r : MkG W Y lo d h) {i : Nat} {u : Value} (hu : (glC d h)[i]? = some u) : W.cell? ⟨Y, i, none⟩ = some u := by
  rw [Go.Joins.cell_of_block r.box]
  simpa using hu
theorem MkG.glx {W : World} {Y lo : Nat} {d : Gl} {h : GlH} (r : MkG W Y lo d h) : GlX W lo W.heap.size d h := by
  obtain ⟨ys, h1, h2, h3⟩ := r.o
  exact ⟨OutOwn.in ⟨ys, r.on, h1, fun j K hj => h2 j K (by have := (List.getElem?_eq_some_iff.1 hj).1; have := r.on; omega) hj, h3⟩, r.p, r.pn, fun g hg => (r.p.lt g hg).2, r.a, r.an, fun g hg => (r.a.lt g hg).2, own_nc r.a⟩
end Go.Proofs.YtgdkabljgabjoaaGreatDoor

/- A loop's text read, the reference's side. Conditions: as each states. -/
namespace Go.Proofs.YtgdkabljgabjoaaGreatDoor
open Go.RowKit
set_option linter.unusedVariables false
set_option maxRecDepth 100000
set_option maxRecDepth 100000

theorem splitF_len (b : UInt8) : ∀ l : List UInt8, (splitF b l).length ≤ l.length + 1
  | [] => by simp [splitF]
  | c :: l => by
    have ih := splitF_len b l
    rw [splitF]
    split
    · simp; omega
    · split
      · simp
      · next x r h => rw [h] at ih; simp at ih ⊢; omega
theorem splitF_mem (b : UInt8) : ∀ (l : List UInt8), ∀ a ∈ splitF b l, a.length ≤ l.length
  | [], a, h => by simp [splitF] at h; subst h; simp
  | c :: l, a, h => by
    have ih := splitF_mem b l
    rw [splitF] at h
    split at h
    · rcases List.mem_cons.1 h with rfl | h
      · simp
      · have := ih a h; simp; omega
    · split at h
      · next e => exact absurd e (splitF_ne b l)
      · next x r e =>
        rw [e] at ih
        rcases List.mem_cons.1 h with rfl | h
        · have := ih x (by simp); simp; omega
        · have := ih a (by simp [h]); simp; omega
theorem line_word {s : ByteArray} {ws : List (List UInt8)} {K0 : List Knot} {i : Nat} {l : List UInt8} (hws : ws = splitF 32 s.data.toList) (h0 : K0 ≠ []) (hs : s.data.toList = loopT K0) (hl : ws[i]? = some l) : ∃ k, K0[i]? = some k ∧ knotT k = l ∧ k ∈ K0 := by
  rw [hws, hs, words_loop K0 h0, List.getElem?_map] at hl
  cases hk : K0[i]? with
  | none => rw [hk] at hl; cases hl
  | some k => rw [hk] at hl; injection hl with hl; exact ⟨k, rfl, hl, List.mem_of_getElem? hk⟩
theorem line_take {K K0 : List Knot} {i : Nat} {k : Knot} (h : K = K0.take i) (hk : K0[i]? = some k) : K ++ [k] = K0.take (i + 1) := by
  rw [List.take_add_one, hk, h]; rfl
end Go.Proofs.YtgdkabljgabjoaaGreatDoor

