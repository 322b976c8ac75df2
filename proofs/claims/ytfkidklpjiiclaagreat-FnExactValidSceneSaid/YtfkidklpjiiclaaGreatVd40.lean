/- slices.SortFunc and slices.Reverse at points. Conditions: as each states. -/
import Derived.Shelf.SlSortCmp.NoneTotal
import Derived.Shelf.SlSortCmp.WholeK
import Derived.Shelf.SlicesQ.Reverse
import Derived.Shelf.SlLaysF0
import Derived.Shelf.SlLaysE0
import Derived.Ground.SlsfProg
import Derived.Ground.SlgnProg
import Derived.Ground.NamesProg
import Derived.Lib.OwnBridge
import Derived.Lib.AppendIntMem
import Derived.Lib.SliceRun
import Derived.Test.YtfkidklpjiiclaaGreatVd24
namespace Go.Proofs.YtfkidklpjiiclaaGreat
open Go.RowKit Go.Shelf Go.Lib Go.Sort Go.Proofs
set_option linter.unusedVariables false
set_option maxRecDepth 100000

def Tryz.sortPt_ren : Go.Shelf.Ren := ⟨fun | 6 => 125 | 15 => 163 | 14 => 162 | 28 => 189 | 29 => 190 | 20 => 181 | 21 => 182 | 22 => 183 | 23 => 184 | 24 => 185 | 25 => 186 | 26 => 187 | 27 => 188 | 46 => 200 | 47 => 201 | 48 => 202 | 49 => 203 | 50 => 204 | 57 => 207 | n => n, fun | 22 => 85 | 24 => 148 | 25 => 225 | 3 => 3 | 39 => 262 | 0 => 0 | 53 => 287 | 55 => 246 | 4 => 4 | 46 => 281 | 45 => 280 | 50 => 143 | 5 => 5 | 9 => 9 | 66 => 299 | 70 => 303 | 76 => 307 | 77 => 308 | n => n, fun | n => n⟩
theorem Tryz.sortPt : Go.Proofs.SlLaysF0.n6 Tryz.prog Tryz.sortPt_ren := {
  mixed := by kernel_rfl
  f6 := ⟨Tryz.f125.name, by decide, Tryz.func125.trans (congrArg some (by kernel_rfl))⟩
  f14 := ⟨Tryz.f162.name, by decide, Tryz.func162.trans (congrArg some (by kernel_rfl))⟩
  f15 := Tryz.func163.trans (congrArg some (by kernel_rfl))
  f20 := ⟨Tryz.f181.name, by decide, Tryz.func181.trans (congrArg some (by kernel_rfl))⟩
  f21 := ⟨Tryz.f182.name, by decide, Tryz.func182.trans (congrArg some (by kernel_rfl))⟩
  f22 := ⟨Tryz.f183.name, by decide, Tryz.func183.trans (congrArg some (by kernel_rfl))⟩
  f23 := ⟨Tryz.f184.name, by decide, Tryz.func184.trans (congrArg some (by kernel_rfl))⟩
  f24 := ⟨Tryz.f185.name, by decide, Tryz.func185.trans (congrArg some (by kernel_rfl))⟩
  f25 := ⟨Tryz.f186.name, by decide, Tryz.func186.trans (congrArg some (by kernel_rfl))⟩
  f26 := ⟨Tryz.f187.name, by decide, Tryz.func187.trans (congrArg some (by kernel_rfl))⟩
  f27 := ⟨Tryz.f188.name, by decide, Tryz.func188.trans (congrArg some (by kernel_rfl))⟩
  f28 := Tryz.func189.trans (congrArg some (by kernel_rfl))
  f29 := Tryz.func190.trans (congrArg some (by kernel_rfl))
  f46 := ⟨Tryz.f200.name, by decide, Tryz.func200.trans (congrArg some (by kernel_rfl))⟩
  f47 := Tryz.func201.trans (congrArg some (by kernel_rfl))
  f48 := Tryz.func202.trans (congrArg some (by kernel_rfl))
  f49 := ⟨Tryz.f203.name, by decide, Tryz.func203.trans (congrArg some (by kernel_rfl))⟩
  f50 := ⟨Tryz.f204.name, by decide, Tryz.func204.trans (congrArg some (by kernel_rfl))⟩
  f57 := ⟨Tryz.f207.name, by decide, Tryz.func207.trans (congrArg some (by kernel_rfl))⟩
  t0 := Tryz.underlying0
  a0 := Tryz.isAgg0
  z0 := Tryz.sizeOf0
  v0 := Tryz.zeroValue0
  t3 := Tryz.underlying3
  a3 := Tryz.isAgg3
  z3 := Tryz.sizeOf3
  v3 := Tryz.zeroValue3
  t4 := Tryz.underlying4
  a4 := Tryz.isAgg4
  z4 := Tryz.sizeOf4
  v4 := Tryz.zeroValue4
  t5 := Tryz.underlying5
  a5 := Tryz.isAgg5
  z5 := Tryz.sizeOf5
  v5 := Tryz.zeroValue5
  t9 := Tryz.underlying9
  a9 := Tryz.isAgg9
  z9 := Tryz.sizeOf9
  v9 := Tryz.zeroValue9
  t22 := Tryz.underlying85
  a22 := Tryz.isAgg85
  z22 := Tryz.sizeOf85
  v22 := Tryz.zeroValue85
  t25 := Tryz.underlying225
  a25 := Tryz.isAgg225
  z25 := Tryz.sizeOf225
  v25 := Tryz.zeroValue225
  t39 := Tryz.underlying262
  a39 := Tryz.isAgg262
  z39 := Tryz.sizeOf262
  v39 := Tryz.zeroValue262
  t45 := Tryz.underlying280
  a45 := Tryz.isAgg280
  z45 := Tryz.sizeOf280
  v45 := Tryz.zeroValue280
  t46 := Tryz.underlying281
  a46 := Tryz.isAgg281
  z46 := Tryz.sizeOf281
  v46 := Tryz.zeroValue281
  t50 := Tryz.underlying143
  a50 := Tryz.isAgg143
  z50 := Tryz.sizeOf143
  v50 := Tryz.zeroValue143
  t53 := Tryz.underlying287
  a53 := Tryz.isAgg287
  z53 := Tryz.sizeOf287
  v53 := Tryz.zeroValue287
  t55 := Tryz.underlying246
  a55 := Tryz.isAgg246
  z55 := Tryz.sizeOf246
  v55 := Tryz.zeroValue246
  t66 := Tryz.underlying299
  a66 := Tryz.isAgg299
  z66 := Tryz.sizeOf299
  v66 := Tryz.zeroValue299
  t70 := Tryz.underlying303
  a70 := Tryz.isAgg303
  z70 := Tryz.sizeOf303
  v70 := Tryz.zeroValue303
  t76 := Tryz.underlying307
  a76 := Tryz.isAgg307
  z76 := Tryz.sizeOf307
  v76 := Tryz.zeroValue307
  t77 := Tryz.underlying308
  a77 := Tryz.isAgg308
  z77 := Tryz.sizeOf308
  v77 := Tryz.zeroValue308 }
def Tryz.revPt_ren : Go.Shelf.Ren := ⟨fun | 35 => 130 | n => n, fun | 22 => 85 | 23 => 148 | 3 => 3 | 4 => 4 | 0 => 0 | n => n, fun | n => n⟩
theorem Tryz.revPt : Go.Proofs.SlLaysE0.n35 Tryz.prog Tryz.revPt_ren := {
  mixed := by kernel_rfl
  f35 := ⟨Tryz.f130.name, by decide, Tryz.func130.trans (congrArg some (by kernel_rfl))⟩
  t0 := Tryz.underlying0
  a0 := Tryz.isAgg0
  z0 := Tryz.sizeOf0
  v0 := Tryz.zeroValue0
  t3 := Tryz.underlying3
  a3 := Tryz.isAgg3
  z3 := Tryz.sizeOf3
  v3 := Tryz.zeroValue3
  t4 := Tryz.underlying4
  a4 := Tryz.isAgg4
  z4 := Tryz.sizeOf4
  v4 := Tryz.zeroValue4
  t22 := Tryz.underlying85
  a22 := Tryz.isAgg85
  z22 := Tryz.sizeOf85
  v22 := Tryz.zeroValue85 }

theorem own_put2 {w : World} {base : Nat} {e : TypeId} {g n cap q : Nat} {xs : List Value} {F : Array Value} (h : w.ownsRow base e 2 (.slice (some ⟨g, 0, none⟩) n cap) n xs) (hF : F.size = n * 2) :
    (putRow id (Sort.ahead w q) g 0 F).ownsRow base e 2 (.slice (some ⟨g, 0, none⟩) n cap) n F.toList := by
  rcases h.2 with ⟨e0, _⟩ | ⟨g', cap', cur, e0, hb, hg, hn, hm, hs, ht⟩
  · cases e0
  · injection e0 with e1 _ e3
    injection e1 with e1
    injection e1 with e1
    subst e1; subst e3
    refine ⟨by simp [hF], .inr ⟨g, cap, putCells id 0 F cur, rfl, hb, ?_, by omega, hm, by simpa [putCells] using hs, ?_⟩⟩
    · simp [putRow, mapBlock, Sort.ahead, Array.getElem?_modify, hg, onCells]
    · apply List.ext_getElem?
      intro j
      rw [List.getElem?_take, Array.getElem?_toList, Array.getElem?_toList]
      by_cases hj : j < n * 2
      · have hjc : j < cur.size := by omega
        simp only [if_pos hj, putCells, Array.getElem?_mapIdx, Array.getElem?_eq_getElem hjc, Option.map_some]
        rw [if_pos (by omega), Array.getElem?_eq_getElem (by omega)]
        simp [getElem!_pos, show j < F.size by omega]
      · rw [if_neg hj, Array.getElem?_eq_none (by omega)]
theorem flatK_list {α : Type} [Inhabited α] (enc : α → List Value) (henc : ∀ a, (enc a).length = 2) (d : Array α) : (flatK enc 2 d).toList = d.toList.flatMap enc := by
  apply List.ext_getElem?
  intro j
  by_cases hj : j < d.size * 2
  · have hq : j / 2 < d.size := by omega
    have h2 := flat_get henc d.toList (j / 2) d[j / 2] (j % 2) (by rw [Array.getElem?_toList, Array.getElem?_eq_getElem hq]) (by omega)
    rw [show j / 2 * 2 + j % 2 = j by omega] at h2
    rw [h2, Array.getElem?_toList, Array.getElem?_eq_getElem (by simp; omega)]
    have h3 := get_flatK enc 2 d j hj
    rw [getElem!_pos _ j (by simp; omega)] at h3
    rw [h3, getElem!_pos d (j / 2) hq]
    rw [List.getElem?_eq_getElem (by rw [henc]; omega), getElem!_pos]
  · rw [List.getElem?_eq_none (by simp; omega), List.getElem?_eq_none (by rw [flat_length henc]; simp; omega)]
theorem holds_own2 {w : World} {base : Nat} {e : TypeId} {g n cap : Nat} {α : Type} [Inhabited α] (enc : α → List Value) (henc : ∀ a, (enc a).length = 2) (d : Array α) (hd : d.size = n) (h : w.ownsRow base e 2 (.slice (some ⟨g, 0, none⟩) n cap) n (d.toList.flatMap enc)) : HoldsK enc 2 w g 0 d := by
  intro j hj
  rw [size_flatK, hd] at hj
  have h1 := h.cellAt j hj
  refine ⟨?_, by rw [Nat.zero_add]; exact h.frozenAt j⟩
  rw [Nat.zero_add, h1, ← flatK_list enc henc, Array.getElem?_toList, Array.getElem?_eq_getElem (by simp; omega)]
  rw [getElem!_pos _ j (by simp; omega)]
  rfl
/-- points within bounds -/
abbrev OkP := {p : Pn // pt2Ok p = true}
instance : Inhabited OkP := ⟨⟨(0, 0), rfl⟩⟩
def encO (p : OkP) : List Value := ptC p.1
theorem encO_len (p : OkP) : (encO p).length = 2 := rfl
theorem encO_one (x : OkP) : ∀ v ∈ encO x, v.oneCell' = true := ptc_one' x.1
def cfO (x y : OkP) : Int := cmpYX x.1 y.1
theorem ltO (x y : OkP) : ltOf cfO x y = befB x.1 y.1 := by
  unfold ltOf cfO
  rw [Bool.eq_iff_iff, decide_eq_true_iff]
  exact cmp_neg_iff x.1 y.1
theorem swoO : SWO (ltOf cfO) where
  irrefl x := by rw [ltO]; exact bef_irr _
  trans x y z h1 h2 := by rw [ltO] at *; exact bef_trans h1 h2
  ntrans x y z h1 h2 := by
    rw [ltO] at *
    cases h : befB x.1 z.1
    · rfl
    · rw [bef_iff] at h
      have h3 : ¬ befB x.1 y.1 = true := by rw [h1]; simp
      have h4 : ¬ befB y.1 z.1 = true := by rw [h2]; simp
      rw [bef_iff] at h3 h4
      omega
end Go.Proofs.YtfkidklpjiiclaaGreat

/- slices.SortFunc and slices.Reverse at points, joined. Conditions: as each states. -/
namespace Go.Proofs.YtfkidklpjiiclaaGreat
open Go.RowKit Go.Shelf Go.Lib Go.Sort Go.Proofs
set_option linter.unusedVariables false
set_option maxRecDepth 100000

theorem cmpLaysO (blk off size : Nat) (w : World) : CmpLays Tryz.prog 126 #[] encO 2 cfO blk off size w := fun m os dk hs x y => by
  obtain ⟨⟨x0, x1⟩, hx⟩ := x
  obtain ⟨⟨y0, y1⟩, hy⟩ := y
  exact compareYX_any x0 x1 y0 y1 hx hy _
theorem flat_val (d : List OkP) : d.flatMap encO = (d.map Subtype.val).flatMap ptC := by
  rw [List.flatMap_map]; rfl
theorem below_row2 {B : Nat} {w : World} {g q : Nat} {F : Array Value} {os : Array Obj} (hg : B ≤ g) (hB : B ≤ w.heap.size) : Below B w (grow (putRow id (Sort.ahead w q) g 0 F) os) := by
  have h1 : Below B w (putRow id (Sort.ahead w q) g 0 F) := Go.Lib.below_putRow (Below.refl B w) hg
  refine h1.trans ⟨rfl, rfl, rfl, ?_, fun k hk => ?_⟩
  · simp [grow]
  · have := h1.size
    simp only [grow]
    rw [Array.getElem?_append, if_pos (by have h2 : w.heap.size = (putRow id (Sort.ahead w q) g 0 F).heap.size := by simp [putRow, mapBlock, Sort.ahead]
                                          omega)]
theorem sortPt_any (g n cap B : Nat) (L : List Pn) (w : World) (ho : w.ownsRow B 148 2 (.slice (some ⟨g, 0, none⟩) n cap) n (L.flatMap ptC)) (hl : L.length = n) (hn : n ≤ 1000000) (hok : ∀ p ∈ L, pt2Ok p = true) :
    Calls Tryz.prog 125 #[.slice (some ⟨g, 0, none⟩) n cap, .func (.func 126) #[] #[]] w fun e w' => e = .returned (.tuple #[]) ∧ ∃ M : List Pn, M.Perm L ∧ WRis M ∧ w'.ownsRow B 148 2 (.slice (some ⟨g, 0, none⟩) n cap) n (M.flatMap ptC) ∧ Below B w w' := by
  obtain ⟨hgB, hgl⟩ := ho.lt g rfl
  obtain ⟨D, hD⟩ : ∃ D : List OkP, D.map Subtype.val = L := ⟨L.attachWith _ hok, by simp; exact List.attach_map_subtype_val L⟩
  have hDl : D.length = n := by rw [← hl, ← hD, List.length_map]
  have hH : HoldsK encO 2 w g 0 D.toArray := holds_own2 encO encO_len D.toArray (by simpa using hDl) (by rw [show D.toArray.toList = D by simp, flat_val, hD]; exact ho)
  have eg : ∀ args w, (callFunc 126 args).run Tryz.prog w = .ok (.enter 126 args) w := enters_of Tryz.func126 (by kernel_rfl) rfl
  have hcon := AnyQ.slices_SortFunc_total Tryz.sortPt 2 Tryz.isAgg148 Tryz.sizeOf148 encO encO_len encO_one cfO swoO 126 #[] g 0 cap D.toArray w eg (cmpLaysO g 0 _ w) hH hgl (by simp [hDl]; omega) (fun x y h1 h2 => by
    rw [ltO] at h1 h2
    rcases bef_tri x.1 y.1 with e | e | e
    · rw [e] at h1; cases h1
    · exact Subtype.ext e
    · rw [e] at h2; cases h2)
  rw [show D.toArray.size = n by simpa using hDl] at hcon
  change Calls Tryz.prog 125 _ _ _ at hcon
  refine hcon.mono ?_
  rintro e w' ⟨rfl, q, os, rfl⟩
  refine ⟨rfl, ((D.mergeSort fun x y => !(ltOf cfO) y x).map Subtype.val), ?_, ?_, ?_, ?_⟩
  · rw [← hD]; exact (List.mergeSort_perm D _).map _
  · have h1 := List.pairwise_mergeSort (le := fun x y : OkP => !(ltOf cfO) y x) (fun a b c h1 h2 => by
      simp only [ltO, Bool.not_eq_true'] at h1 h2 ⊢
      cases h : befB c.1 a.1
      · rfl
      · exfalso
        rw [bef_iff] at h
        have h3 : ¬ befB b.1 a.1 = true := by rw [h1]; simp
        have h4 : ¬ befB c.1 b.1 = true := by rw [h2]; simp
        rw [bef_iff] at h3 h4
        omega) (fun a b => by
      simp only [ltO]
      cases h : befB b.1 a.1
      · rfl
      · rw [bef_asymm h]; rfl) D
    rw [WRis, List.pairwise_map]
    refine h1.imp fun {a b} h => ?_
    simpa [ltO] using h
  · have h1 := own_put2 (q := q) ho (F := flatK encO 2 (D.mergeSort fun x y => !(ltOf cfO) y x).toArray) (by simp [hDl])
    rw [flatK_list encO encO_len, show (D.mergeSort fun x y => !(ltOf cfO) y x).toArray.toList = (D.mergeSort fun x y => !(ltOf cfO) y x) by simp, flat_val] at h1
    have h2 := ownsRow_grow h1 0 os
    exact h2
  · exact below_row2 hgB (by omega)
end Go.Proofs.YtfkidklpjiiclaaGreat

/- slices.Compact at points. Conditions: as each states. -/
namespace Go.Proofs.YtfkidklpjiiclaaGreat
open Go.RowKit
set_option linter.unusedVariables false
set_option maxRecDepth 100000

theorem own_cut {w : World} {B : Nat} {e : TypeId} {g n cap k : Nat} {ys : List Value} (h : w.ownsRow B e 2 (.slice (some ⟨g, 0, none⟩) n cap) n ys) (hk : k ≤ n) : w.ownsRow B e 2 (.slice (some ⟨g, 0, none⟩) k cap) k (ys.take (k * 2)) := by
  obtain ⟨hl, h2⟩ := h
  rcases h2 with ⟨h0, _⟩ | ⟨g', cap', cur, hv, hg, hh, hn, hcap, hsz, htake⟩
  · cases h0
  · injection hv with e1 _ e3
    injection e1 with e1
    injection e1 with e1
    subst e1; subst e3
    refine ⟨by rw [List.length_take]; omega, .inr ⟨g, cap, cur, rfl, hg, hh, by omega, hcap, hsz, ?_⟩⟩
    rw [← htake, List.take_take, Nat.min_eq_left (by omega)]
theorem own_past {w : World} {B : Nat} {e : TypeId} {g k cap o : Nat} {ys : List Value} (h : w.ownsRow B e 2 (.slice (some ⟨g, 0, none⟩) k cap) k ys) (ho : k * 2 ≤ o) (u : Value) : (w.setCell ⟨g, o, none⟩ u).ownsRow B e 2 (.slice (some ⟨g, 0, none⟩) k cap) k ys := by
  obtain ⟨hl, h2⟩ := h
  rcases h2 with ⟨h0, _⟩ | ⟨g', cap', cur, hv, hg, hh, hn, hcap, hsz, htake⟩
  · cases h0
  · injection hv with e1 _ e3
    injection e1 with e1
    injection e1 with e1
    subst e1; subst e3
    refine ⟨hl, .inr ⟨g, cap, cur.setIfInBounds o u, rfl, hg, Go.Joins.block_setCell hh u, hn, hcap, by simpa using hsz, ?_⟩⟩
    rw [← htake]
    apply List.ext_getElem?
    intro j
    rw [List.getElem?_take, List.getElem?_take]
    split
    · rw [Array.getElem?_toList, Array.getElem?_toList, Array.getElem?_setIfInBounds_ne (by omega)]
    · rfl
theorem own_pasts {B : Nat} {e : TypeId} {g k cap : Nat} {ys : List Value} : ∀ (vs : List Value) (o : Nat) (w : World), w.ownsRow B e 2 (.slice (some ⟨g, 0, none⟩) k cap) k ys → k * 2 ≤ o → (w.setCells g o vs).ownsRow B e 2 (.slice (some ⟨g, 0, none⟩) k cap) k ys
  | [], o, w, h, _ => h
  | v :: vs, o, w, h, ho => by
    rw [World.setCells]
    exact own_pasts vs (o + 1) _ (own_past h ho v) (by omega)
theorem below_sets {B g : Nat} {w0 : World} (hg : B ≤ g) : ∀ (vs : List Value) (o : Nat) (w : World), Below B w0 w → Below B w0 (w.setCells g o vs)
  | [], o, w, h => h
  | v :: vs, o, w, h => by
    rw [World.setCells]
    exact below_sets hg vs (o + 1) _ (h.setCell (by simpa using hg) v)
theorem run_clear2 (w : World) (ty : TypeId) (g o n c : Nat) (hn : 0 < n) (hc : ∀ j, j < n * 2 → (w.cell? ⟨g, o + j, none⟩).isSome = true) (hf : ∀ j, j < n * 2 → w.frozen? ⟨g, o + j, none⟩ = false) :
    ∃ vs : List Value, ∀ ty, (Builtin.clear_ #[85] ty #[.slice (some ⟨g, o, none⟩) n c]).run Tryz.prog w = .ok (.tuple #[]) (w.setCells g o vs) := by
  have ht : Tryz.prog.underlying 85 = some (.slice 148) := Tryz.underlying85
  have hv : ∀ w, (zeroValue 148).run Tryz.prog w = .ok (.agg #[.int .i64 0, .int .i64 0]) w := fun w => by simp [go_sem]
  obtain ⟨vs, hvs⟩ : ∃ vs, vs = (Builtin.zeroCells (Value.agg #[.int .i64 0, .int .i64 0]).cells n).toList := ⟨_, rfl⟩
  have hlen : vs.length = n * 2 := by rw [hvs]; simp [Builtin.zeroCells, Value.cells]
  have hone : ∀ v ∈ vs, v.oneCell' = true := by
    intro v hv'
    rw [hvs] at hv'
    simp [Builtin.zeroCells, Value.cells] at hv'
    obtain ⟨a, _, rfl⟩ := hv'
    rcases (by omega : a % 2 = 0 ∨ a % 2 = 1) with h | h <;> rw [h] <;> rfl
  have hst := run_storeCells_cells (P := Tryz.prog) g o vs 0 w (by rw [hlen]; exact fun j hj => by have := hc j hj; simp only [Nat.add_zero]; exact this) (by rw [hlen]; exact fun j hj => by have := hf j hj; simp only [Nat.add_zero]; exact this) hone
  simp only [Nat.add_zero] at hst
  obtain ⟨m, rfl⟩ : ∃ m, n = m + 1 := ⟨n - 1, by omega⟩
  refine ⟨vs, fun ty => ?_⟩
  simp [Builtin.clear_, run_underlying ht, hv, ← hvs, hst]
theorem keep_take : ∀ (M : List Pn) (k : Nat), k ≤ M.length → (∀ j, 1 ≤ j → j < k → M.getD j (0, 0) ≠ M.getD (j - 1) (0, 0)) → keepL M k = M.take k
  | M, 0, _, _ => by simp [keepL]
  | M, k + 1, hk, h => by
    have ih := keep_take M k (by omega) fun j h1 h2 => h j h1 (by omega)
    unfold keepL
    have hc : k = 0 ∨ M.getD k (0, 0) ≠ M.getD (k - 1) (0, 0) := by
      rcases Nat.eq_zero_or_pos k with h0 | h0
      · exact .inl h0
      · exact .inr (h k h0 (by omega))
    rw [if_pos hc, ih, List.take_succ_eq_append_getElem (by omega), List.getD_eq_getElem?_getD, List.getElem?_eq_getElem (by omega)]
    rfl
theorem keep_eq {M : List Pn} {k : Nat} (hk : 1 ≤ k) (h : M.getD k (0, 0) = M.getD (k - 1) (0, 0)) : keepL M (k + 1) = keepL M k := by
  show (if k = 0 ∨ M.getD k (0, 0) ≠ M.getD (k - 1) (0, 0) then keepL M k ++ [M.getD k (0, 0)] else keepL M k) = _
  rw [if_neg (fun h' => by rcases h' with h' | h'; omega; exact h' h)]
theorem keep_ne {M : List Pn} {k : Nat} (h : M.getD k (0, 0) ≠ M.getD (k - 1) (0, 0)) : keepL M (k + 1) = keepL M k ++ [M.getD k (0, 0)] := by
  show (if k = 0 ∨ M.getD k (0, 0) ≠ M.getD (k - 1) (0, 0) then keepL M k ++ [M.getD k (0, 0)] else keepL M k) = _
  rw [if_pos (.inr h)]
theorem take_set2 {ys : List Value} {a : Nat} {u v : Value} (h : a + 2 ≤ ys.length) : ((ys.set a u).set (a + 1) v).take (a + 2) = ys.take a ++ [u, v] := by
  apply List.ext_getElem?
  intro j
  by_cases h1 : j < a
  · rw [List.getElem?_take_of_lt (by omega), List.getElem?_set_ne (by omega), List.getElem?_set_ne (by omega), List.getElem?_append_left (by rw [List.length_take]; omega), List.getElem?_take_of_lt h1]
  · rcases (by omega : j = a ∨ j = a + 1 ∨ a + 2 ≤ j) with h2 | h2 | h2
    · subst h2
      rw [List.getElem?_take_of_lt (by omega), List.getElem?_set_ne (by omega), List.getElem?_set_self (by omega), List.getElem?_append_right (by rw [List.length_take]; omega), List.length_take, Nat.min_eq_left (by omega)]
      simp
    · subst h2
      rw [List.getElem?_take_of_lt (by omega), List.getElem?_set_self (by simp; omega), List.getElem?_append_right (by rw [List.length_take]; omega), List.length_take, Nat.min_eq_left (by omega)]
      simp
    · rw [List.getElem?_eq_none (by simp; omega), List.getElem?_eq_none (by simp; omega)]
theorem flat_at2 {M : List Pn} {j : Nat} (hj : j < M.length) : (M.flatMap ptC)[j * 2]? = some (.int .i64 (M.getD j (0, 0)).1) ∧ (M.flatMap ptC)[j * 2 + 1]? = some (.int .i64 (M.getD j (0, 0)).2) := by
  have h : M[j]? = some (M.getD j (0, 0)) := by rw [List.getD_eq_getElem?_getD, List.getElem?_eq_getElem hj]; rfl
  exact ⟨flat_get ptC_len M j _ 0 h (by omega), flat_get ptC_len M j _ 1 h (by omega)⟩
theorem flat_take2 (M : List Pn) (k : Nat) : (M.flatMap ptC).take (k * 2) = (M.take k).flatMap ptC := by
  induction M generalizing k with
  | nil => simp
  | cons a M ih =>
    cases k with
    | zero => simp
    | succ k =>
      rw [List.take_succ_cons, List.flatMap_cons, List.flatMap_cons, ← ih k, show (k + 1) * 2 = k * 2 + 1 + 1 by omega]
      rfl

set_option maxHeartbeats 16000000 in
theorem compactPt_any (g n cap B : Nat) (M : List Pn) (w : World) (ho : w.ownsRow B 148 2 (.slice (some ⟨g, 0, none⟩) n cap) n (M.flatMap ptC)) (hl : M.length = n) (hn : n ≤ 1000) :
    Calls Tryz.prog 127 #[.slice (some ⟨g, 0, none⟩) n cap] w fun e w' => e = .returned (.slice (some ⟨g, 0, none⟩) (keepL M n).length cap) ∧ w'.ownsRow B 148 2 (.slice (some ⟨g, 0, none⟩) (keepL M n).length cap) (keepL M n).length ((keepL M n).flatMap ptC) ∧ Below B w w' := by
  obtain ⟨hgB, hgl⟩ := ho.lt g rfl
  have hnc : n ≤ cap := by
    rcases ho.2 with ⟨h1, _⟩ | ⟨g', c', cur, hv, _, _, h5, _⟩
    · cases h1
    · injection hv with _ _ h3; omega
  obtain ⟨KL, hKL⟩ : ∃ K, K = keepL M n := ⟨_, rfl⟩
  have hBr : Below B w w := Below.refl _ _
  rw [← hKL]
  -- the row as it was, kept whole
  have hwhole : Hid (keepL M n = M → ∀ q, (Ending.returned (.slice (some ⟨g, 0, none⟩) n cap) = .returned (.slice (some ⟨g, 0, none⟩) KL.length cap)) ∧ (w.drewN q).ownsRow B 148 2 (.slice (some ⟨g, 0, none⟩) KL.length cap) KL.length (KL.flatMap ptC) ∧ Below B w (w.drewN q)) :=
    Lib.hid fun h q => by rw [hKL, h, hl]; exact ⟨rfl, ho, below_drewN (Below.refl _ _) q⟩
  by_cases h2 : n < 2
  · have hk : keepL M n = M := by rw [keep_take M n (by omega) (fun j h1 h3 => by omega), List.take_of_length_le (by omega)]
    have hf := Lib.hid (hwhole.out hk 0)
    have h2i : (n : Int) < 2 := by omega
    clear hwhole hk ho hKL
    go_enter Tryz.func127, Tryz.ntmps127
    go_wp2_with fail
    go_ret
    exact hf.out
  have h2i : ¬ (n : Int) < 2 := by omega
  replace ho := Lib.hid ho
  replace hl := Lib.hid hl
  replace hKL := Lib.hid hKL
  go_enter Tryz.func127, Tryz.ntmps127
  go_wp2_with fail
  go_loopw [3] (fun iv wr => ∃ k q : Nat, iv = .int .i64 k ∧ 1 ≤ k ∧ k ≤ n ∧ (∀ j, 1 ≤ j → j < k → M.getD j (0, 0) ≠ M.getD (j - 1) (0, 0)) ∧ wr = w.drewN q) (fun iv wr => n - (intOf iv).toNat)
  case atStart => exact ⟨1, 0, rfl, Nat.le_refl _, by omega, fun j h1 h3 => by omega, rfl⟩
  case round =>
  obtain ⟨k, q, rfl, hk1, hk, hall, rfl⟩ := hrel
  replace hall := Lib.hid hall
  by_cases hlt : k < n
  rotate_left
  · have hkn : k = n := by omega
    have hf := Lib.hid (hwhole.out (by rw [keep_take M n (by have := hl.out; omega) (fun j h1 h3 => hall.out j h1 (by omega)), List.take_of_length_le (by have := hl.out; omega)]) q)
    replace hkn := Lib.hid hkn
    go_wp2_with fail
    go_ret
    exact hf.out
  obtain ⟨⟨x0, x1⟩, hx⟩ : ∃ p, p = M.getD k (0, 0) := ⟨_, rfl⟩
  obtain ⟨⟨y0, y1⟩, hy⟩ : ∃ p, p = M.getD (k - 1) (0, 0) := ⟨_, rfl⟩
  have c0 := (ho.out.cellAt (k * 2) (by omega)).trans (flat_at2 (M := M) (j := k) (by have := hl.out; omega)).1
  have c1 := (ho.out.cellAt (k * 2 + 1) (by omega)).trans (flat_at2 (M := M) (j := k) (by have := hl.out; omega)).2
  have d0 := (ho.out.cellAt ((k - 1) * 2) (by omega)).trans (flat_at2 (M := M) (j := k - 1) (by have := hl.out; omega)).1
  have d1 := (ho.out.cellAt ((k - 1) * 2 + 1) (by omega)).trans (flat_at2 (M := M) (j := k - 1) (by have := hl.out; omega)).2
  rw [← hx] at c0 c1
  rw [← hy] at d0 d1
  have e1 : IntKind.i64.wrap ((k : Int) - 1) = (k : Int) - 1 := wi (by omega)
  have e2 : (0 : Int) ≤ (k : Int) - 1 ∧ (k : Int) - 1 < (n : Int) := by omega
  have e3 : ((k : Int) - 1).toNat = k - 1 := by omega
  have e4 : (0 : Int) ≤ (k : Int) ∧ (k : Int) < (n : Int) := by omega
  replace hx := Lib.hid hx
  replace hy := Lib.hid hy
  by_cases hne : (x0, x1) ≠ (y0, y1)
  · have hne2 : M.getD k (0, 0) ≠ M.getD (k - 1) (0, 0) := by rw [← hx.out, ← hy.out]; exact hne
    replace hne2 := Lib.hid hne2
    have hor : x0 ≠ y0 ∨ (x0 = y0 ∧ x1 ≠ y1) := by
      by_cases h : x0 = y0
      · exact .inr ⟨h, fun h' => hne (by rw [h, h'])⟩
      · exact .inl h
    clear hne
    rcases hor with h | ⟨h, h'⟩
    · have t1 : (x0 == y0) = false := by simp [h]
      clear h
      go_wp2_with fail
      go_quiet (fail)
      go_wp2_with fail
      go_roundw
      case rel =>
        refine ⟨k + 1, _, by go_num, by omega, by omega, fun j h1 h3 => ?_, rfl⟩
        rcases Nat.lt_or_ge j k with h4 | h4
        · exact hall.out j h1 h4
        · have : j = k := by omega
          rw [this]; exact hne2.out
      case measure => simp [intOf]; omega
    · subst h
      have t1 : (x1 == y1) = false := by simp [h']
      clear h'
      go_wp2_with fail
      go_quiet (fail)
      go_wp2_with fail
      go_roundw
      case rel =>
        refine ⟨k + 1, _, by go_num, by omega, by omega, fun j h1 h3 => ?_, rfl⟩
        rcases Nat.lt_or_ge j k with h4 | h4
        · exact hall.out j h1 h4
        · have : j = k := by omega
          rw [this]; exact hne2.out
      case measure => simp [intOf]; omega
  have heq : (x0, x1) = (y0, y1) := Decidable.byContradiction hne
  injection heq with h h'
  subst h h'
  have hkeq : M.getD k (0, 0) = M.getD (k - 1) (0, 0) := by rw [← hx.out, ← hy.out]
  have hK0 : keepL M (k + 1) = M.take k := by rw [keep_eq hk1 hkeq, keep_take M k (by have := hl.out; omega) hall.out]
  replace hK0 := Lib.hid hK0
  replace hkeq := Lib.hid hkeq
  have hck : ¬ cap = k := by omega
  have hck2 : ¬ (cap - k = 0) := by omega
  have e5 : (k : Int) ≤ (n : Int) := by omega
  have e6 : (k : Int) ≤ (cap : Int) := by omega
  clear hne
  go_wp2_with fail
  go_quiet (fail)
  go_wp2_with fail
  obtain ⟨r, hr⟩ : ∃ r, r = n - k := ⟨_, rfl⟩
  rw [← hr]
  have hr1 : r ≤ 1000 := by omega
  have hr2 : k + r = n := by omega
  replace hr2 := Lib.hid hr2
  have hw1 : Below B w (w.drewN (q + nq)) := below_drewN (Below.refl _ _) _
  have how : (w.drewN (q + nq)).ownsRow B 148 2 (.slice (some ⟨g, 0, none⟩) n cap) n (M.flatMap ptC) := ho.out
  generalize w.drewN (q + nq) = x at *
  replace how := Lib.hid how
  go_loopw [3, 5] (fun av bv wr => ∃ (kk y : Nat) (ys : List Value), av = .int .i64 kk ∧ bv = .int .i64 y ∧ 1 ≤ y ∧ y ≤ r ∧ 1 ≤ kk ∧ kk + 1 ≤ k + y ∧ kk = (keepL M (k + y)).length ∧ ys.take (kk * 2) = (keepL M (k + y)).flatMap ptC ∧ (∀ i, (k + y - 1) * 2 ≤ i → ys[i]? = (M.flatMap ptC)[i]?) ∧ wr.ownsRow B 148 2 (.slice (some ⟨g, 0, none⟩) n cap) n ys ∧ Below B w wr) (fun av bv wr => r - (intOf bv).toNat)
  case atStart => exact ⟨k, 1, M.flatMap ptC, rfl, rfl, Nat.le_refl _, by omega, hk1, Nat.le_refl _, by rw [hK0.out, List.length_take]; have := hl.out; omega, by rw [hK0.out, flat_take2], fun i _ => rfl, how.out, hw1⟩
  case round =>
  obtain ⟨kk, y, ys, rfl, rfl, hy1, hyr, hkk1, hkk2, hkk3, htake, hrest, hown, hbel⟩ := hrel
  have hkn : kk < n := by have := hr2.out; omega
  have hylen := hown.1
  replace hkk3 := Lib.hid hkk3
  replace htake := Lib.hid htake
  replace hrest := Lib.hid hrest
  by_cases hyl : y < r
  rotate_left
  · have hyr2 : k + y = n := by omega
    have hfz := fun j => hown.frozenAt j
    obtain ⟨vs, hcl⟩ := run_clear2 wr 0 g (kk * 2) (n - kk) (cap - kk) (by omega) (fun j hj => by rw [hown.cellAt _ (by omega), List.getElem?_eq_getElem (by omega)]; rfl) (fun j hj => hfz _)
    have hfin := own_pasts vs (kk * 2) wr (own_cut hown (Nat.le_of_lt hkn)) (Nat.le_refl _)
    have hfb := below_sets hgB vs (kk * 2) wr hbel
    rw [htake.out, hyr2, ← hKL.out] at hfin
    have hkk4 : kk = KL.length := by rw [hKL.out, ← hyr2]; exact hkk3.out
    have e7 : (kk : Int) ≤ (n : Int) := by omega
    have e8 : (kk : Int) ≤ (cap : Int) := by omega
    have hck3 : ¬ cap = kk := by omega
    have hck4 : ¬ (cap - kk = 0) := by omega
    replace hfin := Lib.hid hfin
    replace hkk4 := Lib.hid hkk4
    replace hyr2 := Lib.hid hyr2
    replace hr := Lib.hid hr
    clear hown hfz
    go_wp2_with fail
    go_ret
    refine ⟨by rw [← hkk4.out]; rfl, ?_, hfb⟩
    rw [← hkk4.out]
    exact hfin.out
  obtain ⟨⟨u0, u1⟩, hu⟩ : ∃ p, p = M.getD (k + y) (0, 0) := ⟨_, rfl⟩
  obtain ⟨⟨v0, v1⟩, hv⟩ : ∃ p, p = M.getD (k + y - 1) (0, 0) := ⟨_, rfl⟩
  have hML : k + y < M.length := by have := hl.out; omega
  have f1 := flat_at2 (M := M) (j := k + y) hML
  have f2 := flat_at2 (M := M) (j := k + y - 1) (by omega)
  have c0 := ((hown.cellAt ((k + y) * 2) (by omega)).trans (hrest.out _ (by omega))).trans f1.1
  have c1 := ((hown.cellAt ((k + y) * 2 + 1) (by omega)).trans (hrest.out _ (by omega))).trans f1.2
  have d0 := ((hown.cellAt ((k + y - 1) * 2) (by omega)).trans (hrest.out _ (by omega))).trans f2.1
  have d1 := ((hown.cellAt ((k + y - 1) * 2 + 1) (by omega)).trans (hrest.out _ (by omega))).trans f2.2
  rw [← hu] at c0 c1
  rw [← hv] at d0 d1
  rw [show (k + y) * 2 = k * 2 + y * 2 by omega] at c0 c1
  rw [show (k + y - 1) * 2 = k * 2 + (y - 1) * 2 by omega] at d0 d1
  obtain ⟨z0, hz0⟩ : ∃ z, ys[kk * 2]? = some z := ⟨_, List.getElem?_eq_getElem (by omega)⟩
  obtain ⟨z1, hz1⟩ : ∃ z, ys[kk * 2 + 1]? = some z := ⟨_, List.getElem?_eq_getElem (by omega)⟩
  have g0 := (hown.cellAt (kk * 2) (by omega)).trans hz0
  have g1 := (hown.cellAt (kk * 2 + 1) (by omega)).trans hz1
  have hfz := fun j => hown.frozenAt j
  have e7 : IntKind.i64.wrap ((y : Int) - 1) = (y : Int) - 1 := wi (by omega)
  have e8 : (0 : Int) ≤ (y : Int) - 1 ∧ (y : Int) - 1 < (r : Int) := by omega
  have e9 : ((y : Int) - 1).toNat = y - 1 := by omega
  have e10 : (0 : Int) ≤ (y : Int) ∧ (y : Int) < (r : Int) := by omega
  have e11 : (0 : Int) ≤ (kk : Int) ∧ (kk : Int) < (n : Int) := by omega
  replace hu := Lib.hid hu
  replace hv := Lib.hid hv
  replace hown := Lib.hid hown
  replace hr := Lib.hid hr
  clear f1 f2 hz0 hz1
  by_cases hne2 : (u0, u1) ≠ (v0, v1)
  · have hne3 : M.getD (k + y) (0, 0) ≠ M.getD (k + y - 1) (0, 0) := by rw [← hu.out, ← hv.out]; exact hne2
    have hK1 : keepL M (k + (y + 1)) = keepL M (k + y) ++ [(u0, u1)] := by rw [← Nat.add_assoc, keep_ne hne3, ← hu.out]
    have hrel2 : ∀ W : World, W.ownsRow B 148 2 (.slice (some ⟨g, 0, none⟩) n cap) n ((ys.set (kk * 2) (.int .i64 u0)).set (kk * 2 + 1) (.int .i64 u1)) → Below B w W →
        ∃ (kk' y' : Nat) (ys' : List Value), Value.int .i64 ((kk : Int) + 1) = .int .i64 kk' ∧ Value.int .i64 ((y : Int) + 1) = .int .i64 y' ∧ 1 ≤ y' ∧ y' ≤ r ∧ 1 ≤ kk' ∧ kk' + 1 ≤ k + y' ∧ kk' = (keepL M (k + y')).length ∧ ys'.take (kk' * 2) = (keepL M (k + y')).flatMap ptC ∧ (∀ i, (k + y' - 1) * 2 ≤ i → ys'[i]? = (M.flatMap ptC)[i]?) ∧ W.ownsRow B 148 2 (.slice (some ⟨g, 0, none⟩) n cap) n ys' ∧ Below B w W := by
      intro W hW hWb
      refine ⟨kk + 1, y + 1, _, by simp, by simp, by omega, by omega, by omega, by omega, by rw [hK1, List.length_append, ← hkk3.out]; rfl, ?_, fun i hi => ?_, hW, hWb⟩
      · rw [show (kk + 1) * 2 = kk * 2 + 2 by omega, take_set2 (by omega), htake.out, hK1, List.flatMap_append]; rfl
      · rw [List.getElem?_set_ne (by omega), List.getElem?_set_ne (by omega)]
        exact hrest.out i (by omega)
    replace hrel2 := Lib.hid hrel2
    have hor : u0 ≠ v0 ∨ (u0 = v0 ∧ u1 ≠ v1) := by
      by_cases h : u0 = v0
      · exact .inr ⟨h, fun h' => hne2 (by rw [h, h'])⟩
      · exact .inl h
    clear hne2 hne3 hK1
    rcases hor with h | ⟨h, h'⟩
    · have t1 : (u0 == v0) = false := by simp [h]
      have t2 : (u0 != v0) = true := by simp [h]
      clear h
      go_wp2_with fail
      go_quiet (fail)
      go_wp2_with fail
      go_roundw
      case rel =>
        refine hrel2.out _ ?_ ?_
        · exact ((World.ownsRow.stored (w := wr.drewN _) hown.out (kk * 2) _).1.stored (kk * 2 + 1) _).1
        · exact ((below_drewN hbel _).setCell (by exact hgB) _).setCell (by exact hgB) _
      case measure => simp [intOf]; omega
    · subst h
      have t1 : (u1 == v1) = false := by simp [h']
      have t2 : (u1 != v1) = true := by simp [h']
      clear h'
      go_wp2_with fail
      go_quiet (fail)
      go_wp2_with fail
      go_roundw
      case rel =>
        refine hrel2.out _ ?_ ?_
        · exact ((World.ownsRow.stored (w := wr.drewN _) hown.out (kk * 2) _).1.stored (kk * 2 + 1) _).1
        · exact ((below_drewN hbel _).setCell (by exact hgB) _).setCell (by exact hgB) _
      case measure => simp [intOf]; omega
  have heq2 : (u0, u1) = (v0, v1) := Decidable.byContradiction hne2
  injection heq2 with h h'
  subst h h'
  have hK1 : keepL M (k + (y + 1)) = keepL M (k + y) := by rw [← Nat.add_assoc, keep_eq (by omega) (by rw [← hu.out, ← hv.out])]
  replace hK1 := Lib.hid hK1
  clear hne2
  go_wp2_with fail
  go_quiet (fail)
  go_wp2_with fail
  go_roundw
  case rel => exact ⟨kk, y + 1, ys, rfl, by go_num, by omega, by omega, hkk1, by omega, by rw [hK1.out]; exact hkk3.out, by rw [hK1.out]; exact htake.out, fun i hi => hrest.out i (by omega), hown.out, below_drewN hbel _⟩
  case measure => simp [intOf]; omega
end Go.Proofs.YtfkidklpjiiclaaGreat

