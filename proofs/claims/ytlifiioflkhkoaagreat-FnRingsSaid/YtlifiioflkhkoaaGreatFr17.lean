/- Rings and points of a way as elements of a sort. Conditions: none. -/
import Derived.Shelf.SlSortCmp.KitK
import Derived.Shelf.Abstract
import Derived.Shelf.SlGeneric
import Derived.Sort.WalkB2
import Derived.Sort.WalkB12
import Derived.Deep.LoopGhost
import Derived.Test.YtlifiioflkhkoaaGreatFr16
import Derived.Test.YtlifiioflkhkoaaGreatFr02
namespace Go.Proofs.YtlifiioflkhkoaaGreat
open Go.RowKit Go.Shelf Go.Lib Go.Sort Go.Proofs
set_option linter.unusedVariables false
set_option maxRecDepth 100000
/-- a ring in a row: its points and its head -/
abbrev RgE := List Pnt × Hd
instance : Inhabited Hd := ⟨⟨none, 0, 0⟩⟩
def encR (x : RgE) : List Value := [.slice x.2.A x.2.n x.2.c]
/-- a hot point on a way: the point, the bound -/
structure WyE where
  x : Int
  y : Int
  num : Int
  den : Int
  cl : Bool
  deriving DecidableEq
instance : Inhabited WyE := ⟨⟨0, 0, 0, 0, false⟩⟩
end Go.Proofs.YtlifiioflkhkoaaGreat

/- slices.SortStableFunc's family, of no element type: its bodies, and what is asked of a program that bears them. Printed by mk_stb.py. Conditions: none. -/
namespace Go.Proofs.YtlifiioflkhkoaaGreat
open Go.RowKit Go.Shelf Go.Lib Go.Sort Go.Proofs
set_option linter.unusedVariables false
set_option maxRecDepth 100000

set_option linter.unusedSimpArgs false
namespace StB
/-- a list, each element renamed -/
def renA {α : Type} (f : α → α) (a : Array α) : Array α := (a.toList.map f).toArray
def renO (ρ : Ren) : Operand → Operand
  | .tmp t => .tmp t
  | .const v => .const v
  | .global g => .global (ρ.g g)
  | .func f => .func (ρ.f f)
def renK (ρ : Ren) : Callee → Callee
  | .value f => .value (renO ρ f)
  | .invoke r m => .invoke (renO ρ r) m
  | .builtin b => .builtin b
def renC (ρ : Ren) : Call → Call
  | ⟨k, xs, ts⟩ => ⟨renK ρ k, renA (renO ρ) xs, renA ρ.t ts⟩
def renP (ρ : Ren) : Op → Op
  | .move x => .move (renO ρ x)
  | .assign x => .assign (renO ρ x)
  | .pick c a b => .pick (renO ρ c) (renO ρ a) (renO ρ b)
  | .load t a => .load (ρ.t t) (renO ρ a)
  | .store t a v => .store (ρ.t t) (renO ρ a) (renO ρ v)
  | .binOp op t x y u => .binOp op (ρ.t t) (renO ρ x) (renO ρ y) (ρ.t u)
  | .unOp op t x => .unOp op (ρ.t t) (renO ρ x)
  | .convert s d x => .convert (ρ.t s) (ρ.t d) (renO ρ x)
  | .indexAddr t x i => .indexAddr (ρ.t t) (renO ρ x) (renO ρ i)
  | .call c => .call (renC ρ c)
  | o => o
def renR (ρ : Ren) : Oper → Oper
  | ⟨d, o, t, p, a, g⟩ => ⟨d, renP ρ o, ρ.t t, p, a, g⟩
def renB (ρ : Ren) : Code → Code
  | .region i ops d => .region i (renA (renR ρ) ops) d
  | .seq a b => .seq (renB ρ a) (renB ρ b)
  | .cond c a b => .cond (renO ρ c) (renB ρ a) (renB ρ b)
  | .block i b => .block i (renB ρ b)
  | .loop b => .loop (renB ρ b)
  | c => c
def renD (ρ : Ren) : Option Code → Option Code
  | some c => some (renB ρ c)
  | none => none
/-- a function, its callees and types renamed -/
def renF (ρ : Ren) : Func → Func
  | ⟨n, o, ta, pa, rt, nf, nt, rs, b, nr, ou, fi, en, ln, me, tn⟩ => ⟨n, o, renA ρ.t ta, renA ρ.t pa, renA ρ.t rt, nf, nt, rs, renD ρ b, nr, ou, fi, en, ln, me, tn⟩

set_option maxRecDepth 100000 in
set_option maxHeartbeats 4000000 in
/-- the body, its numbers renamed: the renaming is carried out by the simplifier -/
abbrev swapX (ρ : Ren) : {f : Func // renF ρ Tryz.f120 = f} := ⟨_, by
  simp only [Tryz.f120, renF, renA, renD, renB, renR, renP, renC, renK, renO, List.toList_toArray, List.map_cons, List.map_nil]
  exact rfl⟩
abbrev swapR (ρ : Ren) : Func := (swapX ρ).1
theorem swapR_ntmps (ρ : Ren) : (swapR ρ).ntmps = 38 := rfl
set_option maxRecDepth 100000 in
set_option maxHeartbeats 4000000 in
/-- the body, its numbers renamed: the renaming is carried out by the simplifier -/
abbrev rotX (ρ : Ren) : {f : Func // renF ρ Tryz.f100 = f} := ⟨_, by
  simp only [Tryz.f100, renF, renA, renD, renB, renR, renP, renC, renK, renO, List.toList_toArray, List.map_cons, List.map_nil]
  exact rfl⟩
abbrev rotR (ρ : Ren) : Func := (rotX ρ).1
theorem rotR_ntmps (ρ : Ren) : (rotR ρ).ntmps = 58 := rfl
set_option maxRecDepth 100000 in
set_option maxHeartbeats 4000000 in
/-- the body, its numbers renamed: the renaming is carried out by the simplifier -/
abbrev symX (ρ : Ren) : {f : Func // renF ρ Tryz.f89 = f} := ⟨_, by
  simp only [Tryz.f89, renF, renA, renD, renB, renR, renP, renC, renK, renO, List.toList_toArray, List.map_cons, List.map_nil]
  exact rfl⟩
abbrev symR (ρ : Ren) : Func := (symX ρ).1
theorem symR_ntmps (ρ : Ren) : (symR ρ).ntmps = 220 := rfl
set_option maxRecDepth 100000 in
set_option maxHeartbeats 4000000 in
/-- the body, its numbers renamed: the renaming is carried out by the simplifier -/
abbrev stabX (ρ : Ren) : {f : Func // renF ρ Tryz.f73 = f} := ⟨_, by
  simp only [Tryz.f73, renF, renA, renD, renB, renR, renP, renC, renK, renO, List.toList_toArray, List.map_cons, List.map_nil]
  exact rfl⟩
abbrev stabR (ρ : Ren) : Func := (stabX ρ).1
theorem stabR_ntmps (ρ : Ren) : (stabR ρ).ntmps = 63 := rfl
set_option maxRecDepth 100000 in
set_option maxHeartbeats 4000000 in
/-- the body, its numbers renamed: the renaming is carried out by the simplifier -/
abbrev sortX (ρ : Ren) : {f : Func // renF ρ Tryz.f61 = f} := ⟨_, by
  simp only [Tryz.f61, renF, renA, renD, renB, renR, renP, renC, renK, renO, List.toList_toArray, List.map_cons, List.map_nil]
  exact rfl⟩
abbrev sortR (ρ : Ren) : Func := (sortX ρ).1
theorem sortR_ntmps (ρ : Ren) : (sortR ρ).ntmps = 9 := rfl
end StB
/-- a program bears the family, so numbered -/
structure StL (P : Program) (ρ : Ren) : Prop where
  mixed : P.follows .mixedOrders = true
  fswap : Bears P (ρ.f 120) (StB.swapR ρ)
  frot : Bears P (ρ.f 100) (StB.rotR ρ)
  fsym : Bears P (ρ.f 89) (StB.symR ρ)
  fstab : Bears P (ρ.f 73) (StB.stabR ρ)
  fsort : Bears P (ρ.f 61) (StB.sortR ρ)
  t0 : P.underlying (ρ.t 0) = some (TypeDesc.tuple #[])
  a0 : ∀ w, (isAgg (ρ.t 0)).run P w = .ok false w
  z0 : ∀ w, (Go.sizeOf (ρ.t 0)).run P w = .ok 1 w
  v0 : ∀ w, (zeroValue (ρ.t 0)).run P w = .ok (Value.tuple #[]) w
  t3 : P.underlying (ρ.t 3) = some (TypeDesc.int IntKind.i64)
  a3 : ∀ w, (isAgg (ρ.t 3)).run P w = .ok false w
  z3 : ∀ w, (Go.sizeOf (ρ.t 3)).run P w = .ok 1 w
  v3 : ∀ w, (zeroValue (ρ.t 3)).run P w = .ok (Value.int IntKind.i64 0) w
  t4 : P.underlying (ρ.t 4) = some (TypeDesc.bool)
  a4 : ∀ w, (isAgg (ρ.t 4)).run P w = .ok false w
  z4 : ∀ w, (Go.sizeOf (ρ.t 4)).run P w = .ok 1 w
  v4 : ∀ w, (zeroValue (ρ.t 4)).run P w = .ok (Value.bool false) w
  tun : P.underlying (ρ.t 94) = some (TypeDesc.int IntKind.u64)
  aun : ∀ w, (isAgg (ρ.t 94)).run P w = .ok false w
  zun : ∀ w, (Go.sizeOf (ρ.t 94)).run P w = .ok 1 w
  vun : ∀ w, (zeroValue (ρ.t 94)).run P w = .ok (Value.int IntKind.u64 0) w
  tsl : P.underlying (ρ.t 24) = some (TypeDesc.slice (ρ.t 42))
  asl : ∀ w, (isAgg (ρ.t 24)).run P w = .ok false w
  zsl : ∀ w, (Go.sizeOf (ρ.t 24)).run P w = .ok 1 w
  vsl : ∀ w, (zeroValue (ρ.t 24)).run P w = .ok (Value.slice none 0 0) w
  tfn : P.underlying (ρ.t 99) = some (TypeDesc.func #[ρ.t 42, ρ.t 42] #[ρ.t 3] false)
  afn : ∀ w, (isAgg (ρ.t 99)).run P w = .ok false w
  zfn : ∀ w, (Go.sizeOf (ρ.t 99)).run P w = .ok 1 w
  vfn : ∀ w, (zeroValue (ρ.t 99)).run P w = .ok (Value.nilFunc) w
def stR_ren : Ren := ⟨fun n => n, fun n => n, fun n => n⟩
theorem stR_lays : StL Tryz.prog stR_ren where
  mixed := by kernel_rfl
  fswap := ⟨Tryz.f120.name, by decide, Tryz.func120.trans (congrArg some (by kernel_rfl))⟩
  frot := ⟨Tryz.f100.name, by decide, Tryz.func100.trans (congrArg some (by kernel_rfl))⟩
  fsym := ⟨Tryz.f89.name, by decide, Tryz.func89.trans (congrArg some (by kernel_rfl))⟩
  fstab := ⟨Tryz.f73.name, by decide, Tryz.func73.trans (congrArg some (by kernel_rfl))⟩
  fsort := ⟨Tryz.f61.name, by decide, Tryz.func61.trans (congrArg some (by kernel_rfl))⟩
  t0 := Tryz.underlying0
  a0 := Tryz.isAgg0
  z0 := Tryz.sizeOf0
  v0 := Tryz.zeroValue0
  t3 := Tryz.underlying3
  a3 := Tryz.isAgg3
  z3 := Tryz.sizeOf3
  v3 := Tryz.zeroValue3
  t4 := Tryz.underlying4
  a4 := Tryz.isAgg4
  z4 := Tryz.sizeOf4
  v4 := Tryz.zeroValue4
  tun := Tryz.underlying94
  aun := Tryz.isAgg94
  zun := Tryz.sizeOf94
  vun := Tryz.zeroValue94
  tsl := Tryz.underlying24
  asl := Tryz.isAgg24
  zsl := Tryz.sizeOf24
  vsl := Tryz.zeroValue24
  tfn := Tryz.underlying99
  afn := Tryz.isAgg99
  zfn := Tryz.sizeOf99
  vfn := Tryz.zeroValue99
def stW_ren : Ren := ⟨fun | 120 => 156 | 100 => 152 | 89 => 142 | 73 => 133 | 61 => 112 | 88 => 141 | n => n, fun | 24 => 145 | 42 => 153 | 99 => 156 | n => n, fun n => n⟩
theorem stW_lays : StL Tryz.prog stW_ren where
  mixed := by kernel_rfl
  fswap := ⟨Tryz.f156.name, by decide, Tryz.func156.trans (congrArg some (by kernel_rfl))⟩
  frot := ⟨Tryz.f152.name, by decide, Tryz.func152.trans (congrArg some (by kernel_rfl))⟩
  fsym := ⟨Tryz.f142.name, by decide, Tryz.func142.trans (congrArg some (by kernel_rfl))⟩
  fstab := ⟨Tryz.f133.name, by decide, Tryz.func133.trans (congrArg some (by kernel_rfl))⟩
  fsort := ⟨Tryz.f112.name, by decide, Tryz.func112.trans (congrArg some (by kernel_rfl))⟩
  t0 := Tryz.underlying0
  a0 := Tryz.isAgg0
  z0 := Tryz.sizeOf0
  v0 := Tryz.zeroValue0
  t3 := Tryz.underlying3
  a3 := Tryz.isAgg3
  z3 := Tryz.sizeOf3
  v3 := Tryz.zeroValue3
  t4 := Tryz.underlying4
  a4 := Tryz.isAgg4
  z4 := Tryz.sizeOf4
  v4 := Tryz.zeroValue4
  tun := Tryz.underlying94
  aun := Tryz.isAgg94
  zun := Tryz.sizeOf94
  vun := Tryz.zeroValue94
  tsl := Tryz.underlying145
  asl := Tryz.isAgg145
  zsl := Tryz.sizeOf145
  vsl := Tryz.zeroValue145
  tfn := Tryz.underlying156
  afn := Tryz.isAgg156
  zfn := Tryz.sizeOf156
  vfn := Tryz.zeroValue156
end Go.Proofs.YtlifiioflkhkoaaGreat

/- Exchanging and turning runs of elements in place, over any program that bears these functions. Printed by mk_sy1.py. Conditions: as each states. -/
namespace Go.Proofs.YtlifiioflkhkoaaGreat
open Go.RowKit Go.Shelf Go.Lib Go.Sort Go.Proofs
set_option linter.unusedVariables false
set_option maxRecDepth 100000
variable {P : Program} {ρ : Ren} {α : Type} [Inhabited α]

set_option maxHeartbeats 4000000 in
set_option maxRecDepth 1000000 in
theorem swapRange_any (L : StL P ρ) (k : Nat) (aE : ∀ w, (isAgg (ρ.t 42)).run P w = .ok true w) (zE : ∀ w, (Go.sizeOf (ρ.t 42)).run P w = .ok k w) (enc : α → List Value) (cap a b n : Nat) (A X M Y B : List α) (d d0 : Array α) (blk off : Nat) (w0 w : World) (g : Nat) (cb : Array Value) (hd : d.toList = A ++ (X ++ (M ++ (Y ++ B)))) (ha : A.length = a) (hX : X.length = n) (hY : Y.length = n) (hb : b = a + n + M.length)
    (R : RowK enc k w0 blk off d0) (hs : d0.size = d.size) (S : SWK enc k w0 blk off d w) (hsz : d.size < 1000000000000) :
    Calls P (ρ.f 120) #[.slice (some ⟨blk, off, none⟩) d.size cap, .int .i64 a, .int .i64 b, .int .i64 n, .func (.func g) #[] cb] w fun e w' =>
      e = .returned (.tuple #[]) ∧ ∃ d' : Array α, d'.toList = A ++ (Y ++ (M ++ (X ++ B))) ∧ SWK enc k w0 blk off d' w' := by
  have mixed := L.mixed; have t0 := L.t0; have a0 := L.a0; have z0 := L.z0; have v0 := L.v0; have t3 := L.t3; have a3 := L.a3; have z3 := L.z3; have v3 := L.v3; have t4 := L.t4; have a4 := L.a4; have z4 := L.z4; have v4 := L.v4; have tsl := L.tsl; have asl := L.asl; have zsl := L.zsl; have vsl := L.vsl; have tfn := L.tfn; have afn := L.afn; have zfn := L.zfn; have vfn := L.vfn
  obtain ⟨_, _, FG⟩ := L.fswap
  have hdl := size_list hd
  simp only [List.length_append] at hdl
  have S0 : Aside (SWK enc k w0 blk off d w) := S
  have HD : Hid _ := hd
  replace hb := Lib.hid hb
  clear S hd
  obtain ⟨N, hN⟩ : ∃ N, N = d.size := ⟨_, rfl⟩
  rw [← hN] at hdl hs hsz ⊢
  go_enter FG, StB.swapR_ntmps ρ
  go_wp2
  go_loopg [10] n (fun kx s10 wr => ∃ (i : Nat) (dk : Array α) (X1 X2 Y1 Y2 : List α), s10 = .int .i64 i ∧ i ≤ n ∧ n - i ≤ kx ∧ X = X1 ++ X2 ∧ Y = Y1 ++ Y2 ∧ X1.length = i ∧ Y1.length = i ∧ Hid (dk.toList = A ++ (Y1 ++ (X2 ++ (M ++ (X1 ++ (Y2 ++ B)))))) ∧ Aside (SWK enc k w0 blk off dk wr))
  case atStart => exact ⟨0, d, [], X, [], Y, rfl, Nat.zero_le _, Nat.le_refl _, rfl, rfl, rfl, rfl, HD, S0⟩
  case round =>
    clear S0 HD
    obtain ⟨i, dk, X1, X2, Y1, Y2, rfl, hin, hkx, rfl, rfl, h1, h2, HD, S1⟩ := hrel
    simp only [List.length_append] at hX hY hdl
    have hdk := size_list HD.out
    simp only [List.length_append] at hdk
    by_cases hlt : i < n
    · obtain ⟨x, X3, rfl⟩ : ∃ x X3, X2 = x :: X3 := by
        cases X2 with
        | nil => exfalso; simp at hX; omega
        | cons x t => exact ⟨x, t, rfl⟩
      obtain ⟨y, Y3, rfl⟩ : ∃ y Y3, Y2 = y :: Y3 := by
        cases Y2 with
        | nil => exfalso; simp at hY; omega
        | cons x t => exact ⟨x, t, rfl⟩
      simp only [List.length_cons] at hX hY hdk hdl
      go_wp2_with fail
      have hbo := hb.out
      have hsw : Hid ((swp dk (a + i) (b + i)).toList = A ++ ((Y1 ++ [y]) ++ (X3 ++ (M ++ ((X1 ++ [x]) ++ (Y3 ++ B)))))) := by
        have := swp_list' (d := dk) (A := A ++ Y1) (B := X3 ++ (M ++ X1)) (C := Y3 ++ B) (x := x) (y := y) (i := a + i) (j := b + i) (by rw [HD.out]; simp) (by simp; omega) (by simp; omega)
        show _ = _
        rw [this]; simp
      have eaS2 : ((a : Int) + (i : Int)).toNat = a + i := by omega
      have paS2 : (0 : Int) ≤ (a : Int) + (i : Int) := by omega
      have baS2 : (a : Int) + (i : Int) < (N : Int) := by omega
      have raS2 : IntKind.i64.wrap ((a : Int) + (i : Int)) = (a : Int) + (i : Int) := by rw [IntKind.wrap_i64]; omega
      have ecS2 : ((b : Int) + (i : Int)).toNat = b + i := by omega
      have pcS2 : (0 : Int) ≤ (b : Int) + (i : Int) := by omega
      have bcS2 : (b : Int) + (i : Int) < (N : Int) := by omega
      have rcS2 : IntKind.i64.wrap ((b : Int) + (i : Int)) = (b : Int) + (i : Int) := by rw [IntKind.wrap_i64]; omega
      have S2 : Aside (SWK enc k w0 blk off (swp dk (a + i) (b + i)) ((wr.drew.setCells blk (off + (a + i) * k) (enc dk[b + i]!)).setCells blk (off + (b + i) * k) (enc dk[a + i]!))) := S1.out.swapped R (a + i) (b + i) (by omega) (by omega)
      have l1 := S1.out.ld1 R (by omega) P (a + i) (by omega)
      have l2 := S1.out.ld1 R (by omega) P (b + i) (by omega)
      have s1 := S1.out.st1 R (by omega) P (a + i) (by omega) dk[b + i]!
      have s2 := S1.out.st2 R (by omega) P (a + i) (b + i) (by omega) (by omega) dk[b + i]! dk[a + i]!
      have n1 : (enc dk[a + i]!).length = k := R.hk _
      have n2 : (enc dk[b + i]!).length = k := R.hk _
      generalize enc dk[a + i]! = cI at S2 l1 s2 n1
      generalize enc dk[b + i]! = cJ at S2 l2 s1 s2 n2
      clear S1 hbo
      go_wp2_with fail
      go_big_region_o
      clear l1 l2 s1 s2
      generalize (wr.drew.setCells blk (off + (a + i) * k) cJ).setCells blk (off + (b + i) * k) cI = w2 at S2 ⊢
      go_wp2
      go_roundg (n - (i + 1))
      case measure => omega
      case rel => exact ⟨i + 1, swp dk (a + i) (b + i), X1 ++ [x], X3, Y1 ++ [y], Y3, by go_num, by omega, Nat.le_refl _, by simp, by simp, by simp; omega, by simp; omega, hsw, S2⟩
    · have e1 : X2 = [] := List.eq_nil_of_length_eq_zero (by omega)
      have e2 : Y2 = [] := List.eq_nil_of_length_eq_zero (by omega)
      subst e1 e2
      go_wp2
      go_end0
      refine ⟨rfl, dk, ?_, S1.out⟩
      rw [HD.out]; simp

omit [Inhabited α] in
theorem list_cut {L : List α} (i : Nat) (h : i ≤ L.length) : ∃ A B, L = A ++ B ∧ A.length = i := ⟨L.take i, L.drop i, (List.take_append_drop i L).symm, by simp; omega⟩
set_option maxHeartbeats 4000000 in
set_option maxRecDepth 1000000 in
theorem rotate_any (L : StL P ρ) (k : Nat) (aE : ∀ w, (isAgg (ρ.t 42)).run P w = .ok true w) (zE : ∀ w, (Go.sizeOf (ρ.t 42)).run P w = .ok k w) (enc : α → List Value) (cap a m b : Nat) (A X Y B : List α) (d d0 : Array α) (blk off : Nat) (w0 w : World) (g : Nat) (cb : Array Value) (hd : d.toList = A ++ (X ++ (Y ++ B))) (ha : A.length = a) (hm : m = a + X.length) (hb : b = m + Y.length) (hX : 0 < X.length) (hY : 0 < Y.length)
    (R : RowK enc k w0 blk off d0) (hs : d0.size = d.size) (S : SWK enc k w0 blk off d w) (hsz : d.size < 1000000000000) :
    Calls P (ρ.f 100) #[.slice (some ⟨blk, off, none⟩) d.size cap, .int .i64 a, .int .i64 m, .int .i64 b, .func (.func g) #[] cb] w fun e w' =>
      e = .returned (.tuple #[]) ∧ ∃ d' : Array α, d'.toList = A ++ (Y ++ (X ++ B)) ∧ SWK enc k w0 blk off d' w' := by
  have mixed := L.mixed; have t0 := L.t0; have a0 := L.a0; have z0 := L.z0; have v0 := L.v0; have t3 := L.t3; have a3 := L.a3; have z3 := L.z3; have v3 := L.v3; have t4 := L.t4; have a4 := L.a4; have z4 := L.z4; have v4 := L.v4; have tsl := L.tsl; have asl := L.asl; have zsl := L.zsl; have vsl := L.vsl; have tfn := L.tfn; have afn := L.afn; have zfn := L.zfn; have vfn := L.vfn
  obtain ⟨_, _, FG⟩ := L.frot
  have e120 : ∀ args w, (callFunc (ρ.f 120) args).run P w = .ok (.enter (ρ.f 120) args) w := L.fswap.enters rfl
  have hdl := size_list hd
  simp only [List.length_append] at hdl
  have S0 : Aside (SWK enc k w0 blk off d w) := S
  have HD : Hid _ := hd
  obtain ⟨T, hT⟩ : ∃ T, T = A ++ (Y ++ (X ++ B)) := ⟨_, rfl⟩
  obtain ⟨N, hN⟩ : ∃ N, N = d.size := ⟨_, rfl⟩
  rw [← hN] at hdl hs hsz ⊢
  rw [← hT]
  obtain ⟨i0, hi0⟩ : ∃ i, i = X.length := ⟨_, rfl⟩
  obtain ⟨j0, hj0⟩ : ∃ i, i = Y.length := ⟨_, rfl⟩
  have hmi : IntKind.i64.wrap ((m : Int) - (a : Int)) = (i0 : Int) := by rw [IntKind.wrap_i64]; omega
  have hbi : IntKind.i64.wrap ((b : Int) - (m : Int)) = (j0 : Int) := by rw [IntKind.wrap_i64]; omega
  have hstart : ∃ (A1 X1 Y1 B1 : List α), Hid (A1.length + i0 = m ∧ X1.length = i0 ∧ Y1.length = j0 ∧ A1.length + i0 + j0 + B1.length = N) ∧ Hid (d.toList = A1 ++ (X1 ++ (Y1 ++ B1))) ∧ Hid (A1 ++ (Y1 ++ (X1 ++ B1)) = T) := ⟨A, X, Y, B, ⟨by omega, hi0.symm, hj0.symm, by omega⟩, HD, hT.symm⟩
  have hi1 : 0 < i0 := by omega
  have hj1 : 0 < j0 := by omega
  have hb1 : i0 ≤ m ∧ m + j0 ≤ N := by omega
  clear S hd HD hT hm hb hdl hN hX hY hi0 hj0
  go_enter FG, StB.rotR_ntmps ρ
  go_wp2
  go_loopg [10, 11] (i0 + j0) (fun kx s10 s11 wr => ∃ (i j : Nat) (dk : Array α) (A1 X1 Y1 B1 : List α), s10 = .int .i64 i ∧ s11 = .int .i64 j ∧ 0 < i ∧ 0 < j ∧ i + j ≤ kx ∧ i ≤ m ∧ m + j ≤ N ∧ Hid (A1.length + i = m ∧ X1.length = i ∧ Y1.length = j ∧ A1.length + i + j + B1.length = N) ∧ Hid (dk.toList = A1 ++ (X1 ++ (Y1 ++ B1))) ∧ Hid (A1 ++ (Y1 ++ (X1 ++ B1)) = T) ∧ Aside (SWK enc k w0 blk off dk wr))
  case atStart =>
    obtain ⟨A1, X1, Y1, B1, h1, h2, h3⟩ := hstart
    exact ⟨i0, j0, d, A1, X1, Y1, B1, by go_num, by go_num, hi1, hj1, Nat.le_refl _, hb1.1, hb1.2, h1, h2, h3, S0⟩
  case round =>
    clear S0 hstart hmi hbi
    obtain ⟨i, j, dk, A1, X1, Y1, B1, rfl, rfl, hi, hj, hkx, him, hmj, LL, HD, HT, S1⟩ := hrel
    have hsk := Lib.hid (size_list HD.out)
    have hw1 : IntKind.i64.wrap ((m : Int) - (i : Int)) = ((m - i : Nat) : Int) := by rw [IntKind.wrap_i64]; omega
    by_cases heq : i = j
    · subst heq
      have hc := Lib.hid (swapRange_any L k aE zE enc cap (m - i) m i A1 X1 [] Y1 B1 dk d0 blk off w0 wr g cb (by rw [HD.out]; simp) (by have := LL.out; omega) LL.out.2.1 LL.out.2.2.1 (by simp; omega) R (by have := LL.out; have := hsk.out; simp only [List.length_append] at this; omega) S1.out (by have := LL.out; have := hsk.out; simp only [List.length_append] at this; omega))
      rw [show dk.size = N by have := LL.out; have := hsk.out; simp only [List.length_append] at this; omega] at hc
      clear S1
      go_wp2_with (go_at_fn (ρ.f 120); refine hc.out.mono ?_; rintro e w1 ⟨rfl, d', hd', S2⟩; replace hd' := Lib.hid hd'; replace S2 : Aside _ := S2)
      go_end0
      exact ⟨rfl, d', by rw [hd'.out, ← HT.out]; simp, S2.out⟩
    · have hne : ¬ (i : Int) = (j : Int) := by omega
      have hneB : ((i : Int) != (j : Int)) = true := by simp [hne]
      by_cases hgt : j < i
      · have hgz : (j : Int) < (i : Int) := by omega
        have hsplit : ∃ Xa Xb : List α, Hid (X1 = Xa ++ Xb ∧ Xa.length = j ∧ Xb.length = i - j) := by
          obtain ⟨Xa, Xb, h1, h2⟩ := list_cut (L := X1) j (by have := LL.out; omega)
          refine ⟨Xa, Xb, h1, h2, ?_⟩
          have := LL.out.2.1
          rw [h1, List.length_append] at this
          omega
        obtain ⟨Xa, Xb, HS⟩ := hsplit
        have hc := Lib.hid (swapRange_any L k aE zE enc cap (m - i) m j A1 Xa Xb Y1 B1 dk d0 blk off w0 wr g cb (by rw [HD.out, HS.out.1]; simp) (by have := LL.out; omega) HS.out.2.1 LL.out.2.2.1 (by have := HS.out; omega) R (by have := LL.out; have := hsk.out; simp only [List.length_append] at this; omega) S1.out (by have := LL.out; have := hsk.out; simp only [List.length_append] at this; omega))
        rw [show dk.size = N by have := LL.out; have := hsk.out; simp only [List.length_append] at this; omega] at hc
        have hw2 : IntKind.i64.wrap ((i : Int) - (j : Int)) = ((i - j : Nat) : Int) := by rw [IntKind.wrap_i64]; omega
        clear S1
        go_wp2_with (go_at_fn (ρ.f 120); refine hc.out.mono ?_; rintro e w1 ⟨rfl, d', hd', S2⟩; replace hd' := Lib.hid hd'; replace S2 : Aside _ := S2)
        go_roundg (i - j + j)
        case measure => omega
        case rel =>
          refine ⟨i - j, j, d', A1 ++ Y1, Xb, Xa, B1, by go_num, by go_num, by omega, hj, Nat.le_refl _, by omega, hmj, ⟨?_, HS.out.2.2, HS.out.2.1, ?_⟩, ?_, ?_, S2⟩
          · have := LL.out; rw [List.length_append]; omega
          · have := LL.out; rw [List.length_append]; omega
          · show _ = _
            rw [hd'.out]; simp
          · show _ = _
            rw [← HT.out, HS.out.1]; simp
      · have hgz : ¬ (j : Int) < (i : Int) := by omega
        have hsplit : ∃ Ya Yb : List α, Hid (Y1 = Ya ++ Yb ∧ Ya.length = j - i ∧ Yb.length = i) := by
          obtain ⟨Xa, Xb, h1, h2⟩ := list_cut (L := Y1) (j - i) (by have := LL.out; omega)
          refine ⟨Xa, Xb, h1, h2, ?_⟩
          have := LL.out.2.2.1
          rw [h1, List.length_append] at this
          omega
        obtain ⟨Ya, Yb, HS⟩ := hsplit
        have hc := Lib.hid (swapRange_any L k aE zE enc cap (m - i) (m + j - i) i A1 X1 Ya Yb B1 dk d0 blk off w0 wr g cb (by rw [HD.out, HS.out.1]; simp) (by have := LL.out; omega) LL.out.2.1 HS.out.2.2 (by have := HS.out; omega) R (by have := LL.out; have := hsk.out; simp only [List.length_append] at this; omega) S1.out (by have := LL.out; have := hsk.out; simp only [List.length_append] at this; omega))
        rw [show dk.size = N by have := LL.out; have := hsk.out; simp only [List.length_append] at this; omega] at hc
        have hw2 : IntKind.i64.wrap ((j : Int) - (i : Int)) = ((j - i : Nat) : Int) := by rw [IntKind.wrap_i64]; omega
        have hw3 : IntKind.i64.wrap ((m : Int) + (j : Int)) = (m : Int) + (j : Int) := by rw [IntKind.wrap_i64]; omega
        have hw4 : IntKind.i64.wrap ((m : Int) + (j : Int) - (i : Int)) = ((m + j - i : Nat) : Int) := by rw [IntKind.wrap_i64]; omega
        clear S1
        go_wp2_with (go_at_fn (ρ.f 120); refine hc.out.mono ?_; rintro e w1 ⟨rfl, d', hd', S2⟩; replace hd' := Lib.hid hd'; replace S2 : Aside _ := S2)
        go_roundg (i + (j - i))
        case measure => omega
        case rel =>
          refine ⟨i, j - i, d', A1, Yb, Ya, X1 ++ B1, by go_num, by go_num, hi, by omega, Nat.le_refl _, him, by omega, ⟨?_, HS.out.2.2, HS.out.2.1, ?_⟩, ?_, ?_, S2⟩
          · have := LL.out; omega
          · have := LL.out; rw [List.length_append]; omega
          · show _ = _
            rw [hd'.out]
          · show _ = _
            rw [← HT.out, HS.out.1]; simp
end Go.Proofs.YtlifiioflkhkoaaGreat

/- Merging two runs in place, over any program that bears this function. Printed by mk_sy2.py. Conditions: as each states. -/
namespace Go.Proofs.YtlifiioflkhkoaaGreat
open Go.RowKit Go.Shelf Go.Lib Go.Sort Go.Proofs
set_option linter.unusedVariables false
set_option maxRecDepth 100000
variable {P : Program} {ρ : Ren} {α : Type} [Inhabited α]

set_option maxHeartbeats 16000000 in
set_option maxRecDepth 1000000 in
theorem symLeft_any (L : StL P ρ) (k : Nat) (aE : ∀ w, (isAgg (ρ.t 42)).run P w = .ok true w) (zE : ∀ w, (Go.sizeOf (ρ.t 42)).run P w = .ok k w) (enc : α → List Value) (cf : α → α → Int) (hO : SWO (ltOf cf)) (g : Nat) (cb : Array Value) (eg : ∀ args w, (callFunc g args).run P w = .ok (.enter g args) w) (d0 : Array α) (blk off : Nat) (w0 : World) (hcmp : CmpLays P g cb enc k cf blk off d0.size w0) (R : RowK enc k w0 blk off d0) (cap a m b : Nat) (A X Y B : List α) (d : Array α) (w : World) (hm1 : m = a + 1) : d.toList = A ++ (X ++ (Y ++ B)) → A.length = a → m = a + X.length → b = m + Y.length → 0 < X.length → 0 < Y.length → SortedL (ltOf cf) X → SortedL (ltOf cf) Y → d0.size = d.size → SWK enc k w0 blk off d w → d.size < 1000000000000 → Calls P (ρ.f 89) #[.slice (some ⟨blk, off, none⟩) d.size cap, .int .i64 a, .int .i64 m, .int .i64 b, .func (.func g) #[] cb] w fun e w' =>
      e = .returned (.tuple #[]) ∧ ∃ d' : Array α, d'.toList = A ++ (mrg (ltOf cf) X Y ++ B) ∧ SWK enc k w0 blk off d' w' := by
  have mixed := L.mixed; have t0 := L.t0; have a0 := L.a0; have z0 := L.z0; have v0 := L.v0; have t3 := L.t3; have a3 := L.a3; have z3 := L.z3; have v3 := L.v3; have t4 := L.t4; have a4 := L.a4; have z4 := L.z4; have v4 := L.v4; have tsl := L.tsl; have asl := L.asl; have zsl := L.zsl; have vsl := L.vsl; have tfn := L.tfn; have afn := L.afn; have zfn := L.zfn; have vfn := L.vfn; have tun := L.tun; have aun := L.aun; have zun := L.zun; have vun := L.vun
  obtain ⟨_, _, FG⟩ := L.fsym
  intro hd ha hm hb hX hY hsX hsY hs S hsz
  have hdl := size_list hd
  simp only [List.length_append] at hdl
  have S0 : Aside (SWK enc k w0 blk off d w) := S
  have HC : Aside (CmpLays P g cb enc k cf blk off d0.size w0) := hcmp
  have HD : Hid _ := hd
  obtain ⟨N, hN⟩ : ∃ N, N = d.size := ⟨_, rfl⟩
  rw [← hN] at hdl hs hsz ⊢
  have hN0 : d0.size = N := hs
  replace hN : Hid (d.size = N ∧ d0.size = N) := ⟨hN.symm, hs⟩
  have hab : a < m ∧ m < b ∧ b ≤ N := by omega
  have LL : Hid (A.length = a ∧ m = a + X.length ∧ b = m + Y.length ∧ N = A.length + (X.length + (Y.length + B.length))) := ⟨ha, hm, hb, hdl⟩
  replace hsX := Lib.hid hsX
  replace hsY := Lib.hid hsY
  replace hO : Aside (SWO (ltOf cf)) := hO
  obtain ⟨ham, hmb, hbN⟩ := hab
  clear S hd hdl hcmp hX hY ha hm hb hs hN0
  have hma : IntKind.i64.wrap ((m : Int) - (a : Int)) = 1 := by rw [IntKind.wrap_i64]; omega
  obtain ⟨x, HX⟩ : ∃ x, Hid (X = [x]) := by
    have : X.length = 1 := by have := LL.out; omega
    match X, this with
    | [x], _ => exact ⟨x, rfl⟩
  have HA : Hid (d[a]! = x) := at_mid' (A := A) (B := Y ++ B) (by rw [HD.out, HX.out]; rfl) LL.out.1
  replace hm1 := Lib.hid hm1
  go_enter FG, StB.symR_ntmps ρ
  go_wp2
  go_loopg [10, 11] (b - m) (fun kx s10 s11 wr => ∃ i j : Nat, s10 = .int .i64 i ∧ s11 = .int .i64 j ∧ m ≤ i ∧ i ≤ j ∧ j ≤ b ∧ j - i ≤ kx ∧ Hid (i = m ∨ ltOf cf d[i - 1]! x = true) ∧ Hid (j = b ∨ ltOf cf d[j]! x = false) ∧ Aside (SWK enc k w0 blk off d wr))
  case atStart => exact ⟨m, b, rfl, rfl, Nat.le_refl _, by omega, Nat.le_refl _, Nat.le_refl _, .inl rfl, .inl rfl, S0⟩
  case round =>
    clear S0
    obtain ⟨i, j, rfl, rfl, hmi, hij, hjb, hkx, HI, HJ, S1⟩ := hrel
    by_cases hlt : i < j
    · obtain ⟨h, hh⟩ : ∃ h : Nat, ((i : Int) + (j : Int)) / 2 = (h : Int) := ⟨(i + j) / 2, by omega⟩
      have hh1 : i ≤ h ∧ h < j := by omega
      cases hL : ltOf cf d[h]! d[a]! with
      | true =>
        have ea5 : ((h : Int)).toNat = h := by omega
        have pa5 : (0 : Int) ≤ (h : Int) := by omega
        have ba5 : (h : Int) < (N : Int) := by omega
        have ra5 : IntKind.i64.wrap ((h : Int)) = (h : Int) := by rw [IntKind.wrap_i64]; omega
        have ec5 : ((a : Int)).toNat = a := by omega
        have pc5 : (0 : Int) ≤ (a : Int) := by omega
        have bc5 : (a : Int) < (N : Int) := by omega
        have rc5 : IntKind.i64.wrap ((a : Int)) = (a : Int) := by rw [IntKind.wrap_i64]; omega
        obtain ⟨x5, hx5⟩ : ∃ x, x = d[h]! := ⟨_, rfl⟩
        obtain ⟨y5, hy5⟩ : ∃ x, x = d[a]! := ⟨_, rfl⟩
        have la := S1.out.ld R (by have := hN.out; omega) P (h) (by have := hN.out; omega)
        have lb := S1.out.ld R (by have := hN.out; omega) P (a) (by have := hN.out; omega)
        rw [← hx5] at la
        rw [← hy5] at lb
        have hc5 := S1.out.cmp HC.out (by have := hN.out; omega) x5 y5
        have hv5 : cf x5 y5 < 0 := by rw [hx5, hy5]; exact of_decide_eq_true hL
        have hd5 : decide (cf x5 y5 < 0) = true := decide_eq_true hv5
        replace hL := Lib.hid hL
        clear hx5 hy5
        go_wp2_with fail
        go_quiet_grown (first | (go_at_fn g; refine Calls.grown_of (hc5 _ _)))
        have S2 : Aside (SWK enc k w0 blk off d (grow (wr.drewN nq) osq)) := S1.out.grown nq osq
        clear la lb hc5 S1
        generalize grow (wr.drewN nq) osq = w2 at S2 ⊢
        clear nq osq
        go_wp2
        go_roundg (j - (h + 1))
        case measure => omega
        case rel => exact ⟨h + 1, j, by go_num, rfl, by omega, by omega, hjb, Nat.le_refl _, .inr (by rw [Nat.add_sub_cancel, ← HA.out]; exact hL.out), HJ, S2⟩
      | false =>
        have ea5 : ((h : Int)).toNat = h := by omega
        have pa5 : (0 : Int) ≤ (h : Int) := by omega
        have ba5 : (h : Int) < (N : Int) := by omega
        have ra5 : IntKind.i64.wrap ((h : Int)) = (h : Int) := by rw [IntKind.wrap_i64]; omega
        have ec5 : ((a : Int)).toNat = a := by omega
        have pc5 : (0 : Int) ≤ (a : Int) := by omega
        have bc5 : (a : Int) < (N : Int) := by omega
        have rc5 : IntKind.i64.wrap ((a : Int)) = (a : Int) := by rw [IntKind.wrap_i64]; omega
        obtain ⟨x5, hx5⟩ : ∃ x, x = d[h]! := ⟨_, rfl⟩
        obtain ⟨y5, hy5⟩ : ∃ x, x = d[a]! := ⟨_, rfl⟩
        have la := S1.out.ld R (by have := hN.out; omega) P (h) (by have := hN.out; omega)
        have lb := S1.out.ld R (by have := hN.out; omega) P (a) (by have := hN.out; omega)
        rw [← hx5] at la
        rw [← hy5] at lb
        have hc5 := S1.out.cmp HC.out (by have := hN.out; omega) x5 y5
        have hv5 : ¬ cf x5 y5 < 0 := by rw [hx5, hy5]; exact of_decide_eq_false hL
        have hd5 : decide (cf x5 y5 < 0) = false := decide_eq_false hv5
        replace hL := Lib.hid hL
        clear hx5 hy5
        go_wp2_with fail
        go_quiet_grown (first | (go_at_fn g; refine Calls.grown_of (hc5 _ _)))
        have S2 : Aside (SWK enc k w0 blk off d (grow (wr.drewN nq) osq)) := S1.out.grown nq osq
        clear la lb hc5 S1
        generalize grow (wr.drewN nq) osq = w2 at S2 ⊢
        clear nq osq
        go_wp2
        go_roundg (h - i)
        case measure => omega
        case rel => exact ⟨i, h, rfl, by go_num, hmi, by omega, by omega, Nat.le_refl _, HI, .inr (by rw [← HA.out]; exact hL.out), S2⟩
    · have hij2 : i = j := by omega
      subst hij2
      obtain ⟨Y1, Y2, HY⟩ : ∃ Y1 Y2, Hid (Y = Y1 ++ Y2 ∧ Y1.length = i - m ∧ (Y1 = [] ∨ ∃ Y' y, Y1 = Y' ++ [y] ∧ ltOf cf y x = true) ∧ (Y2 = [] ∨ ∃ y Y', Y2 = y :: Y' ∧ ltOf cf y x = false)) := by
        have hl := LL.out
        obtain ⟨Y1, Y2, h1, h2, h3, h4⟩ := cut_at (d := d) (A := A ++ X) (X := Y) (B := B) (by rw [HD.out]; simp) i (by rw [List.length_append]; omega) (by rw [List.length_append]; omega)
        rw [List.length_append] at h2 h3 h4
        refine ⟨Y1, Y2, h1, by omega, ?_, ?_⟩
        · rcases h3 with ⟨_, h3⟩ | ⟨Y', y, h3, h5⟩
          · exact .inl h3
          · rcases HI.out with h6 | h6
            · rw [h3] at h2; simp at h2; omega
            · exact .inr ⟨Y', y, h3, by rw [← h5]; exact h6⟩
        · rcases h4 with ⟨_, h4⟩ | ⟨y, Y', h4, h5⟩
          · exact .inl h4
          · rcases HJ.out with h6 | h6
            · have := congrArg List.length h1
              rw [h4, List.length_append, List.length_cons] at this
              omega
            · exact .inr ⟨y, Y', h4, by rw [← h5]; exact h6⟩
      have HF : Hid (mrg (ltOf cf) X Y = Y1 ++ x :: Y2) := by
        have hsy := hsY.out
        rw [HY.out.1] at hsy
        show _ = _
        rw [HX.out, HY.out.1]
        exact mrg_one_l hO.out hsy HY.out.2.2.1 HY.out.2.2.2
      have hwi : IntKind.i64.wrap ((i : Int) - 1) = (i : Int) - 1 := by rw [IntKind.wrap_i64]; omega
      have HD0 : Hid (d.toList = A ++ ([] ++ (x :: (Y1 ++ (Y2 ++ B))))) := by
        show _ = _
        rw [HD.out, HX.out, HY.out.1]; simp
      have him1 : a + 1 ≤ i := by omega
      clear HI HJ hkx
      go_wp2_with fail
      go_loopg [13] (i - 1 - a) (fun kx s13 wr => ∃ (q : Nat) (dk : Array α) (Yd Yr : List α), s13 = .int .i64 q ∧ a ≤ q ∧ q + 1 ≤ i ∧ i - 1 - q ≤ kx ∧ Hid (Y1 = Yd ++ Yr ∧ Yd.length = q - a ∧ dk.toList = A ++ (Yd ++ (x :: (Yr ++ (Y2 ++ B))))) ∧ Aside (SWK enc k w0 blk off dk wr))
      case atStart => exact ⟨a, d, [], Y1, rfl, Nat.le_refl _, him1, by omega, ⟨rfl, by simp, HD0.out⟩, S1⟩
      case round =>
        clear S1 HD0
        obtain ⟨q, dk, Yd, Yr, rfl, haq, hqi, hkx, HK, S2⟩ := hrel
        have hdk : dk.size = N := by
          have h1 := size_list HK.out.2.2
          have h2 := LL.out
          have h3 := congrArg List.length HY.out.1
          have h4 := congrArg List.length HK.out.1
          have h5 := congrArg List.length HX.out
          simp only [List.length_append, List.length_cons, List.length_nil] at h1 h3 h4 h5
          omega
        replace hN : Hid (dk.size = N ∧ d0.size = N) := ⟨hdk, hN.out.2⟩
        clear hdk
        by_cases hlt : q + 1 < i
        · have hyr : ∃ y Yr', Hid (Yr = y :: Yr') := by
            cases Yr with
            | nil =>
              exfalso
              have h2 := HY.out.2.1
              have h3 := HK.out.2.1
              rw [HK.out.1, List.length_append, List.length_nil] at h2
              have := LL.out
              have := hm1.out
              omega
            | cons y t => exact ⟨y, t, rfl⟩
          obtain ⟨y, Yr', HYr⟩ := hyr
          have hsw : Hid ((swp dk q (q + 1)).toList = A ++ ((Yd ++ [y]) ++ (x :: (Yr' ++ (Y2 ++ B))))) := by
            have hl := HK.out
            have hl2 := LL.out
            have := swp_list' (d := dk) (A := A ++ Yd) (B := []) (C := Yr' ++ (Y2 ++ B)) (x := x) (y := y) (i := q) (j := q + 1) (by rw [hl.2.2, HYr.out]; simp) (by simp; omega) (by simp; omega)
            show _ = _
            rw [this]; simp
          have hlz : (q : Int) < (i : Int) - 1 := by omega
          go_wp2_with fail
          have eaS3 : ((q : Int)).toNat = q := by omega
          have paS3 : (0 : Int) ≤ (q : Int) := by omega
          have baS3 : (q : Int) < (N : Int) := by omega
          have raS3 : IntKind.i64.wrap ((q : Int)) = (q : Int) := by rw [IntKind.wrap_i64]; omega
          have ecS3 : ((q : Int) + 1).toNat = q + 1 := by omega
          have pcS3 : (0 : Int) ≤ (q : Int) + 1 := by omega
          have bcS3 : (q : Int) + 1 < (N : Int) := by omega
          have rcS3 : IntKind.i64.wrap ((q : Int) + 1) = (q : Int) + 1 := by rw [IntKind.wrap_i64]; omega
          have S3 : Aside (SWK enc k w0 blk off (swp dk (q) (q + 1)) ((wr.drew.setCells blk (off + (q) * k) (enc dk[q + 1]!)).setCells blk (off + (q + 1) * k) (enc dk[q]!))) := S2.out.swapped R (q) (q + 1) (by have := hN.out; omega) (by have := hN.out; omega)
          have l1 := S2.out.ld1 R (by have := hN.out; omega) P (q) (by have := hN.out; omega)
          have l2 := S2.out.ld1 R (by have := hN.out; omega) P (q + 1) (by have := hN.out; omega)
          have s1 := S2.out.st1 R (by have := hN.out; omega) P (q) (by have := hN.out; omega) dk[q + 1]!
          have s2 := S2.out.st2 R (by have := hN.out; omega) P (q) (q + 1) (by have := hN.out; omega) (by have := hN.out; omega) dk[q + 1]! dk[q]!
          have n1 : (enc dk[q]!).length = k := R.hk _
          have n2 : (enc dk[q + 1]!).length = k := R.hk _
          generalize enc dk[q]! = cI at S3 l1 s2 n1
          generalize enc dk[q + 1]! = cJ at S3 l2 s1 s2 n2
          clear S2 
          go_wp2_with fail
          go_big_region_o
          clear l1 l2 s1 s2
          generalize (wr.drew.setCells blk (off + (q) * k) cJ).setCells blk (off + (q + 1) * k) cI = w2 at S3 ⊢
          go_wp2
          go_roundg (i - 1 - (q + 1))
          case measure => omega
          case rel => exact ⟨q + 1, swp dk q (q + 1), Yd ++ [y], Yr', by go_num, by omega, by omega, Nat.le_refl _, ⟨by rw [HK.out.1, HYr.out]; simp, by have := HK.out.2.1; simp; omega, hsw.out⟩, S3⟩
        · have hlz : ¬ (q : Int) < (i : Int) - 1 := by omega
          have hyr : Yr = [] := by
            have h2 := HY.out.2.1
            have h3 := HK.out.2.1
            have h4 := LL.out
            have h5 := hm1.out
            rw [HK.out.1, List.length_append] at h2
            exact List.eq_nil_of_length_eq_zero (by omega)
          subst hyr
          go_wp2
          (try simp only [Exit.inBlock, Exit.then]); refine bodyPost_ret (results_none rfl _ _ _) rfl ?_
          refine ⟨rfl, dk, ?_, S2.out⟩
          rw [HK.out.2.2, HF.out, HK.out.1]; simp

omit [Inhabited α] in
theorem snoc_of {L : List α} (h : 0 < L.length) : ∃ A x, L = A ++ [x] := ⟨L.dropLast, L.getLast (by intro h0; rw [h0] at h; simp at h), (List.dropLast_concat_getLast _).symm⟩
theorem swp_list2 {d : Array α} {A C : List α} {x y : α} {i j : Nat} (h : d.toList = A ++ x :: y :: C) (hi : A.length + 1 = i) (hj : A.length = j) : (swp d i j).toList = A ++ y :: x :: C := by
  have hx : d[j]! = x := at_mid' (A := A) (B := y :: C) h hj
  have hy : d[i]! = y := at_mid' (A := A ++ [x]) (B := C) (by rw [h]; simp) (by simp; omega)
  unfold swp
  rw [hx, hy]
  simp only [Array.toList_setIfInBounds, h]
  subst hi hj
  rw [List.set_append_right _ _ (by omega), show A.length + 1 - A.length = 1 by omega]
  simp only [List.set_cons_succ, List.set_cons_zero]
  rw [List.set_append_right _ _ (Nat.le_refl _), Nat.sub_self, List.set_cons_zero]

set_option maxHeartbeats 16000000 in
set_option maxRecDepth 1000000 in
theorem symRight_any (L : StL P ρ) (k : Nat) (aE : ∀ w, (isAgg (ρ.t 42)).run P w = .ok true w) (zE : ∀ w, (Go.sizeOf (ρ.t 42)).run P w = .ok k w) (enc : α → List Value) (cf : α → α → Int) (hO : SWO (ltOf cf)) (g : Nat) (cb : Array Value) (eg : ∀ args w, (callFunc g args).run P w = .ok (.enter g args) w) (d0 : Array α) (blk off : Nat) (w0 : World) (hcmp : CmpLays P g cb enc k cf blk off d0.size w0) (R : RowK enc k w0 blk off d0) (cap a m b : Nat) (A X Y B : List α) (d : Array α) (w : World) (hm0 : a + 1 < m) (hm1 : b = m + 1) : d.toList = A ++ (X ++ (Y ++ B)) → A.length = a → m = a + X.length → b = m + Y.length → 0 < X.length → 0 < Y.length → SortedL (ltOf cf) X → SortedL (ltOf cf) Y → d0.size = d.size → SWK enc k w0 blk off d w → d.size < 1000000000000 → Calls P (ρ.f 89) #[.slice (some ⟨blk, off, none⟩) d.size cap, .int .i64 a, .int .i64 m, .int .i64 b, .func (.func g) #[] cb] w fun e w' =>
      e = .returned (.tuple #[]) ∧ ∃ d' : Array α, d'.toList = A ++ (mrg (ltOf cf) X Y ++ B) ∧ SWK enc k w0 blk off d' w' := by
  have mixed := L.mixed; have t0 := L.t0; have a0 := L.a0; have z0 := L.z0; have v0 := L.v0; have t3 := L.t3; have a3 := L.a3; have z3 := L.z3; have v3 := L.v3; have t4 := L.t4; have a4 := L.a4; have z4 := L.z4; have v4 := L.v4; have tsl := L.tsl; have asl := L.asl; have zsl := L.zsl; have vsl := L.vsl; have tfn := L.tfn; have afn := L.afn; have zfn := L.zfn; have vfn := L.vfn; have tun := L.tun; have aun := L.aun; have zun := L.zun; have vun := L.vun
  obtain ⟨_, _, FG⟩ := L.fsym
  intro hd ha hm hb hX hY hsX hsY hs S hsz
  have hdl := size_list hd
  simp only [List.length_append] at hdl
  have S0 : Aside (SWK enc k w0 blk off d w) := S
  have HC : Aside (CmpLays P g cb enc k cf blk off d0.size w0) := hcmp
  have HD : Hid _ := hd
  obtain ⟨N, hN⟩ : ∃ N, N = d.size := ⟨_, rfl⟩
  rw [← hN] at hdl hs hsz ⊢
  have hN0 : d0.size = N := hs
  replace hN : Hid (d.size = N ∧ d0.size = N) := ⟨hN.symm, hs⟩
  have hab : a < m ∧ m < b ∧ b ≤ N := by omega
  have LL : Hid (A.length = a ∧ m = a + X.length ∧ b = m + Y.length ∧ N = A.length + (X.length + (Y.length + B.length))) := ⟨ha, hm, hb, hdl⟩
  replace hsX := Lib.hid hsX
  replace hsY := Lib.hid hsY
  replace hO : Aside (SWO (ltOf cf)) := hO
  obtain ⟨ham, hmb, hbN⟩ := hab
  clear S hd hdl hcmp hX hY ha hm hb hs hN0
  have hma : IntKind.i64.wrap ((b : Int) - (m : Int)) = 1 := by rw [IntKind.wrap_i64]; omega
  have hma0 : IntKind.i64.wrap ((m : Int) - (a : Int)) = (m : Int) - (a : Int) := by rw [IntKind.wrap_i64]; omega
  have hm00 : ((m : Int) - (a : Int) == 1) = false := by simp; omega
  have hm01 : ¬ (m : Int) - (a : Int) = 1 := by omega
  obtain ⟨y, HY⟩ : ∃ y, Hid (Y = [y]) := by
    have : Y.length = 1 := by have := LL.out; omega
    match Y, this with
    | [y], _ => exact ⟨y, rfl⟩
  have HA : Hid (d[m]! = y) := at_mid' (A := A ++ X) (B := B) (by rw [HD.out, HY.out]; simp) (by have := LL.out; simp; omega)
  replace hm1 := Lib.hid hm1
  go_enter FG, StB.symR_ntmps ρ
  go_wp2
  go_loopg [14, 15] (m - a) (fun kx s10 s11 wr => ∃ i j : Nat, s10 = .int .i64 i ∧ s11 = .int .i64 j ∧ a ≤ i ∧ i ≤ j ∧ j ≤ m ∧ j - i ≤ kx ∧ Hid (i = a ∨ ltOf cf y d[i - 1]! = false) ∧ Hid (j = m ∨ ltOf cf y d[j]! = true) ∧ Aside (SWK enc k w0 blk off d wr))
  case atStart => exact ⟨a, m, rfl, rfl, Nat.le_refl _, by omega, Nat.le_refl _, Nat.le_refl _, .inl rfl, .inl rfl, S0⟩
  case round =>
    clear S0
    obtain ⟨i, j, rfl, rfl, hmi, hij, hjb, hkx, HI, HJ, S1⟩ := hrel
    by_cases hlt : i < j
    · obtain ⟨h, hh⟩ : ∃ h : Nat, ((i : Int) + (j : Int)) / 2 = (h : Int) := ⟨(i + j) / 2, by omega⟩
      have hh1 : i ≤ h ∧ h < j := by omega
      cases hL : ltOf cf d[m]! d[h]! with
      | true =>
        have ea5 : ((m : Int)).toNat = m := by omega
        have pa5 : (0 : Int) ≤ (m : Int) := by omega
        have ba5 : (m : Int) < (N : Int) := by omega
        have ra5 : IntKind.i64.wrap ((m : Int)) = (m : Int) := by rw [IntKind.wrap_i64]; omega
        have ec5 : ((h : Int)).toNat = h := by omega
        have pc5 : (0 : Int) ≤ (h : Int) := by omega
        have bc5 : (h : Int) < (N : Int) := by omega
        have rc5 : IntKind.i64.wrap ((h : Int)) = (h : Int) := by rw [IntKind.wrap_i64]; omega
        obtain ⟨x5, hx5⟩ : ∃ x, x = d[m]! := ⟨_, rfl⟩
        obtain ⟨y5, hy5⟩ : ∃ x, x = d[h]! := ⟨_, rfl⟩
        have la := S1.out.ld R (by have := hN.out; omega) P (m) (by have := hN.out; omega)
        have lb := S1.out.ld R (by have := hN.out; omega) P (h) (by have := hN.out; omega)
        rw [← hx5] at la
        rw [← hy5] at lb
        have hc5 := S1.out.cmp HC.out (by have := hN.out; omega) x5 y5
        have hv5 : cf x5 y5 < 0 := by rw [hx5, hy5]; exact of_decide_eq_true hL
        have hd5 : decide (cf x5 y5 < 0) = true := decide_eq_true hv5
        replace hL := Lib.hid hL
        clear hx5 hy5
        go_wp2_with fail
        go_quiet_grown (first | (go_at_fn g; refine Calls.grown_of (hc5 _ _)))
        have S2 : Aside (SWK enc k w0 blk off d (grow (wr.drewN nq) osq)) := S1.out.grown nq osq
        clear la lb hc5 S1
        generalize grow (wr.drewN nq) osq = w2 at S2 ⊢
        clear nq osq
        go_wp2
        go_roundg (h - i)
        case measure => omega
        case rel => exact ⟨i, h, rfl, by go_num, hmi, by omega, by omega, Nat.le_refl _, HI, .inr (by rw [← HA.out]; exact hL.out), S2⟩
      | false =>
        have ea5 : ((m : Int)).toNat = m := by omega
        have pa5 : (0 : Int) ≤ (m : Int) := by omega
        have ba5 : (m : Int) < (N : Int) := by omega
        have ra5 : IntKind.i64.wrap ((m : Int)) = (m : Int) := by rw [IntKind.wrap_i64]; omega
        have ec5 : ((h : Int)).toNat = h := by omega
        have pc5 : (0 : Int) ≤ (h : Int) := by omega
        have bc5 : (h : Int) < (N : Int) := by omega
        have rc5 : IntKind.i64.wrap ((h : Int)) = (h : Int) := by rw [IntKind.wrap_i64]; omega
        obtain ⟨x5, hx5⟩ : ∃ x, x = d[m]! := ⟨_, rfl⟩
        obtain ⟨y5, hy5⟩ : ∃ x, x = d[h]! := ⟨_, rfl⟩
        have la := S1.out.ld R (by have := hN.out; omega) P (m) (by have := hN.out; omega)
        have lb := S1.out.ld R (by have := hN.out; omega) P (h) (by have := hN.out; omega)
        rw [← hx5] at la
        rw [← hy5] at lb
        have hc5 := S1.out.cmp HC.out (by have := hN.out; omega) x5 y5
        have hv5 : ¬ cf x5 y5 < 0 := by rw [hx5, hy5]; exact of_decide_eq_false hL
        have hd5 : decide (cf x5 y5 < 0) = false := decide_eq_false hv5
        replace hL := Lib.hid hL
        clear hx5 hy5
        go_wp2_with fail
        go_quiet_grown (first | (go_at_fn g; refine Calls.grown_of (hc5 _ _)))
        have S2 : Aside (SWK enc k w0 blk off d (grow (wr.drewN nq) osq)) := S1.out.grown nq osq
        clear la lb hc5 S1
        generalize grow (wr.drewN nq) osq = w2 at S2 ⊢
        clear nq osq
        go_wp2
        go_roundg (j - (h + 1))
        case measure => omega
        case rel => exact ⟨h + 1, j, by go_num, rfl, by omega, by omega, hjb, Nat.le_refl _, .inr (by rw [Nat.add_sub_cancel, ← HA.out]; exact hL.out), HJ, S2⟩
    · have hij2 : i = j := by omega
      subst hij2
      obtain ⟨X1, X2, HX⟩ : ∃ X1 X2, Hid (X = X1 ++ X2 ∧ X1.length = i - a ∧ (X1 = [] ∨ ∃ X' x, X1 = X' ++ [x] ∧ ltOf cf y x = false) ∧ (X2 = [] ∨ ∃ x X', X2 = x :: X' ∧ ltOf cf y x = true)) := by
        have hl := LL.out
        obtain ⟨X1, X2, h1, h2, h3, h4⟩ := cut_at (d := d) (A := A) (X := X) (B := Y ++ B) HD.out i (by omega) (by omega)
        refine ⟨X1, X2, h1, by omega, ?_, ?_⟩
        · rcases h3 with ⟨_, h3⟩ | ⟨Y', y', h3, h5⟩
          · exact .inl h3
          · rcases HI.out with h6 | h6
            · rw [h3] at h2; simp at h2; omega
            · exact .inr ⟨Y', y', h3, by rw [← h5]; exact h6⟩
        · rcases h4 with ⟨_, h4⟩ | ⟨y', Y', h4, h5⟩
          · exact .inl h4
          · rcases HJ.out with h6 | h6
            · have := congrArg List.length h1
              rw [h4, List.length_append, List.length_cons] at this
              omega
            · exact .inr ⟨y', Y', h4, by rw [← h5]; exact h6⟩
      have HF : Hid (mrg (ltOf cf) X Y = X1 ++ y :: X2) := by
        have hsx := hsX.out
        rw [HX.out.1] at hsx
        show _ = _
        rw [HY.out, HX.out.1]
        exact mrg_one_r hO.out hsx HX.out.2.2.1 HX.out.2.2.2
      have HD0 : Hid (d.toList = A ++ (X1 ++ (X2 ++ (y :: ([] ++ B))))) := by
        show _ = _
        rw [HD.out, HX.out.1, HY.out]; simp
      have HL2 : Hid (X2.length = m - i) := by
        have := LL.out
        have h3 := congrArg List.length HX.out.1
        have h4 := HX.out.2.1
        rw [List.length_append] at h3
        show _ = _
        omega
      clear HI HJ hkx
      go_wp2_with fail
      go_loopg [17] (m - i) (fun kx s17 wr => ∃ (q : Nat) (dk : Array α) (Xl Xr : List α), s17 = .int .i64 q ∧ i ≤ q ∧ q ≤ m ∧ q - i ≤ kx ∧ Hid (X2 = Xl ++ Xr ∧ Xl.length = q - i ∧ dk.toList = A ++ (X1 ++ (Xl ++ (y :: (Xr ++ B))))) ∧ Aside (SWK enc k w0 blk off dk wr))
      case atStart => exact ⟨m, d, X2, [], rfl, hjb, Nat.le_refl _, Nat.le_refl _, ⟨by simp, HL2.out, HD0.out⟩, S1⟩
      case round =>
        clear S1 HD0
        obtain ⟨q, dk, Xl, Xr, rfl, haq, hqi, hkx, HK, S2⟩ := hrel
        have hdk : dk.size = N := by
          have h1 := size_list HK.out.2.2
          have h2 := LL.out
          have h3 := congrArg List.length HX.out.1
          have h4 := congrArg List.length HK.out.1
          have h5 := congrArg List.length HY.out
          simp only [List.length_append, List.length_cons, List.length_nil] at h1 h3 h4 h5
          omega
        replace hN : Hid (dk.size = N ∧ d0.size = N) := ⟨hdk, hN.out.2⟩
        clear hdk
        by_cases hlt : i < q
        · have hyr : ∃ Xl' x, Hid (Xl = Xl' ++ [x]) := by
            obtain ⟨A, x, h⟩ := snoc_of (L := Xl) (by have := HK.out.2.1; omega)
            exact ⟨A, x, h⟩
          obtain ⟨Xl', x, HYr⟩ := hyr
          have hsw : Hid ((swp dk q (q - 1)).toList = A ++ (X1 ++ (Xl' ++ (y :: ((x :: Xr) ++ B))))) := by
            have hl := HK.out
            have hl2 := LL.out
            have h5 := HX.out.2.1
            have h6 := hl.2.1
            rw [HYr.out, List.length_append, List.length_singleton] at h6
            have := swp_list2 (d := dk) (A := A ++ (X1 ++ Xl')) (C := Xr ++ B) (x := x) (y := y) (i := q) (j := q - 1) (by rw [hl.2.2, HYr.out]; simp) (by simp; omega) (by simp; omega)
            show _ = _
            rw [this]; simp
          have hlz : (i : Int) < (q : Int) := by omega
          go_wp2_with fail
          have eaS3 : ((q : Int)).toNat = q := by omega
          have paS3 : (0 : Int) ≤ (q : Int) := by omega
          have baS3 : (q : Int) < (N : Int) := by omega
          have raS3 : IntKind.i64.wrap ((q : Int)) = (q : Int) := by rw [IntKind.wrap_i64]; omega
          have ecS3 : ((q : Int) - 1).toNat = q - 1 := by omega
          have pcS3 : (0 : Int) ≤ (q : Int) - 1 := by omega
          have bcS3 : (q : Int) - 1 < (N : Int) := by omega
          have rcS3 : IntKind.i64.wrap ((q : Int) - 1) = (q : Int) - 1 := by rw [IntKind.wrap_i64]; omega
          have S3 : Aside (SWK enc k w0 blk off (swp dk (q) (q - 1)) ((wr.drew.setCells blk (off + (q) * k) (enc dk[q - 1]!)).setCells blk (off + (q - 1) * k) (enc dk[q]!))) := S2.out.swapped R (q) (q - 1) (by have := hN.out; omega) (by have := hN.out; omega)
          have l1 := S2.out.ld1 R (by have := hN.out; omega) P (q) (by have := hN.out; omega)
          have l2 := S2.out.ld1 R (by have := hN.out; omega) P (q - 1) (by have := hN.out; omega)
          have s1 := S2.out.st1 R (by have := hN.out; omega) P (q) (by have := hN.out; omega) dk[q - 1]!
          have s2 := S2.out.st2 R (by have := hN.out; omega) P (q) (q - 1) (by have := hN.out; omega) (by have := hN.out; omega) dk[q - 1]! dk[q]!
          have n1 : (enc dk[q]!).length = k := R.hk _
          have n2 : (enc dk[q - 1]!).length = k := R.hk _
          generalize enc dk[q]! = cI at S3 l1 s2 n1
          generalize enc dk[q - 1]! = cJ at S3 l2 s1 s2 n2
          clear S2 
          go_wp2_with fail
          go_big_region_o
          clear l1 l2 s1 s2
          generalize (wr.drew.setCells blk (off + (q) * k) cJ).setCells blk (off + (q - 1) * k) cI = w2 at S3 ⊢
          go_wp2
          go_roundg (q - 1 - i)
          case measure => omega
          case rel => exact ⟨q - 1, swp dk q (q - 1), Xl', x :: Xr, by go_num, by omega, by omega, Nat.le_refl _, ⟨by rw [HK.out.1, HYr.out]; simp, by have := HK.out.2.1; rw [HYr.out] at this; simp at this; omega, hsw.out⟩, S3⟩
        · have hlz : ¬ (i : Int) < (q : Int) := by omega
          have hyr : Xl = [] := List.eq_nil_of_length_eq_zero (by have := HK.out.2.1; omega)
          subst hyr
          go_wp2
          (try simp only [Exit.inBlock, Exit.then]); refine bodyPost_ret (results_none rfl _ _ _) rfl ?_
          refine ⟨rfl, dk, ?_, S2.out⟩
          rw [HK.out.2.2, HF.out, HK.out.1]; simp

end Go.Proofs.YtlifiioflkhkoaaGreat

