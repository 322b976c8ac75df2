/- A state of the hint machine that came in, opened. No walk in sight. Conditions: none. -/
import Derived.Test.YtgngcllodofimaaHinter
namespace Go.Proofs.Ytgngcllodofimaa
open Go.RowKit Go.ChangeShapes Go.WideShapes Go.Deep
set_option linter.unusedVariables false
set_option maxRecDepth 100000

def hinC (d : HinterD) (h : HinterH) : List Value := [.int .i64 d.size, .slice h.orig.A h.orig.n h.orig.c, .slice h.now.A h.now.n h.now.c, .slice h.tx.A h.tx.n h.tx.c, .slice h.ty.A h.ty.n h.ty.c, .slice h.ends.A h.ends.n h.ends.c, .slice h.values.A h.values.n h.values.c, .slice h.stack.A h.stack.n h.stack.c, .bool d.axisY, .int .i64 d.ref, .int .i64 d.state, .int .i64 d.cut, .int .i64 d.least]

theorem opens_lPt : Opens Try.prog 228 (FlatR ptC) := by
  intro H enc w fuel cs x h
  obtain ⟨hl, hf⟩ := struct_fields Try.underlying228 h
  have hc : Try.prog.cellsOf 228 = 2 := by kernel_rfl
  have hi : Try.prog.cellsOf 2 = 1 := by kernel_rfl
  rw [hc] at hl
  match cs, hl with
  | [c0, c1], _ =>
    obtain ⟨n0, y0, h0⟩ := struct_field hf 0 2 0 1 rfl rfl rfl hi
    obtain ⟨n1, y1, h1⟩ := struct_field hf 1 2 1 1 rfl rfl rfl hi
    obtain ⟨x0, e0⟩ := opens_int Try.underlying2 h0
    obtain ⟨x1, e1⟩ := opens_int Try.underlying2 h1
    simp [FlatR] at e0 e1
    subst e0 e1
    exact ⟨(x0, x1), rfl⟩

theorem opens_Hinter {H : Type} {enc : TypeId × Value → H} {w : World} {fuel : Nat} {cs : List Value} {x : DataW H × List MemPlace} (h : DataW.trod enc Try.prog w 0 (fun _ => true) true fuel 79 cs = some x) :
    ∃ d hh, cs = hinC d hh ∧ HinterRd w 0 w.heap.size d hh ∧ hh.small maxLen := by
  obtain ⟨hl, hf⟩ := struct_fields Try.underlying79 h
  have hc : Try.prog.cellsOf 79 = 13 := by kernel_rfl
  have hi : Try.prog.cellsOf 2 = 1 := by kernel_rfl
  have hb : Try.prog.cellsOf 4 = 1 := by kernel_rfl
  have hp : Try.prog.cellsOf 77 = 1 := by kernel_rfl
  have hn : Try.prog.cellsOf 60 = 1 := by kernel_rfl
  have hs : Try.prog.cellsOf 63 = 1 := by kernel_rfl
  have hp2 : Try.prog.cellsOf 228 = 2 := by kernel_rfl
  rw [hc] at hl
  match cs, hl with
  | [c0, c1, c2, c3, c4, c5, c6, c7, c8, c9, c10, c11, c12], _ =>
    obtain ⟨n0, y0, h0⟩ := struct_field hf 0 2 0 1 rfl rfl rfl hi
    obtain ⟨n1, y1, h1⟩ := struct_field hf 1 77 1 1 rfl rfl rfl hp
    obtain ⟨n2, y2, h2⟩ := struct_field hf 2 77 2 1 rfl rfl rfl hp
    obtain ⟨n3, y3, h3⟩ := struct_field hf 3 63 3 1 rfl rfl rfl hs
    obtain ⟨n4, y4, h4⟩ := struct_field hf 4 63 4 1 rfl rfl rfl hs
    obtain ⟨n5, y5, h5⟩ := struct_field hf 5 60 5 1 rfl rfl rfl hn
    obtain ⟨n6, y6, h6⟩ := struct_field hf 6 60 6 1 rfl rfl rfl hn
    obtain ⟨n7, y7, h7⟩ := struct_field hf 7 60 7 1 rfl rfl rfl hn
    obtain ⟨n8, y8, h8⟩ := struct_field hf 8 4 8 1 rfl rfl rfl hb
    obtain ⟨n9, y9, h9⟩ := struct_field hf 9 2 9 1 rfl rfl rfl hi
    obtain ⟨n10, y10, h10⟩ := struct_field hf 10 2 10 1 rfl rfl rfl hi
    obtain ⟨n11, y11, h11⟩ := struct_field hf 11 2 11 1 rfl rfl rfl hi
    obtain ⟨n12, y12, h12⟩ := struct_field hf 12 2 12 1 rfl rfl rfl hi
    obtain ⟨x0, e0⟩ := opens_int Try.underlying2 h0
    obtain ⟨x1, A1, l1, k1, e1, m1, r1⟩ := opens_slice Try.underlying77 hp2 (by omega) opens_lPt (good_flat _) h1
    obtain ⟨x2, A2, l2, k2, e2, m2, r2⟩ := opens_slice Try.underlying77 hp2 (by omega) opens_lPt (good_flat _) h2
    obtain ⟨x3, A3, l3, k3, e3, m3, r3⟩ := opens_slice Try.underlying63 hb (by omega) (opens_bool Try.underlying4) (good_flat _) h3
    obtain ⟨x4, A4, l4, k4, e4, m4, r4⟩ := opens_slice Try.underlying63 hb (by omega) (opens_bool Try.underlying4) (good_flat _) h4
    obtain ⟨x5, A5, l5, k5, e5, m5, r5⟩ := opens_slice Try.underlying60 hi (by omega) (opens_int Try.underlying2) (good_flat _) h5
    obtain ⟨x6, A6, l6, k6, e6, m6, r6⟩ := opens_slice Try.underlying60 hi (by omega) (opens_int Try.underlying2) (good_flat _) h6
    obtain ⟨x7, A7, l7, k7, e7, m7, r7⟩ := opens_slice Try.underlying60 hi (by omega) (opens_int Try.underlying2) (good_flat _) h7
    obtain ⟨x8, e8⟩ := opens_bool Try.underlying4 h8
    obtain ⟨x9, e9⟩ := opens_int Try.underlying2 h9
    obtain ⟨x10, e10⟩ := opens_int Try.underlying2 h10
    obtain ⟨x11, e11⟩ := opens_int Try.underlying2 h11
    obtain ⟨x12, e12⟩ := opens_int Try.underlying2 h12
    simp [FlatR] at e0 e1 e2 e3 e4 e5 e6 e7 e8 e9 e10 e11 e12
    subst e0 e1 e2 e3 e4 e5 e6 e7 e8 e9 e10 e11 e12
    exact ⟨⟨x0, x1, x2, x3, x4, x5, x6, x7, x8, x9, x10, x11, x12⟩, ⟨⟨A1, l1, k1⟩, ⟨A2, l2, k2⟩, ⟨A3, l3, k3⟩, ⟨A4, l4, k4⟩, ⟨A5, l5, k5⟩, ⟨A6, l6, k6⟩, ⟨A7, l7, k7⟩⟩, rfl, ⟨r1, r2, r3, r4, r5, r6, r7⟩, m1, m2, m3, m4, m5, m6, m7⟩
end Go.Proofs.Ytgngcllodofimaa
