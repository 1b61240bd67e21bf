/- Part of a proof of laws of the seat Ytmjlipmapfofmaa: functions' weakest preconditions, each checked by the kernel, contracts out of them, plain lemmas; no conditions. -/
import Derived.Test.YtmjlipmapfofmaaR12
import Derived.Test.YtmjlipmapfofmaaEC
import Derived.Test.YtmjlipmapfofmaaTA
import Derived.Test.YtmjlipmapfofmaaTC
set_option linter.unusedVariables false
set_option linter.unusedSimpArgs false
set_option linter.unusedSectionVars false
set_option maxRecDepth 100000
namespace Go.Mir
open Go Go.E Go.RowKit Go.ChangeShapes Go.WideShapes Go.ChangeAt Go.Tr
open Go.Proofs.Ytmjlipmapfofmaa (Rows.uptoBulk Rows.uptoBulkAll Rows.uptoSmall)
section
variable {H : Type} {enc : TypeId × Value → H} {w : World}
theorem fld {fs : Array Field} {e : TypeId} {off i : Nat} (h : (fs[i]?).map (fun f : Field => (f.type, f.offset)) = some (e, off)) : ∃ f, fs[i]? = some f ∧ f.type = e ∧ f.offset = off := by
  obtain ⟨f, h1, h2⟩ := Option.map_eq_some_iff.1 h
  simp only [Prod.mk.injEq] at h2
  exact ⟨f, h1, h2.1, h2.2⟩
theorem under_int : Go.Proofs.Try.prog.underlying 3 = some (.int .i64) := by kernel_rfl
theorem under_ints : Go.Proofs.Try.prog.underlying 45 = some (.slice 3) := by kernel_rfl
def wfI (x : Int) : Prop := -9223372036854775808 ≤ x ∧ x ≤ 9223372036854775807
def wfU8 (x : Int) : Prop := 0 ≤ x ∧ x ≤ 255
structure WfN (x : ND) : Prop where
  kind : wfU8 x.kind
  value : wfI x.value
  feature : wfI x.feature
  thr : x.thr < 18446744073709551616
  cats : ∀ c ∈ x.cats, wfI c
  missing : wfU8 x.missing
  left : wfI x.left
  right : wfI x.right
theorem u8_wf {n : Int} (h : (Lit.int .u8 n).wf = true) : wfU8 n := by
  unfold wfU8
  simpa [Lit.wf, IntKind.min, IntKind.max, IntKind.signed, IntKind.bits] using h
theorem f64_wf {n : Nat} (h : (Lit.float .f64 n).wf = true) : n < 18446744073709551616 := by
  simpa [Lit.wf] using h
theorem opens_str {e : TypeId} (ht : Go.Proofs.Try.prog.underlying e = some .string) : Opens enc Go.Proofs.Try.prog w Rows.uptoBulk tStr e (fun x b => x.size ≤ b) := fun cs y hy => by
  obtain ⟨s, rfl, _, hy1⟩ := tr_string ht hy
  refine ⟨s, rfl, ?_⟩
  rw [hy1]
  have : s.size = s.data.toList.length := by rw [Array.length_toList]; rfl
  rw [Rows.uptoBulk]
  omega
theorem opens_N : Opens enc Go.Proofs.Try.prog w Rows.uptoBulk tN 101 (fun x b => x.cats.length ≤ b ∧ WfN x) := fun cs y hy => by
  obtain ⟨fs, hS, hfs⟩ : ∃ fs, Go.Proofs.Try.prog.underlying 101 = some (.struct fs) ∧ fs = ((Go.Proofs.Try.prog).fieldsOf 101) := ⟨_, by kernel_rfl, rfl⟩
  obtain ⟨hl, parts, hparts, hp⟩ := tr_struct hS hy
  rw [show (Go.Proofs.Try.prog).cellsOf 101 = 8 from by kernel_rfl] at hl
  have g : ∀ (i e off : Nat), (fs[i]?).map (fun f : Field => (f.type, f.offset)) = some (e, off) → (Go.Proofs.Try.prog).cellsOf e = 1 → ∃ y', TR enc Go.Proofs.Try.prog w e ((cs.drop off).take 1) y' ∧ y'.1 ∈ parts := fun i e off h hc => by
    obtain ⟨f, h1, h2, h3⟩ := fld h
    obtain ⟨y', hy', hm, _⟩ := hp i f h1
    rw [h2, h3, hc] at hy'
    exact ⟨y', hy', hm⟩
  have ft : ∀ i : Nat, (fs[i]?).map (fun f : Field => (f.type, f.offset)) = (((Go.Proofs.Try.prog).fieldsOf 101)[i]?).map (fun f : Field => (f.type, f.offset)) := fun i => by rw [hfs]
  obtain ⟨y0, h0, _⟩ := g 0 98 0 (by rw [ft]; kernel_rfl) (by kernel_rfl)
  obtain ⟨y1, h1, _⟩ := g 1 2 1 (by rw [ft]; kernel_rfl) (by kernel_rfl)
  obtain ⟨y2, h2, _⟩ := g 2 3 2 (by rw [ft]; kernel_rfl) (by kernel_rfl)
  obtain ⟨y3, h3, _⟩ := g 3 70 3 (by rw [ft]; kernel_rfl) (by kernel_rfl)
  obtain ⟨y4, h4, m4⟩ := g 4 45 4 (by rw [ft]; kernel_rfl) (by kernel_rfl)
  obtain ⟨y5, h5, _⟩ := g 5 99 5 (by rw [ft]; kernel_rfl) (by kernel_rfl)
  obtain ⟨y6, h6, _⟩ := g 6 3 6 (by rw [ft]; kernel_rfl) (by kernel_rfl)
  obtain ⟨y7, h7, _⟩ := g 7 3 7 (by rw [ft]; kernel_rfl) (by kernel_rfl)
  obtain ⟨n0, e0, w0⟩ := tr_int (k := .u8) (by kernel_rfl) h0
  obtain ⟨n1, e1, w1⟩ := tr_int (k := .i64) (by kernel_rfl) h1
  obtain ⟨n2, e2, w2⟩ := tr_int under_int h2
  obtain ⟨n3, e3, w3⟩ := tr_float (k := .f64) (by kernel_rfl) h3
  obtain ⟨l, ⟨a, n, c, e4, hls⟩, hl1, w4⟩ := opens_sl meas under_ints (T := tInt .i64) (by kernel_rfl) (by decide) (opens_int under_int) _ _ h4
  obtain ⟨n5, e5, w5⟩ := tr_int (k := .u8) (by kernel_rfl) h5
  obtain ⟨n6, e6, w6⟩ := tr_int under_int h6
  obtain ⟨n7, e7, w7⟩ := tr_int under_int h7
  refine ⟨⟨n0, n1, n2, n3, l, n5, n6, n7⟩, ⟨a, n, c, ?_, hls⟩, ?_, u8_wf w0, i64_wf w1, i64_wf w2, f64_wf w3, fun c hc => i64_wf (w4 c hc).choose_spec.2, u8_wf w5, i64_wf w6, i64_wf w7⟩
  · rcases cs with _ | ⟨q0, _ | ⟨q1, _ | ⟨q2, _ | ⟨q3, _ | ⟨q4, _ | ⟨q5, _ | ⟨q6, _ | ⟨q7, _ | ⟨q8, r⟩⟩⟩⟩⟩⟩⟩⟩⟩ <;> simp at hl
    simp at e0 e1 e2 e3 e4 e5 e6 e7
    rw [e0, e1, e2, e3, e4, e5, e6, e7]
    rfl
  · have hb : Rows.uptoBulk y4.1 ≤ Rows.uptoBulk y.1 := by rw [hparts]; exact meas.part _ _ m4
    show l.length ≤ _
    omega
theorem agg_of {v : Value} {l : List Value} (h : v.cells.toList = l) (hl : l.length ≠ 1) : v = .agg l.toArray := by
  cases v with
  | agg cs => subst h; simp [Value.cells]
  | _ => subst h; simp [Value.cells] at hl
theorem opens_T : Opens enc Go.Proofs.Try.prog w Rows.uptoBulk tT 44 (fun x b => wfI x.output ∧ x.nodes.length ≤ b ∧ ∀ y ∈ x.nodes, y.cats.length ≤ b ∧ WfN y) := fun cs y hy => by
  obtain ⟨fs, hS, hfs⟩ : ∃ fs, Go.Proofs.Try.prog.underlying 44 = some (.struct fs) ∧ fs = ((Go.Proofs.Try.prog).fieldsOf 44) := ⟨_, by kernel_rfl, rfl⟩
  obtain ⟨hl, parts, hparts, hp⟩ := tr_struct hS hy
  rw [show (Go.Proofs.Try.prog).cellsOf 44 = 2 from by kernel_rfl] at hl
  have g : ∀ (i e off : Nat), (fs[i]?).map (fun f : Field => (f.type, f.offset)) = some (e, off) → (Go.Proofs.Try.prog).cellsOf e = 1 → ∃ y', TR enc Go.Proofs.Try.prog w e ((cs.drop off).take 1) y' ∧ y'.1 ∈ parts := fun i e off h hc => by
    obtain ⟨f, h1, h2, h3⟩ := fld h
    obtain ⟨y', hy', hm, _⟩ := hp i f h1
    rw [h2, h3, hc] at hy'
    exact ⟨y', hy', hm⟩
  have ft : ∀ i : Nat, (fs[i]?).map (fun f : Field => (f.type, f.offset)) = (((Go.Proofs.Try.prog).fieldsOf 44)[i]?).map (fun f : Field => (f.type, f.offset)) := fun i => by rw [hfs]
  obtain ⟨y0, h0, _⟩ := g 0 3 0 (by rw [ft]; kernel_rfl) (by kernel_rfl)
  obtain ⟨y1, h1, m1⟩ := g 1 42 1 (by rw [ft]; kernel_rfl) (by kernel_rfl)
  obtain ⟨n0, e0, w0⟩ := tr_int under_int h0
  obtain ⟨l, ⟨a, n, c, e1, hls⟩, hl1, w1⟩ := opens_sl meas (e := 101) (by kernel_rfl) (T := tN) (by kernel_rfl) (by decide) opens_N _ _ h1
  have hb : Rows.uptoBulk y1.1 ≤ Rows.uptoBulk y.1 := by rw [hparts]; exact meas.part _ _ m1
  refine ⟨⟨n0, l⟩, ⟨a, n, c, ?_, hls⟩, i64_wf w0, ?_, fun x hx => ?_⟩
  · rcases cs with _ | ⟨q0, _ | ⟨q1, _ | ⟨q2, r⟩⟩⟩ <;> simp at hl
    simp at e0 e1
    rw [e0, e1]
  · show l.length ≤ _
    omega
  · obtain ⟨b', hb', hc', hw'⟩ := w1 x hx
    exact ⟨by omega, hw'⟩
end
end Go.Mir

set_option maxRecDepth 100000
namespace Go.Mir
open Go Go.E Go.RowKit Go.Tr
end Go.Mir

set_option maxRecDepth 100000
namespace Go.Mir
open Go Go.E Go.RowKit Go.ChangeShapes Go.WideShapes Go.ChangeAt Go.Tr
open Go.Proofs.Ytmjlipmapfofmaa (Rows.uptoBulk Rows.uptoBulkAll Rows.uptoSmall)
section
variable {H : Type} {enc : TypeId × Value → H} {w : World}
structure WfE (N : Nat) (e : ED) : Prop where
  outputs : wfI e.outputs
  fl : e.features.length ≤ N
  bl : e.base.length ≤ N
  tl : e.trees.length ≤ N
  base : ∀ x ∈ e.base, wfI x
  trees : ∀ x ∈ e.trees, wfI x.output ∧ x.nodes.length ≤ N ∧ ∀ y ∈ x.nodes, y.cats.length ≤ N ∧ WfN y
theorem open_E {v : Value} {d : DataW H} {ps : List MemPlace} (h : DataW.Trod enc Go.Proofs.Try.prog w 0 (fun _ => true) true 26 v d ps) :
    ∃ e f b t, v = vE e f b t ∧ Ls tStr (fun b => b < w.heap.size) w f.a f.n f.c e.features ∧ Ls (tInt .i64) (fun b => b < w.heap.size) w b.a b.n b.c e.base ∧ Ls tT (fun b => b < w.heap.size) w t.a t.n t.c e.trees ∧ WfE (Rows.uptoBulk d) e := by
  obtain ⟨cs, hcs⟩ : ∃ cs, v.cells.toList = cs := ⟨_, rfl⟩
  have hy0 : ∃ y : DataW H × List MemPlace, TR enc Go.Proofs.Try.prog w 26 cs y ∧ y.1 = d := by
    subst hcs
    exact ⟨(d, ps), h, rfl⟩
  obtain ⟨y, hy, rfl⟩ := hy0
  obtain ⟨fs, hS, hfs⟩ : ∃ fs, Go.Proofs.Try.prog.underlying 26 = some (.struct fs) ∧ fs = ((Go.Proofs.Try.prog).fieldsOf 26) := ⟨_, by kernel_rfl, rfl⟩
  obtain ⟨hl, parts, hparts, hp⟩ := tr_struct hS hy
  rw [show (Go.Proofs.Try.prog).cellsOf 26 = 5 from by kernel_rfl] at hl
  have g : ∀ (i e off : Nat), (fs[i]?).map (fun f : Field => (f.type, f.offset)) = some (e, off) → (Go.Proofs.Try.prog).cellsOf e = 1 → ∃ y', TR enc Go.Proofs.Try.prog w e ((cs.drop off).take 1) y' ∧ y'.1 ∈ parts := fun i e off h hc => by
    obtain ⟨f, h1, h2, h3⟩ := fld h
    obtain ⟨y', hy', hm, _⟩ := hp i f h1
    rw [h2, h3, hc] at hy'
    exact ⟨y', hy', hm⟩
  have ft : ∀ i : Nat, (fs[i]?).map (fun f : Field => (f.type, f.offset)) = (((Go.Proofs.Try.prog).fieldsOf 26)[i]?).map (fun f : Field => (f.type, f.offset)) := fun i => by rw [hfs]
  obtain ⟨y0, h0, _⟩ := g 0 9 0 (by rw [ft]; kernel_rfl) (by kernel_rfl)
  obtain ⟨y1, h1, m1⟩ := g 1 22 1 (by rw [ft]; kernel_rfl) (by kernel_rfl)
  obtain ⟨y2, h2, _⟩ := g 2 3 2 (by rw [ft]; kernel_rfl) (by kernel_rfl)
  obtain ⟨y3, h3, m3⟩ := g 3 23 3 (by rw [ft]; kernel_rfl) (by kernel_rfl)
  obtain ⟨y4, h4, m4⟩ := g 4 24 4 (by rw [ft]; kernel_rfl) (by kernel_rfl)
  obtain ⟨n0, e0, _⟩ := tr_string (by kernel_rfl) h0
  obtain ⟨fl, ⟨a1, n1, c1, e1, hls1⟩, hl1, _⟩ := opens_sl meas (e := 9) (by kernel_rfl) (T := tStr) (by kernel_rfl) (by decide) (opens_str (by kernel_rfl)) _ _ h1
  obtain ⟨n2, e2, w2⟩ := tr_int under_int h2
  obtain ⟨bl, ⟨a3, n3, c3, e3, hls3⟩, hl3, w3⟩ := opens_sl meas (e := 2) (by kernel_rfl) (T := tInt .i64) (by kernel_rfl) (by decide) (opens_int (by kernel_rfl)) _ _ h3
  obtain ⟨tl, ⟨a4, n4, c4, e4, hls4⟩, hl4, w4⟩ := opens_sl meas (e := 44) (by kernel_rfl) (T := tT) (by kernel_rfl) (by decide) opens_T _ _ h4
  have b1 : Rows.uptoBulk y1.1 ≤ Rows.uptoBulk y.1 := by rw [hparts]; exact meas.part _ _ m1
  have b3 : Rows.uptoBulk y3.1 ≤ Rows.uptoBulk y.1 := by rw [hparts]; exact meas.part _ _ m3
  have b4 : Rows.uptoBulk y4.1 ≤ Rows.uptoBulk y.1 := by rw [hparts]; exact meas.part _ _ m4
  refine ⟨⟨n0, fl, n2, bl, tl⟩, ⟨a1, n1, c1⟩, ⟨a3, n3, c3⟩, ⟨a4, n4, c4⟩, ?_, hls1, hls3, hls4, i64_wf w2, ?_, ?_, ?_, fun x hx => i64_wf (w3 x hx).choose_spec.2, fun x hx => ?_⟩
  · rcases cs with _ | ⟨q0, _ | ⟨q1, _ | ⟨q2, _ | ⟨q3, _ | ⟨q4, _ | ⟨q5, r⟩⟩⟩⟩⟩⟩ <;> simp at hl
    simp at e0 e1 e2 e3 e4
    have := agg_of hcs (by simp)
    rw [this, e0, e1, e2, e3, e4]
  · show fl.length ≤ _
    omega
  · show bl.length ≤ _
    omega
  · show tl.length ≤ _
    omega
  · obtain ⟨b', hb', h5, h6, h7⟩ := w4 x hx
    exact ⟨h5, by omega, fun z hz => ⟨by have := (h7 z hz).1; omega, (h7 z hz).2⟩⟩
end
end Go.Mir
namespace Go.Mir
open Go Go.E Go.RowKit Go.Tr
theorem goodE_of {w : World} {e : ED} {f b t : SH} {N : Nat} (hf : Ls tStr (fun b => b < w.heap.size) w f.a f.n f.c e.features) (hb : Ls (tInt .i64) (fun b => b < w.heap.size) w b.a b.n b.c e.base) (ht : Ls tT (fun b => b < w.heap.size) w t.a t.n t.c e.trees) (hw : WfE N e) (hN : N ≤ 1048576) : GoodE (fun b => b < w.heap.size) w e f b t :=
  ⟨hf, hb, ht, fun b h => h, by have := hf.len; have := hw.fl; omega, by have := hb.len; have := hw.bl; omega, by have := ht.len; have := hw.tl; omega, fun x hx => ⟨by have := (hw.trees x hx).2.1; omega, fun y hy => by have := ((hw.trees x hx).2.2 y hy).1; omega⟩⟩
end Go.Mir
