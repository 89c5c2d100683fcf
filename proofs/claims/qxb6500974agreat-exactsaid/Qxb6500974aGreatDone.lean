import Derived.Test.Qxb6500974aGreatRows
import Derived.Test.Qxb6500974aGreatR34
import Derived.WalkKit
import Derived.ProofKit
import Derived.OpenShut
import Derived.ShutString
import Derived.ChangeOld
import Derived.Below
set_option linter.all false
namespace Go.Proofs.Qxb6500974aGreat
open Go.Eng
open Go.ChangeShapes Go.WideShapes Go.ChangeAt Go.RowKit
set_option linter.unusedVariables false
set_option linter.unusedSimpArgs false

theorem exact_own : ownKnob Tryz.prog.godebug = none := by kernel_rfl
theorem exact_laidOut : laidOutB Tryz.prog = true := by kernel_rfl

def IsScript (w : World) (a : Option Addr) (len : Nat) (ops : List Op) : Prop :=
  len = ops.length ∧ (∀ o ∈ ops, I64 o.a ∧ I64 o.b) ∧ ((a = none ∧ ops = []) ∨ ∃ b off, a = some ⟨b, off, none⟩ ∧ ∀ i o, ops[i]? = some o → ∀ j v, o.cells[j]? = some v → w.cell? ⟨b, off + i * 6 + j, none⟩ = some v ∧ w.frozen? ⟨b, off + i * 6 + j, none⟩ = false)

theorem list_of {α : Type} {p : Nat → α → Prop} : ∀ n : Nat, (∀ i, i < n → ∃ x, p i x) → ∃ l : List α, l.length = n ∧ ∀ i x, l[i]? = some x → p i x
  | 0, _ => ⟨[], rfl, fun i x h => by simp at h⟩
  | n + 1, h => by
    obtain ⟨l, h1, h2⟩ := list_of n (fun i hi => h i (by omega))
    obtain ⟨x, hx⟩ := h n (by omega)
    refine ⟨l ++ [x], by simp [h1], fun i y hy => ?_⟩
    rw [List.getElem?_append] at hy
    split at hy
    · exact h2 i y hy
    · rename_i hlt
      by_cases he : i = l.length
      · subst he
        simp at hy
        subst hy
        rw [h1]; exact hx
      · rw [List.getElem?_eq_none (by simp; omega)] at hy; cases hy

theorem script_mem {w : World} {a : Option Addr} {len : Nat} {ops : List Op} (h : IsScript w a len ops) : ∃ m, RepM w m w ∧ EO.fz m a len ops := by
  obtain ⟨h1, _, h2⟩ := h
  have rep0 : RepM w { blk := fun _ => none, top := w.heap.size } w := ⟨rfl, rfl, rfl, Nat.le_refl _, Nat.le_refl _, fun _ _ => rfl, fun b f h => by cases h⟩
  rcases h2 with ⟨rfl, rfl⟩ | ⟨b, off, rfl, hc⟩
  · exact ⟨_, rep0, h1, .inl ⟨rfl, .inl rfl⟩⟩
  cases ops with
  | nil => exact ⟨_, rep0, h1, .inl ⟨rfl, .inr ⟨b, off, rfl⟩⟩⟩
  | cons o0 rest =>
    have hc0 := (hc 0 o0 rfl 0 _ rfl).1
    obtain ⟨cs, el, fz, hh⟩ : ∃ cs el fz, w.heap[b]? = some (.cells cs el fz) := by
      unfold World.cell? at hc0
      split at hc0
      · rename_i c el fz hh
        exact ⟨c, el, fz, hh⟩
      · cases hc0
    have hblt : b < w.heap.size := by
      rcases Nat.lt_or_ge b w.heap.size with h' | h'
      · exact h'
      · rw [Array.getElem?_eq_none h'] at hh; cases hh
    obtain ⟨f, hf⟩ : ∃ f : Blk, f = { wr := false, cell := fun i => if fz.1 ≤ i ∧ i < fz.2 then none else cs[i]? } := ⟨_, rfl⟩
    refine ⟨{ blk := fun i => if i = b then some f else none, top := w.heap.size }, ⟨rfl, rfl, rfl, Nat.le_refl _, Nat.le_refl _, fun _ _ => rfl, ?_⟩, h1, .inr ⟨b, off, f, rfl, ?_, by rw [hf], ?_⟩⟩
    · intro b' f' hb'
      dsimp only at hb' ⊢
      by_cases he : b' = b
      · subst he
        rw [if_pos rfl] at hb'
        cases hb'
        refine ⟨hblt, (fun h9 => by rw [hf] at h9; cases h9), cs, el, fz, hh, fun i v hi => ?_⟩
        rw [hf] at hi
        dsimp only at hi
        split at hi
        · cases hi
        · rename_i h9; exact ⟨hi, h9⟩
      · rw [if_neg he] at hb'; cases hb'
    · dsimp only; rw [if_pos rfl]
    · intro i o hi
      refine ⟨o.cells, rfl, row_of fun j v hj => ?_⟩
      have := hc i o hi j v hj
      have e6 : off + i * EO.sz + j = off + i * 6 + j := rfl
      rw [e6]
      refine Mem.cell_of (f := f) (by dsimp only; rw [if_pos rfl]) ?_
      rw [hf]
      dsimp only
      have c1 := this.1
      have c2 := this.2
      obtain ⟨lo, hi'⟩ := fz
      simp only [World.cell?, hh] at c1
      simp only [World.frozen?, hh] at c2
      simp at c1 c2
      rw [if_neg (by dsimp only; omega)]
      exact c1
theorem exact_walk (a : Option Addr) (len cap : Nat) (ops : List Op) (w : World) (h : IsScript w a len ops) :
    Calls Tryz.prog 3 #[.slice a len cap] w fun e w' => e = .returned (.bool true) ∧ Below w.heap.size w w' := by
  obtain ⟨m, hr, hf⟩ := script_mem h
  have hc : callOK Tryz.prog w 3 [.slice a len cap] (fun v _ => v = .bool true) m := exact_spec (W0 := w) hf h.2.1 (fun _ => rfl)
  refine (hc w hr).2.mono fun e w' hx => ?_
  obtain ⟨v, m', he, hrep, hv⟩ := hx
  subst hv
  exact ⟨he, hrep.os, hrep.tape, hrep.output, Nat.le_trans hrep.size0 hrep.size, hrep.old⟩
theorem cells_at {w : World} {base n : Nat} {a : Addr} {cs : List Value} (h : w.cells? base a n = some cs) : cs.length = n ∧ ∀ j, j < n → w.cell? (a.add j) = cs[j]? := by
  unfold World.cells? at h
  split at h
  · have h1 := mapM_some_length h
    rw [List.length_range] at h1
    exact ⟨h1, fun j hj => mapM_some_get h j j (by rw [List.getElem?_range hj])⟩
  · cases h
theorem Tryz.xcells26 : Tryz.prog.cellsOf 26 = 6 := by kernel_rfl
theorem Tryz.xcells3 : Tryz.prog.cellsOf 3 = 1 := by kernel_rfl
theorem Tryz.xcells9 : Tryz.prog.cellsOf 9 = 1 := by kernel_rfl
theorem len6 : ∀ {cs : List Value}, cs.length = 6 → ∃ c0 c1 c2 c3 c4 c5, cs = [c0, c1, c2, c3, c4, c5]
  | [c0, c1, c2, c3, c4, c5], _ => ⟨c0, c1, c2, c3, c4, c5, rfl⟩
section
variable {H : Type} {enc : TypeId × Value → H} {w : World} {base : Nat} {spare : Nat → Bool} {held : Bool}
theorem fld_int {fuel : Nat} {cs : List Value} {o : Option (DataW H × List MemPlace)} {x : DataW H × List MemPlace} {j : Nat} {c : Value} (h : DataW.trod enc Tryz.prog w base spare held fuel 3 ((cs.drop j).take (Tryz.prog.cellsOf 3)) = o) (ho : o = some x) (hc : (cs.drop j).take 1 = [c]) : ∃ n, c = .int .i64 n ∧ I64 n := by
  rw [ho, Tryz.xcells3, hc] at h
  obtain ⟨n, h1, _, h2⟩ := DataW.trod_int Tryz.underlying3 h
  have hb := bounds_i64 h2
  refine ⟨n, by simpa using h1, ?_⟩
  exact ⟨hb.1, by omega⟩
theorem fld_str {fuel : Nat} {cs : List Value} {o : Option (DataW H × List MemPlace)} {x : DataW H × List MemPlace} {j : Nat} {c : Value} (h : DataW.trod enc Tryz.prog w base spare held fuel 9 ((cs.drop j).take (Tryz.prog.cellsOf 9)) = o) (ho : o = some x) (hc : (cs.drop j).take 1 = [c]) : ∃ s, c = .string s := by
  rw [ho, Tryz.xcells9, hc] at h
  obtain ⟨s, h1, _, _⟩ := DataW.trod_string Tryz.underlying9 h
  exact ⟨s, by simpa using h1⟩
theorem op_of {fuel : Nat} {cs : List Value} {x : DataW H × List MemPlace} (h : DataW.trod enc Tryz.prog w base spare held fuel 26 cs = some x) : ∃ o : Op, cs = o.cells ∧ I64 o.a ∧ I64 o.b := by
  obtain ⟨xs, n, _, _, hl, hxs, hf⟩ := DataW.trod_struct Tryz.underlying26 h
  rw [Tryz.xcells26] at hl
  have hxl : xs.length = 6 := hxs
  obtain ⟨x0, y0⟩ := get_some (l := xs) (i := 0) (by omega)
  obtain ⟨x1, y1⟩ := get_some (l := xs) (i := 1) (by omega)
  obtain ⟨x2, y2⟩ := get_some (l := xs) (i := 2) (by omega)
  obtain ⟨x3, y3⟩ := get_some (l := xs) (i := 3) (by omega)
  obtain ⟨x4, y4⟩ := get_some (l := xs) (i := 4) (by omega)
  obtain ⟨x5, y5⟩ := get_some (l := xs) (i := 5) (by omega)
  obtain ⟨c0, c1, c2, c3, c4, c5, hcs⟩ := len6 hl
  have e0 : (cs.drop 0).take 1 = [c0] := by rw [hcs]; rfl
  have e1 : (cs.drop 1).take 1 = [c1] := by rw [hcs]; rfl
  have e2 : (cs.drop 2).take 1 = [c2] := by rw [hcs]; rfl
  have e3 : (cs.drop 3).take 1 = [c3] := by rw [hcs]; rfl
  have e4 : (cs.drop 4).take 1 = [c4] := by rw [hcs]; rfl
  have e5 : (cs.drop 5).take 1 = [c5] := by rw [hcs]; rfl
  obtain ⟨n0, h0, _⟩ := fld_int (hf 0 _ rfl) y0 e0
  obtain ⟨n1, h1, b1⟩ := fld_int (hf 1 _ rfl) y1 e1
  obtain ⟨n2, h2, b2⟩ := fld_int (hf 2 _ rfl) y2 e2
  obtain ⟨n3, h3, _⟩ := fld_int (hf 3 _ rfl) y3 e3
  obtain ⟨s4, h4⟩ := fld_str (hf 4 _ rfl) y4 e4
  obtain ⟨s5, h5⟩ := fld_str (hf 5 _ rfl) y5 e5
  exact ⟨⟨n0, n1, n2, n3, s4, s5⟩, by rw [hcs, h0, h1, h2, h3, h4, h5]; rfl, b1, b2⟩
end
theorem okWide_spot {P : Program} {w : World} {r : Reach} {base : Nat} {t e : TypeId} {a : Addr} {len cap : Nat} (ht : P.underlying t = some (.slice e)) (h : Value.okWide P w r base t (.slice (some a) len cap)) : a.spot = none := by
  simp only [Value.okWide, ht, Cell.okWide, Cell.ok] at h
  exact h.2.2.2.1

set_option maxRecDepth 100000 in
theorem exact_lifted (os : Os) (started : os.Started) (H : Type) (enc : TypeId × Value → H) :
    ReturnsInHanded {} Tryz.checked os 3 .any (Rows.exactSpec.pre6 enc Tryz.prog Tryz.f3 Rows.exactRow.domain false) (Rows.exactSpec.post enc Tryz.prog Tryz.f3 false true false false) := by
  refine returnsInHanded_of_change (C := Tryz.checked) exact_own started (by kernel_rfl) Tryz.func3
    (ChangeSpec.witness6 (enc := enc) (C := Tryz.checked) false ⟨#[], #[.slice none 0 0], []⟩ 8 (by kernel_rfl) (by kernel_rfl) (by kernel_rfl) (by kernel_rfl)) ?_
  intro W base args ds gs before hval0 hW hcnd _
  have hval : ∀ (j : Nat) t v, Tryz.f3.params[j]? = some t → args[j]? = some v → Value.okWide Tryz.prog W .any base t v := hval0
  have hW' := hW
  obtain ⟨p, q, hA0, hV, rfl, hfz, hnd⟩ := hW
  have hA : DataW.TrodAll enc Tryz.prog W 0 (fun _ => true) true Tryz.f3.params.toList args.toList ds p := hA0
  rw [Tryz.params3] at hA hval
  obtain ⟨v0, vs0, d0, ds0, p0, q0, hargs, rfl, rfl, h0, r0⟩ := trodAll_cons hA
  obtain ⟨rfl, rfl, rfl⟩ := trodAll_nil r0
  obtain rfl : args = #[v0] := by cases args; simp_all
  obtain ⟨rfl, rfl⟩ := trodVars_none hV
  obtain ⟨a0, len0, cap0, rfl⟩ := okWide_slice Tryz.underlying22 (hval 0 22 v0 rfl rfl)
  have k0 := h0
  have lt0 : ∀ x ∈ p0, x.block < W.heap.size := by obtain ⟨m, hm⟩ := k0; exact DataW.trod_lt m _ _ _ hm
  obtain ⟨ops, w0⟩ : ∃ ops, IsScript W a0 len0 ops := by
    obtain ⟨fuel, hf⟩ := h0
    rcases DataW.trod_slice Tryz.underlying22 hf with ⟨hcs, _⟩ | ⟨a, len, cap, elems, rest, n, _, hcs, hx, _, hl, hm, hlen, hel, _, _⟩
    · simp [Value.cells] at hcs
      obtain ⟨rfl, rfl, rfl⟩ := hcs
      exact ⟨[], rfl, by simp, .inl ⟨rfl, rfl⟩⟩
    · simp [Value.cells] at hcs
      obtain ⟨rfl, rfl, rfl⟩ := hcs
      have hspot := okWide_spot Tryz.underlying22 (hval 0 22 _ rfl rfl)
      obtain ⟨b, off, spot⟩ := a
      dsimp only at hspot
      subst hspot
      have hp0 : p0 = MemPlace.row ⟨b, off, none⟩ ((elems.length + rest.length) * Tryz.prog.cellsOf 26) ++ (elems ++ rest).flatMap (·.2) := by
        have := congrArg Prod.snd hx
        exact this
      have each : ∀ i, i < len0 → ∃ o : Op, (I64 o.a ∧ I64 o.b) ∧ ∀ j v, o.cells[j]? = some v → W.cell? ⟨b, off + i * 6 + j, none⟩ = some v ∧ W.frozen? ⟨b, off + i * 6 + j, none⟩ = false := by
        intro i hi
        have h1 := hel i hi
        rw [List.getElem?_eq_getElem (by omega), Option.bind_eq_some_iff] at h1
        obtain ⟨cs, h2, h3⟩ := h1
        obtain ⟨o, rfl, ho⟩ := op_of h3
        rw [Tryz.xcells26] at h2
        obtain ⟨_, h4⟩ := cells_at h2
        refine ⟨o, ho, fun j v hj => ?_⟩
        have hj6 : j < 6 := by
          rcases Nat.lt_or_ge j 6 with h' | h'
          · exact h'
          · rw [List.getElem?_eq_none (by simpa [Op.cells] using h')] at hj; cases hj
        have h5 := h4 j hj6
        rw [Go.WideShapes.add_plain, Go.WideShapes.add_plain, hj] at h5
        refine ⟨h5, hfz b _ ?_⟩
        rw [hp0, Tryz.xcells26]
        refine List.mem_append_left _ (List.mem_append_left _ (List.mem_append_left _ ?_))
        unfold MemPlace.row
        refine List.mem_map.2 ⟨i * 6 + j, List.mem_range.2 ?_, by simp [Nat.add_assoc]⟩
        have : (i + 1) * 6 ≤ (elems.length + rest.length) * 6 := Nat.mul_le_mul_right _ (by omega)
        omega
      obtain ⟨ops, g1, g2⟩ := list_of len0 each
      refine ⟨ops, g1.symm, fun o ho => ?_, .inr ⟨b, off, rfl, fun i o hi => (g2 i o hi).2⟩⟩
      obtain ⟨i, hi, he⟩ := List.mem_iff_getElem.1 ho
      exact (g2 i o (by rw [List.getElem?_eq_getElem hi, he])).1
  clear hA0 hval0
  refine (exact_walk a0 len0 cap0 ops W w0).mono fun e W' ⟨he, bel⟩ => ?_
  subst he
  exact ⟨_, rfl, _, _, _, [], _, [], hW', trodAll_mk1 (shut_bool Tryz.underlying4 _), (trodAll_cons_mk (Below.trod exact_laidOut (by kernel_rfl) (of_decide_eq_true (by kernel_rfl)) k0 bel lt0) trodAll_mk0), rfl, bel.frame _, fun h => by cases h⟩
theorem exact_holds : Rows.ExactSaid :=
  OpenClaim.holds_of_wide 3 Tryz.f3 rfl rfl rfl rfl rfl rfl rfl ⟨rfl, rfl, rfl, rfl, rfl⟩ rfl rfl rfl rfl rfl (by kernel_rfl) Tryz.func3 (by kernel_rfl)
    (of_decide_eq_true (by kernel_rfl)) (by unfold Func.isWrapper; first | (rw [if_pos (by decide +kernel)]; kernel_rfl) | (rw [if_neg (by decide +kernel)]; exact ⟨rfl, rfl⟩))
    (fun os started H enc _ => exact_lifted os started H enc)
end Go.Proofs.Qxb6500974aGreat
