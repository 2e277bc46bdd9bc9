/- SalG: operations, more: one operand, conversions of numbers, loads, stores, new variables, addresses of fields and elements, tuples, lengths, functions, calls. -/
import Derived.Test.YtdleboihgaedjaaGreatSalF
namespace Go.Sal
open Go.RowKit

section
variable {P : Program} {N : Nat} {σ : AHeap} {st : Tm} {o : Oper} {K : AV → AHeap → Prop}

theorem rnot {t : TypeId} {x : Operand} {b : Bool} (ho : o.op = .unOp .not t x) (hx : ev st x = .bool b) (hk : K (.bool (!b)) σ) : AOp P N o st σ K :=
  AOp_pure _ (fun B w0 ι w a hs => by
    have h := hs.ev x
    rw [hx] at h; simp only [V] at h
    exact ⟨.bool (!b), by simp [execOp, ho, h, Op.unary], by simp [V]⟩) hk

theorem rneg {t : TypeId} {x : Operand} {k : IntKind} {n : Int} (ho : o.op = .unOp .neg t x) (hx : ev st x = .int k n) (hk : K (.int k (k.wrap (0 - n))) σ) : AOp P N o st σ K :=
  AOp_pure _ (fun B w0 ι w a hs => by
    have h := hs.ev x
    rw [hx] at h; simp only [V] at h
    exact ⟨.int k (k.wrap (0 - n)), by simp [execOp, ho, h, Op.unary, Op.intArith], by simp [V]⟩) hk

theorem rconvInt {s d : TypeId} {x : Operand} {k k' : IntKind} {n : Int} {ds : TypeDesc} (ho : o.op = .convert s d x) (hx : ev st x = .int k n) (hs' : (ti P s).desc = some ds) (hd : (ti P d).desc = some (.int k')) (hk : K (.int k' (k'.wrap n)) σ) : AOp P N o st σ K :=
  AOp_pure _ (fun B w0 ι w a hs => by
    have h := hs.ev x
    rw [hx] at h; simp only [V] at h
    obtain ⟨_, _, hu, _⟩ := ti_desc hs'
    obtain ⟨_, _, hv, _⟩ := ti_desc hd
    refine ⟨.int k' (k'.wrap n), ?_, by simp [V]⟩
    simp only [execOp, ho, convert, Sem.run_bind, runderlying hu, runderlying hv, Result.andThen_ok, h]
    cases ds <;> simp [Conv.intToInt]) hk

theorem rload {t : TypeId} {x : Operand} {id off : Nat} {cs : List AV} {r : AV} (ho : o.op = .load t x) (hx : ev st x = .ref id off) (hid : σ[id]? = some (.cells cs)) (hr : aload (ti P t) (cs.drop off) = some r) (hk : K r σ) : AOp P N o st σ K :=
  AOp_pure _ (fun B w0 ι w a hs => by
    have h := hs.ev x
    rw [hx] at h; simp only [V] at h
    obtain ⟨cs', b, y, h1, h2, h3⟩ := h
    rw [hid] at h1; cases h1
    obtain ⟨b', y', e, hl, _⟩ := hs.rel.obj id _ hid
    rw [h2] at e; cases e
    have hl' := VL_dropn off hl
    rw [Nat.zero_add] at hl'
    obtain ⟨v, h4, h5⟩ := rloadVar (P := P) hl' hr
    exact ⟨v, by simp [execOp, ho, h3, Instr.loadAt, Instr.sureAddr, h4], h5⟩) hk

theorem rloadi {t : TypeId} {x : Operand} {cs : List AV} {r : AV} (ho : o.op = .load t x) (hx : ev st x = .ipt cs) (hr : aload (ti P t) cs = some r) (hk : K r σ) : AOp P N o st σ K :=
  AOp_pure _ (fun B w0 ι w a hs => by
    have h := hs.ev x
    rw [hx] at h; simp only [V] at h
    obtain ⟨b, off, h3, _, _, hl⟩ := h
    obtain ⟨v, h4, h5⟩ := rloadVar (P := P) hl hr
    exact ⟨v, by simp [execOp, ho, h3, Instr.loadAt, Instr.sureAddr, h4], h5⟩) hk

theorem rstore {t : TypeId} {x y : Operand} {id off : Nat} {cs ys : List AV} (ho : o.op = .store t x y) (hx : ev st x = .ref id off) (hid : σ[id]? = some (.cells cs)) (hy : vcells (ev st y) = some ys)
    (hsz : (ti P t).size = ys.length) (hpos : 0 < ys.length) (hone : ys.all one = true) (hl : off + ys.length ≤ cs.length) (hk : K .undef (σ.set id (.cells (splice cs off ys)))) : AOp P N o st σ K := by
  intro B w0 ι w a Q hs
  have h := hs.ev x
  rw [hx] at h; simp only [V] at h
  obtain ⟨cs', b, z, h1, h2, h3⟩ := h
  rw [hid] at h1; cases h1
  have hv := V_cells (hs.ev y) hy
  obtain ⟨i, hi, hisz, _⟩ := ti_size (P := P) (t := t) (by omega)
  obtain ⟨b', y', e, hvl, hfr⟩ := hs.rel.obj id _ hid
  rw [h2] at e; cases e
  have hlen := VT_length _ _ hv
  have hst := run_storeCells_cells (P := P) b off (a.eval y).cells.toList 0 w (fun j hj => by
      obtain ⟨v, hv⟩ := VL_cell (j := off + j) hvl (by omega)
      simp only [Nat.zero_add] at hv
      simp [hv]) (fun j hj => by simpa using hfr (off + j) (by omega)) (VT_one hone hv)
  have hrun : (execOp a.eval o).run P w = .ok .skip (w.setCells b off (a.eval y).cells.toList) := by
    have e : (a.eval y).cells.size = i.size := by rw [← Array.length_toList, ← hlen, ← hsz, hisz]
    simp only [Nat.add_zero] at hst
    simp [execOp, ho, h3, Instr.storeAt, Instr.sureAddr, storeVar, rsizeOf hi, e, hst]
  obtain ⟨hr, he⟩ := hs.rel.store hid h2 hv hl
  unfold Oper.wp; rw [hrun]
  exact ⟨.undef, _, ι, undef, hk, rfl, by simp [V], hr, he⟩

theorem V_newref {cs : List AV} {ι' : Inj} {w' : World} {b : Nat} (h : ι' σ.length = some (b, 0)) : V (σ ++ [.cells cs]) ι' w' (.ref σ.length 0) (.pointer (some (at_ b 0))) := by
  simp only [V]; exact ⟨cs, b, 0, by simp, h, rfl⟩

theorem ralloc {t : TypeId} {cs : List AV} (ho : o.op = .alloc t) (hz : (ti P t).zero = some cs) (hk : K (.ref σ.length 0) (σ ++ [.cells cs])) : AOp P N o st σ K :=
  AOp_val _ _ (fun B w0 ι w a hs => by
    obtain ⟨i, v, hi, hv, hcs, _⟩ := ti_zero hz
    obtain ⟨ι', hr, he, hn⟩ := hs.rel.new (cs := cs) (vs := v.cells) t (by rw [hcs]; exact VT_ofConst _ _ _ _)
    refine ⟨.pointer (some (at_ w.heap.size 0)), ι', _, ?_, V_newref hn, hr, he⟩
    simp [execOp, ho, Instr.alloc, rzeroValue hi hv, newVar, newRow]) hk

/-- An object is made where a place was kept for it. -/
theorem Rel.fill {B w0 ι w} (h : Rel B w0 σ ι w) {id : Nat} (hid : σ[id]? = some .hole) {cs : List AV} {vs : Array Value} (t : TypeId) (hv : VT σ ι w cs vs.toList) :
    ∃ ι', Rel B w0 (σ.set id (.cells cs)) ι' (w.alloc (.cells vs t)) ∧ Ext σ ι w (σ.set id (.cells cs)) ι' (w.alloc (.cells vs t)) ∧ ι' id = some (w.heap.size, 0) := by
  let ι' : Inj := fun i => if i = id then some (w.heap.size, 0) else ι i
  have hlt := some_lt hid
  have hι : ∀ i, i ≠ id → ι' i = ι i := fun i hi => if_neg hi
  have hn : ι' id = some (w.heap.size, 0) := if_pos rfl
  have hg : ∀ i, (σ.set id (.cells cs))[i]? = if i = id then some (.cells cs) else σ[i]? := fun i => get_set hlt
  have s : Step σ ι w (σ.set id (.cells cs)) ι' (w.alloc (.cells vs t)) := by
    refine ⟨by simp, fun i c hc => ?_, fun i c hc => ?_, fun i n hc => ?_, fun i o b x h1 h2 h3 => ?_, fun b j v hc _ => by rw [cell_old _ _ (cell_lt hc)]; exact hc, fun i n b x h1 _ h3 j _ hc hf => ?_, fun i hc b x hx => ?_⟩
    · have hne : i ≠ id := by rintro rfl; rw [hid] at hc; cases hc
      exact ⟨hι i hne, c, by rw [hg, if_neg hne]; exact hc, rfl⟩
    · have hne : i ≠ id := by rintro rfl; rw [hid] at hc; cases hc
      exact ⟨hι i hne, c, by rw [hg, if_neg hne]; exact hc⟩
    · have hne : i ≠ id := by rintro rfl; rw [hid] at hc; cases hc
      exact ⟨n, by rw [hg, if_neg hne]; exact hc, Nat.le_refl _, fun _ => hι i hne, fun b x hx => Or.inl ⟨x, (hι i hne) ▸ hx, Nat.le_refl _⟩⟩
    · have hne : i ≠ id := by rintro rfl; rw [hid] at h1; cases h1
      rw [hg, if_neg hne, h1] at h2; cases h2
    · have hlt := (h.blk i _ b x h1 h3).2
      obtain ⟨v, hv⟩ := hc
      exact ⟨⟨v, by rw [cell_old _ _ hlt]; exact hv⟩, by rw [frozen_old _ _ hlt]; exact hf⟩
    · by_cases hne : i = id
      · subst hne; rw [hn] at hx; cases hx; exact Or.inr (Nat.le_refl _)
      · rw [hι i hne] at hx; exact Or.inl hx
  refine ⟨ι', ⟨h.below.alloc h.hB _, by simp; have := h.hB; omega, fun i o ho => ?_, fun i o b x ho hi => ?_, fun i j oi oj b x y hi hj h1 h2 => ?_⟩, Ext.step s (by simp), hn⟩
  · rw [hg] at ho
    split at ho
    · rename_i e; subst e; cases ho
      refine ⟨w.heap.size, 0, hn, VL_ofGet _ _ _ fun j x e => ?_, fun j _ => World.frozen?_alloc_new w vs t j⟩
      obtain ⟨v, hv1, hv2⟩ := VT_get cs _ j x hv e
      exact ⟨v, by rw [Nat.zero_add, cell_new]; simpa using hv1, V_mono s x v hv2⟩
    · rename_i hne
      rw [hι i hne]
      exact ORel_keep s (fun b y j _ hb => ⟨cell_old w _ hb, frozen_old w _ hb⟩) (fun b y e => (h.blk i o b y ho e).2) (h.obj i o ho)
  · rw [hg] at ho
    by_cases hne : i = id
    · subst hne; rw [hn] at hi; cases hi; have := h.hB; simp; omega
    · rw [if_neg hne] at ho; rw [hι i hne] at hi
      have := h.blk i o b x ho hi; simp; omega
  · rw [hg] at hi hj
    by_cases hne : i = id
    · by_cases hnj : j = id
      · rw [hne, hnj]
      · subst hne
        rw [hn] at h1; cases h1
        rw [if_neg hnj] at hj; rw [hι j hnj] at h2
        have := h.blk j oj _ _ hj h2; omega
    · by_cases hnj : j = id
      · subst hnj
        rw [hn] at h2; cases h2
        rw [if_neg hne] at hi; rw [hι i hne] at h1
        have := h.blk i oi _ _ hi h1; omega
      · rw [if_neg hne] at hi; rw [if_neg hnj] at hj; rw [hι i hne] at h1; rw [hι j hnj] at h2
        exact h.inj i j oi oj b x y hi hj h1 h2

theorem rallocH {t : TypeId} {cs : List AV} {id : Nat} (ho : o.op = .alloc t) (hz : (ti P t).zero = some cs) (hid : σ[id]? = some .hole) (hk : K (.ref id 0) (σ.set id (.cells cs))) : AOp P N o st σ K :=
  AOp_val _ _ (fun B w0 ι w a hs => by
    obtain ⟨i, v, hi, hv, hcs, _⟩ := ti_zero hz
    obtain ⟨ι', hr, he, hn⟩ := hs.rel.fill hid (cs := cs) (vs := v.cells) t (by rw [hcs]; exact VT_ofConst _ _ _ _)
    refine ⟨.pointer (some (at_ w.heap.size 0)), ι', _, ?_, ?_, hr, he⟩
    · simp [execOp, ho, Instr.alloc, rzeroValue hi hv, newVar, newRow]
    · simp only [V]; exact ⟨cs, w.heap.size, 0, by rw [List.getElem?_set_self (some_lt hid)], hn, rfl⟩) hk

theorem rbox {t : TypeId} {x : Operand} {cs : List AV} (ho : o.op = .box t x) (hx : vcells (ev st x) = some cs) (hk : K (.ref σ.length 0) (σ ++ [.cells cs])) : AOp P N o st σ K :=
  AOp_val _ _ (fun B w0 ι w a hs => by
    obtain ⟨ι', hr, he, hn⟩ := hs.rel.new (cs := cs) (vs := (a.eval x).cells) t (V_cells (hs.ev x) hx)
    refine ⟨.pointer (some (at_ w.heap.size 0)), ι', _, ?_, V_newref hn, hr, he⟩
    simp [execOp, ho, Instr.box, newVar, newRow]) hk

/-- A field's place and size in cells. -/
def fieldOf (P : Program) (s : TypeId) (f : Nat) : Option (Nat × TypeId) := match (ti P s).desc with
  | some (.struct fs) => (fs[f]?).map fun d => (d.offset, d.type)
  | _ => none

theorem rfieldPlace {w : World} {b off : Nat} {f : Field} (h : 0 < (ti P f.type).size) : (fieldPlace (at_ b off) f).run P w = .ok (at_ b (off + f.offset)) w := by
  obtain ⟨i, hi, hs, _⟩ := ti_size h
  have : ¬ i.size = 0 := by omega
  simp [fieldPlace, rsizeOf hi, this, at_add]

theorem fieldOf_some {s : TypeId} {f : Nat} {off : Nat} {ft : TypeId} (h : fieldOf P s f = some (off, ft)) : ∃ fs d, P.underlying s = some (.struct fs) ∧ fs[f]? = some d ∧ d.offset = off ∧ d.type = ft := by
  unfold fieldOf at h
  split at h
  · rename_i fs hd
    obtain ⟨_, _, hu, _⟩ := ti_desc hd
    cases hf : fs[f]? with
    | none => rw [hf] at h; cases h
    | some d => rw [hf] at h; simp at h; exact ⟨fs, d, hu, hf, h.1, h.2⟩
  · cases h

theorem rfieldAddr {s : TypeId} {x : Operand} {f fo id off : Nat} {ft : TypeId} (ho : o.op = .fieldAddr s x f) (hx : ev st x = .ref id off) (hf : fieldOf P s f = some (fo, ft)) (hsz : 0 < (ti P ft).size) (hk : K (.ref id (off + fo)) σ) : AOp P N o st σ K :=
  AOp_pure _ (fun B w0 ι w a hs => by
    have h := hs.ev x
    rw [hx] at h; simp only [V] at h
    obtain ⟨cs, b, y, h1, h2, h3⟩ := h
    obtain ⟨fs, d, hu, hfs, rfl, rfl⟩ := fieldOf_some hf
    refine ⟨.pointer (some (at_ b (off + d.offset))), ?_, by simp only [V]; exact ⟨cs, b, y, h1, h2, rfl⟩⟩
    simp [execOp, ho, Instr.fieldAt, runderlying hu, hfs, h3, Instr.sureAddr, rfieldPlace hsz]) hk

theorem rfieldAddri {s : TypeId} {x : Operand} {f fo : Nat} {ft : TypeId} {cs : List AV} (ho : o.op = .fieldAddr s x f) (hx : ev st x = .ipt cs) (hf : fieldOf P s f = some (fo, ft)) (hsz : 0 < (ti P ft).size) (hle : fo ≤ cs.length) (hk : K (.ipt (cs.drop fo)) σ) : AOp P N o st σ K :=
  AOp_pure _ (fun B w0 ι w a hs => by
    have h := hs.ev x
    rw [hx] at h; simp only [V] at h
    obtain ⟨b, off, h3, hb, hsf, hl⟩ := h
    obtain ⟨fs, d, hu, hfs, rfl, rfl⟩ := fieldOf_some hf
    refine ⟨.pointer (some (at_ b (off + d.offset))), ?_, by
      simp only [V]; exact ⟨b, off + d.offset, rfl, hb, hsf.le (by simp; omega), VL_dropn _ hl⟩⟩
    simp [execOp, ho, Instr.fieldAt, runderlying hu, hfs, h3, Instr.sureAddr, rfieldPlace hsz]) hk

/-- A part of the cells of a struct or an array. -/
theorem rpart {w : World} {ι : Inj} {t : TypeId} {cs : List AV} {vs : Array Value} {off : Nat} {r : AV} (h : VT σ ι w cs vs.toList) (hr : aload (ti P t) (cs.drop off) = some r) : ∃ v, (part t vs off).run P w = .ok v w ∧ V σ ι w r v := by
  unfold aload at hr
  cases hd : (ti P t).desc with
  | none => rw [hd] at hr; cases hr
  | some d =>
    obtain ⟨i, hi, hu, hs, _⟩ := ti_desc hd
    rw [hd] at hr
    simp only at hr
    have hlen := VT_length _ _ h
    simp only [part, Sem.run_bind, risAgg hu, Result.andThen_ok]
    split at hr
    · rename_i ha
      split at hr
      · cases hr
        refine ⟨.agg (vs.extract off (off + i.size)), by simp [ha, rsizeOf hi], ?_⟩
        simp only [V]
        refine ⟨_, rfl, VT_ofGet _ _ ?_ fun j x v h1 h2 => ?_⟩
        · simp at hlen ⊢; rw [hs]; omega
        · rw [List.getElem?_take] at h1
          split at h1
          · rw [List.getElem?_drop] at h1
            obtain ⟨u, h3, h4⟩ := VT_get cs _ _ x h h1
            have : v = u := by
              simp only [Array.toList_extract, List.extract_eq_take_drop, Nat.add_sub_cancel_left] at h2
              rw [List.getElem?_take] at h2
              split at h2
              · rw [List.getElem?_drop, h3] at h2; cases h2; rfl
              · cases h2
            subst this; exact h4
          · cases h1
      · cases hr
    · rename_i ha
      rw [List.head?_drop] at hr
      obtain ⟨u, h3, h4⟩ := VT_get cs _ _ _ h hr
      simp at h3
      exact ⟨u, by simp [ha, h3], h4⟩

theorem rfield {s : TypeId} {x : Operand} {f fo : Nat} {ft : TypeId} {cs : List AV} {r : AV} (ho : o.op = .field s x f) (hx : ev st x = .agg cs) (hf : fieldOf P s f = some (fo, ft)) (hr : aload (ti P ft) (cs.drop fo) = some r) (hk : K r σ) : AOp P N o st σ K :=
  AOp_pure _ (fun B w0 ι w a hs => by
    have h := hs.ev x
    rw [hx] at h; simp only [V] at h
    obtain ⟨vs, h3, hl⟩ := h
    obtain ⟨fs, d, hu, hfs, rfl, rfl⟩ := fieldOf_some hf
    obtain ⟨v, h4, h5⟩ := rpart (P := P) hl hr
    exact ⟨v, by simp [execOp, ho, Instr.field, runderlying hu, hfs, h3, asAgg, h4], h5⟩) hk

theorem rextract {x : Operand} {i : Nat} {xs : List AV} {r : AV} (ho : o.op = .extract x i) (hx : ev st x = .tup xs) (hr : xs[i]? = some r) (hk : K r σ) : AOp P N o st σ K :=
  AOp_pure _ (fun B w0 ι w a hs => by
    have h := hs.ev x
    rw [hx] at h; simp only [V] at h
    obtain ⟨vs, h3, hl⟩ := h
    obtain ⟨v, h4, h5⟩ := VT_get _ _ _ _ hl hr
    simp at h4
    exact ⟨v, by simp [execOp, ho, Instr.extract, h3, h4], h5⟩) hk

theorem rnilCheck {x : Operand} {X : AV} (ho : o.op = .nilCheck x) (hx : ev st x = X) (hX : match X with | .ref .. | .ipt _ | .fn .. => True | _ => False) (hk : K X σ) : AOp P N o st σ K :=
  AOp_pure _ (fun B w0 ι w a hs => by
    have h := hs.ev x
    rw [hx] at h
    refine ⟨a.eval x, ?_, h⟩
    cases X <;> simp at hX <;> simp only [V] at h
    · obtain ⟨_, _, _, _, _, h⟩ := h; simp [execOp, ho, h]
    · obtain ⟨_, _, h, _⟩ := h; simp [execOp, ho, h]
    · obtain ⟨_, h, _⟩ := h; simp [execOp, ho, h]) hk

theorem rmakeFunc {f : FuncId} {cap : Array Operand} (ho : o.op = .makeFunc (.func f) #[] cap) (hk : K (.fn f (cap.toList.map (ev st))) σ) : AOp P N o st σ K :=
  AOp_pure _ (fun B w0 ι w a hs => by
    refine ⟨.func (.func f) #[] (cap.map a.eval), by simp [execOp, ho, Instr.makeFunc], ?_⟩
    simp only [V]
    exact ⟨_, rfl, by rw [Array.toList_map]; exact hs.evs _⟩) hk

end
end Go.Sal
