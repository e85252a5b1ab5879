/- Drawn regions: a variable that is made anew, and the store into it that stands last. -/
import Derived.Test.YtjhdkjacfclipaaDoorEng14
set_option linter.unusedVariables false
set_option linter.unusedSimpArgs false
namespace Go.Eng
section
variable {P : Program} {C : Cx} {n : Nat} {ops : Array Oper} {Q : AQ} {f : Fr} {L : Hp} {dst : Option Tmp} {op : Op} {ty : TypeId} {pos : String} {after : Array Edge} {i : Nat} {r : List Nat}

theorem DT_alloc {e : TypeId} {z c0 : Value} (ho : ops[i]? = some ⟨dst, .alloc e, ty, pos, after, none⟩) (hz : tyZero P e = some (some z)) (hzc : z.cells.toList = [c0]) (hd : dstOk n dst = true) (hr : (r.all fun j => (lookM (masks ops (i :: r) []) j).testBit i) = true)
    (h : ∀ C' b, CExt C C' → Blk C' b [c0] e → C.w0.heap.size ≤ b → DT P n ops C' Q r (updo f dst (rawP b 0)) L) : DT P n ops C Q (i :: r) f L := by
  refine .e (Z := fun C' v => ∃ b, CExt C C' ∧ Blk C' b [c0] e ∧ C.w0.heap.size ≤ b ∧ v = rawP b 0) ho rfl ?_ hr (fun C' v ⟨b, h1, _⟩ hT => hT.ext h1) fun C' v ⟨b, h1, h2, h3, h4⟩ => by subst h4; exact h C' b h1 h2 h3
  intro f' _ L' a w β S hr K Qc hK
  refine runOr_none rfl ?_
  have hrun : (execOp a.eval ⟨dst, .alloc e, ty, pos, after, none⟩).run P w = .ok (.value (.pointer (some ⟨w.heap.size, 0, none⟩))) (w.alloc (.cells z.cells e)) := by
    simp [execOp, Instr.alloc, zeroValue_run hz, run_newVar, Result.andThen]
  unfold Oper.wp
  rw [hrun, Oper.upon_value]
  have hpush : (w.alloc (.cells z.cells e)).heap = w.heap.push (.cells z.cells e (0, 0)) := rfl
  have hp : Pres (fun _ => False) w (w.alloc (.cells z.cells e)) := ⟨rfl, rfl, rfl, by rw [hpush]; simp, fun b hb _ => by rw [hpush, Array.getElem?_push, if_neg (by omega)]⟩
  have hr1 := hr.called0 hp
  obtain ⟨e1, e2⟩ := hr1.restart
  have hcl : z.cells = [c0].toArray := by rw [← hzc]
  refine hK ⟨w.alloc (.cells z.cells e), boxBlk L' β, S⟩ _ _ _ _ _ ⟨w.heap.size, e1, ⟨?_, fun ⟨j, bx, c, hL, hβ⟩ => ?_, fun hs => ?_⟩, hr.pres.size, rfl⟩ (e2.puto (dstOk_spec hd) (VR_c.2 ⟨rfl, rfl⟩))
  · show (w.alloc (.cells z.cells e)).heap[w.heap.size]? = _
    rw [hpush, Array.getElem?_push, if_pos rfl, hcl]
  · have := (hr.hp.bx j bx hL).lt hβ; omega
  · have := hr.hp.fz _ hs; omega

/-- A call that reads what stands in boxes. -/
theorem DT_qcallL {x : Operand} {args : Array Operand} {ts : Array TypeId} {k : FuncId} {ds : List D} {y : Value} (ho : ops[i]? = some ⟨dst, callV x args ts, ty, pos, after, none⟩) (hx : ev f x = .d (.fn k [])) (hc : Callable P k) (hp : PCall P k ds (· = [.c y]))
    (ha : ∀ C' : Cx, All2 (RdA C' L) (args.toList.map (ev f)) ds) (hd : dstOk n dst = true) (h : DT P n ops C Q r (updo f dst (.d (.c y))) L) : DT P n ops C Q (i :: r) f L := by
  refine .a ho ?_ h
  intro C' hT f' hf L' hL a w β S hr K Qc hK
  have hL' := hL rfl
  subst hL'
  have hev := ev_looks hf
  refine runOr_none rfl ?_
  have hx' : ev f' x = .d (.fn k []) := (hev x (by simp [Op.operands, Call.operands])).trans hx
  have ha' : All2 (RdA C' L') (args.toList.map (ev f')) ds := by
    rw [maps_congr fun y hy => hev y (by simp [Op.operands, Call.operands]; exact .inr (by simpa using hy))]
    exact ha C'
  exact qcall_wp hT hr hx' hc hp (RdL_RD hr _ _ ha') hd K Qc fun a' w' β' S' hr' => hK _ _ _ _ hr'
theorem DT_zstore {C1 : Cx} {t e : TypeId} {s b : Nat} {y : Operand} {c0 v : Value} (hx1 : CExt C C1) (ho : ops[i]? = some ⟨none, .store t (.tmp s) y, ty, pos, after, none⟩) (hl : lastOp ops i ⟨none, .store t (.tmp s) y, ty, pos, after, none⟩ = true) (hx : f s = rawP b 0) (hy : ev f y = .d (.c v))
    (hb : Blk C1 b [c0] e) (hlo : C.w0.heap.size ≤ b) (hs : tySize P t = some 1) (hsc : Value.scalar v = true) (m : Nat) (hm : L.length = m)
    (h : Fin C n (Q .normal) (upd f s (.ptr .one m 0 [])) (L ++ [some ⟨e, .one, [.d (.c v)]⟩])) : DT P n ops C1 Q [i] f L := by
  subst hm
  refine .z ho hl ?_
  intro a w β S hr K hK
  refine runOr_none rfl ?_
  have hsz := hr.pres.size
  have hlt := hb.lt
  have hw : w.heap[b]? = some (.cells [c0].toArray e (0, 0)) := (hr.pres.block b hlt hb.dm).trans hb.hp
  have hcl : v.cells.toList = [v] := by rw [cells_scalar hsc]
  have hrun := run_storeCells_at P b 0 e [v] 0 [c0].toArray w hw (by simp) (fun u hu => oneCell_of_scalar (by rw [List.mem_singleton] at hu; rw [hu]; exact hsc))
  have hnew : ([c0].toArray.toList.take (0 + 0) ++ [v] ++ [c0].toArray.toList.drop (0 + 0 + [v].length)).toArray = [v].toArray := rfl
  rw [hnew] at hrun
  have hop : (execOp a.eval ⟨none, .store t (.tmp s) y, ty, pos, after, none⟩).run P w = .ok .skip (w.setRow b [v].toArray) := by
    simp only [execOp, eval_c hr (x := .tmp s) hx, eval_c hr hy, Instr.storeAt, Instr.sureAddr, Sem.run_bind, Sem.run_pure, Result.andThen, storeVar_run hs (by rw [hcl]; rfl), hcl, hrun]
  unfold Oper.wp
  rw [hop, Oper.upon_skip]
  have notS : ¬ S b := fun hs => by
    rcases hr.fz b hs with h3 | h3 | h3
    · exact hb.s0 h3
    · omega
    · exact hb.dm h3
  have notB : ∀ i bx c, L[i]? = some (some bx) → β i ≠ some (some (b, c)) := fun i bx c hL hβ => by
    rcases hr.own i bx b c hL hβ with h3 | h3
    · exact hb.dm h3
    · omega
  have old : ∀ c, c ≠ b → (w.setRow b [v].toArray).heap[c]? = w.heap[c]? := fun c hc => setRow_other w b c _ hc
  have hr0 := hr.back hx1
  have lat : Later β S w (setβ β L.length (some (b, 1))) S (w.setRow b [v].toArray) := by
    refine ⟨fun m o hm => ?_, fun _ h => h, fun c hc => old c fun e => notS (e ▸ hc)⟩
    by_cases e : m = L.length
    · subst e; rw [hr.hp.un _ (Nat.le_refl _)] at hm; cases hm
    · rw [setβ_ne _ _ e]; exact hm
  have cases_ : ∀ m bx, (L ++ [some (⟨e, .one, [.d (.c v)]⟩ : Box)])[m]? = some (some bx) → (m < L.length ∧ L[m]? = some (some bx)) ∨ (m = L.length ∧ bx = ⟨e, .one, [.d (.c v)]⟩) := fun m bx hm => by
    rcases get_snoc _ _ _ _ hm with ⟨h1, h2⟩ | ⟨h1, h2⟩
    · exact .inl ⟨h1, h2⟩
    · injection h2 with h2
      exact .inr ⟨h1, h2.symm⟩
  have hrow := setRow_heap w b _ [v].toArray e _ hw
  have hfin : Rel C n f (L ++ [some ⟨e, .one, [.d (.c v)]⟩]) a (w.setRow b [v].toArray) (setβ β L.length (some (b, 1))) S := by
    refine hr0.later lat ⟨?_, ?_, ?_, ?_, ?_, ?_⟩ ?_ ?_ ?_
    · intro m bx hm
      rcases cases_ m bx hm with ⟨h1, h2⟩ | ⟨rfl, rfl⟩
      · exact BoxR_later lat (fun c c' hc => old c fun e => notB m bx c' h2 (e ▸ hc)) (hr.hp.bx m bx h2)
      · refine ⟨by simp [lim], .inr ⟨b, 1, [v].toArray, [v], setβ_self _ _ _, hrow, rfl, ⟨Nat.le_refl _, by simp [maxLen]⟩, ?_, fun j x hx => by simpa using hx⟩⟩
        simp only [List.length_singleton, List.replicate_one, VCs]
        refine ⟨_, _, [v], [], rfl, rfl, rfl, ?_, rfl, rfl⟩
        simp only [VC]
        unfold DC
        exact ⟨rfl, hsc⟩
    · intro m m' b1 bx bx' c c' hm hm' hb1 hb2
      rcases cases_ m bx hm with ⟨h1, h2⟩ | ⟨rfl, rfl⟩ <;> rcases cases_ m' bx' hm' with ⟨k1, k2⟩ | ⟨rfl, rfl⟩
      · rw [setβ_ne _ _ (by omega)] at hb1 hb2
        exact hr.hp.inj m m' b1 bx bx' c c' h2 k2 hb1 hb2
      · rw [setβ_ne _ _ (by omega)] at hb1
        rw [setβ_self] at hb2
        injection hb2 with hb2
        injection hb2 with hb2
        injection hb2 with hb2
        subst hb2
        exact absurd hb1 (notB m bx c h2)
      · rw [setβ_ne _ _ (by omega)] at hb2
        rw [setβ_self] at hb1
        injection hb1 with hb1
        injection hb1 with hb1
        injection hb1 with hb1
        subst hb1
        exact absurd hb2 (notB m' bx' c' k2)
      · rfl
    · intro m bx b1 c hm hb1
      rcases cases_ m bx hm with ⟨h1, h2⟩ | ⟨rfl, rfl⟩
      · rw [setβ_ne _ _ (by omega)] at hb1
        exact hr.hp.own m bx b1 c h2 hb1
      · rw [setβ_self] at hb1
        injection hb1 with hb1
        injection hb1 with hb1
        injection hb1 with hb1
        subst hb1
        exact notS
    · intro c hc
      have := hr.hp.fz c hc; simpa using this
    · intro m hm
      simp at hm
      rw [setβ_ne _ _ (by omega)]
      exact hr.hp.un m (by omega)
    · intro m bx q hm hq
      rcases cases_ m bx hm with ⟨h1, h2⟩ | ⟨rfl, rfl⟩
      · rw [setβ_ne _ _ (by omega)]
        exact hr.hp.ad m bx q h2 hq
      · cases hq
    · intro m bx b1 c hm hb1
      rcases cases_ m bx hm with ⟨h1, h2⟩ | ⟨rfl, rfl⟩
      · rw [setβ_ne _ _ (by omega)] at hb1
        exact hr0.own m bx b1 c h2 hb1
      · rw [setβ_self] at hb1
        injection hb1 with hb1
        injection hb1 with hb1
        injection hb1 with hb1
        subst hb1
        exact .inr hlo
    · exact hr0.fz
    · refine ⟨hr0.pres.os, hr0.pres.tape, hr0.pres.output, by simpa using hr0.pres.size, fun c hc hd => ?_⟩
      exact (old c (by omega)).trans (hr0.pres.block c hc hd)
  have hsv : a.tmps.getD s undef = .pointer (some ⟨b, 0, none⟩) := by
    have := hr.fr s
    rw [hx] at this
    exact (VR_c.1 this).1
  have hfin2 := hfin.updl [(s, .ptr .one L.length 0 [])] (fun q hq => by
    rw [List.mem_singleton] at hq
    subst hq
    simp only
    rw [hsv]
    exact VR_ptr0 (setβ_self _ _ _))
  exact hK _ _ (h _ _ _ _ hfin2)
end
end Go.Eng
