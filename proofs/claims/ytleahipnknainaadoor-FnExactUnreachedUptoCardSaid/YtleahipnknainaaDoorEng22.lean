/- The engine: reading and writing a block by its address; the start and the end of a function that marks. -/
import Derived.Test.YtleahipnknainaaDoorEng21
set_option linter.unusedVariables false
set_option linter.unusedSimpArgs false
namespace Go.Eng

/-- A block that the context leaves alone, and what it holds. -/
structure Blk (C : Cx) (b : Nat) (cur : List Value) (ty : TypeId) : Prop where
  hp : C.w0.heap[b]? = some (.cells cur.toArray ty (0, 0))
  dm : ¬ C.Dm b
  s0 : ¬ C.S0 b
abbrev rawS (b n c : Nat) : Value := .slice (some ⟨b, 0, none⟩) n c
abbrev rawP (b o : Nat) : V := .d (.c (.pointer (some ⟨b, o, none⟩)))

theorem Blk.lt {C : Cx} {b : Nat} {cur : List Value} {ty : TypeId} (h : Blk C b cur ty) : b < C.w0.heap.size := (Array.getElem?_eq_some_iff.1 h.hp).1
theorem Blk.marked {C C' : Cx} {b : Nat} {cur : List Value} {ty : TypeId} {K : List Nat} (h : Blk C b cur ty) (k : Mk C K C') (hb : b ∉ K) : Blk C' b cur ty := by
  have hlt := h.lt
  refine ⟨(k.pres.block b hlt fun h1 => h1.elim h.dm hb).trans h.hp, fun h1 => ?_, fun h1 => ?_⟩
  · rcases k.dm b h1 with h2 | h2
    · exact h.dm h2
    · omega
  · rcases k.fz b h1 with h2 | h2 | h2
    · exact h.s0 h2
    · omega
    · exact h.dm h2
theorem Mk.trans {C C' C'' : Cx} {K K' : List Nat} (h : Mk C K C') (k : Mk C' K' C'') (hK : ∀ b ∈ K', b < C.w0.heap.size → b ∈ K) : Mk C K C'' := by
  have hs := h.pres.size
  refine ⟨⟨k.pres.os.trans h.pres.os, k.pres.tape.trans h.pres.tape, k.pres.output.trans h.pres.output, Nat.le_trans hs k.pres.size, fun b hb hd => ?_⟩, ?_, fun b hb => k.s0 b (h.s0 b hb), ?_⟩
  · rw [k.pres.block b (by omega) (fun h1 => by
      rcases h1 with h1 | h1
      · rcases h.dm b h1 with h2 | h2
        · exact hd (.inl h2)
        · omega
      · exact hd (.inr (hK b h1 hb)))]
    exact h.pres.block b hb hd
  · intro b hb
    rcases k.dm b hb with h1 | h1
    · exact h.dm b h1
    · exact .inr (by omega)
  · intro b hb
    rcases k.fz b hb with h1 | h1 | h1
    · exact h.fz b h1
    · exact .inr (.inl (by omega))
    · rcases h.dm b h1 with h2 | h2
      · exact .inr (.inr h2)
      · exact .inr (.inl h2)
theorem Mk.mono {C C' : Cx} {K K' : List Nat} (h : Mk C K C') (hK : ∀ b ∈ K, b ∈ K') : Mk C K' C' :=
  ⟨⟨h.pres.os, h.pres.tape, h.pres.output, h.pres.size, fun b hb hd => h.pres.block b hb fun h1 => hd (h1.imp id (hK b))⟩, h.dm, h.s0, h.fz⟩

section
variable {P : Program} {C : Cx} {n : Nat} {f : Fr} {L : Hp} {Q : AQ} {ops : Array Oper} {rest : List Oper} {dst : Option Tmp} {ty : TypeId} {pos : String} {after : Array Edge} {g : Option (Nat × Bool)}

theorem Ev_len_c {t e : TypeId} {x : Operand} {A : Option Addr} {m c : Nat} (ht : tyElem P t = some e) (hx : ev f x = .d (.c (.slice A m c))) : Ev P C n ⟨dst, callB .len #[x] #[t], ty, pos, after, g⟩ f L (i64 m) :=
  Ev_len_of ht fun a w β S hr => ⟨A, c, eval_c hr hx⟩
theorem Ev_ix_raw {t e : TypeId} {x y : Operand} {k : IntKind} {j : Int} {b o len cap m : Nat} (hx : ev f x = .d (.c (.slice (some ⟨b, o, none⟩) len cap))) (hy : ev f y = .d (.c (.int k j))) (ht : tyElem P t = some e) (hs : tySize P e = some m) (h0 : 0 ≤ j) (h1 : j < len) :
    Ev P C n ⟨dst, .indexAddr t x y, ty, pos, after, g⟩ f L (rawP b (o + j.toNat * m)) := by
  intro a w β S hr
  refine ⟨_, ?_, VR_c.2 ⟨rfl, rfl⟩⟩
  simp only [execOp, eval_c hr hx, eval_c hr hy, Sem.run_bind, run_indexAt' ht hs b o len cap k j h0 h1, Result.andThen]
  rfl
theorem Ev_fa_raw {s : TypeId} {x : Operand} {b o j d : Nat} (hx : ev f x = rawP b o) (hf : tyField P s j = some (d, true)) : Ev P C n ⟨dst, .fieldAddr s x j, ty, pos, after, g⟩ f L (rawP b (o + d)) := by
  intro a w β S hr
  refine ⟨_, ?_, VR_c.2 ⟨rfl, rfl⟩⟩
  simp only [execOp, eval_c hr hx, Sem.run_bind, tyField_run hf, Result.andThen]
  rfl
theorem Ev_load_raw {t : TypeId} {x : Operand} {b o : Nat} {cur : List Value} {e : TypeId} {v : Value} (hx : ev f x = rawP b o) (hb : Blk C b cur e) (hv : cur[o]? = some v) (hs : tySize P t = some 1) (ha : tyAgg P t = some false) (hsc : Value.scalar v = true) :
    Ev P C n ⟨dst, .load t x, ty, pos, after, g⟩ f L (.d (.c v)) := by
  intro a w β S hr
  have hw : w.heap[b]? = some (.cells cur.toArray e (0, 0)) := (hr.pres.block b hb.lt hb.dm).trans hb.hp
  have hc : cellsAt w b o [v] := by
    intro j x hx
    match j, hx with
    | 0, hx => simp at hx; subst hx; simp [World.cell?, hw, hv]
    | j + 1, hx => simp at hx
  have hrun := run_loadVar' (P := P) (t := t) (cs := [v]) ha hs (fun _ => rfl) hc
  refine ⟨v, ?_, VR_c.2 ⟨rfl, hsc⟩⟩
  simp only [execOp, eval_c hr hx, Instr.loadAt, Instr.sureAddr, Sem.run_bind, Sem.run_pure, Result.andThen, hrun]
  rfl

theorem AL_rstore {t : TypeId} {x y : Operand} {b o : Nat} {cur : List Value} {e : TypeId} {v : Value} (hx : ev f x = rawP b o) (hy : ev f y = .d (.c v)) (hb : Blk C b cur e) (ho : o < cur.length) (hs : tySize P t = some 1) (hsc : Value.scalar v = true) (hd : dstOk n dst = true)
    (h : ∀ C', Mk C [b] C' → Blk C' b (cur.set o v) e → AL P C' n ops rest Q (updo f dst .any) L) : AL P C n ops (⟨dst, .store t x y, ty, pos, after, none⟩ :: rest) Q f L := by
  intro a w β S hr
  refine wpList_plain rfl fun K hK => ?_
  have hsz := hr.pres.size
  have hlt := hb.lt
  have hw : w.heap[b]? = some (.cells cur.toArray e (0, 0)) := (hr.pres.block b hlt hb.dm).trans hb.hp
  have hcl : v.cells.toList = [v] := by rw [cells_scalar hsc]
  have hrun := run_storeCells_at P b o e [v] 0 cur.toArray w hw (by simp; omega) (fun u hu => oneCell_of_scalar (by rw [List.mem_singleton] at hu; rw [hu]; exact hsc))
  have hnew : (cur.toArray.toList.take (o + 0) ++ [v] ++ cur.toArray.toList.drop (o + 0 + [v].length)).toArray = (cur.set o v).toArray := by
    simp only [Nat.add_zero, List.length_singleton]
    rw [List.set_eq_take_append_cons_drop, if_pos ho]
    simp
  rw [hnew] at hrun
  have hop : (execOp a.eval ⟨dst, .store t x y, ty, pos, after, none⟩).run P w = .ok .skip (w.setRow b (cur.set o v).toArray) := by
    simp only [execOp, eval_c hr hx, eval_c hr hy, Instr.storeAt, Instr.sureAddr, Sem.run_bind, Sem.run_pure, Result.andThen, storeVar_run hs (by rw [hcl]; rfl), hcl, hrun]
  unfold Oper.wp
  rw [hop, Oper.upon_skip]
  have notS : ¬ S b := fun hs => by
    rcases hr.fz b hs with h3 | h3 | h3
    · exact hb.s0 h3
    · omega
    · exact hb.dm h3
  have notB : ∀ i bx c, L[i]? = some (some bx) → β i ≠ some (some (b, c)) := fun i bx c hL hβ => by
    rcases hr.own i bx b c hL hβ with h3 | h3
    · exact hb.dm h3
    · omega
  have old : ∀ c, c ≠ b → (w.setRow b (cur.set o v).toArray).heap[c]? = w.heap[c]? := fun c hc => setRow_other w b c _ hc
  have lat : Later β S w β S (w.setRow b (cur.set o v).toArray) := ⟨fun _ _ h => h, fun _ h => h, fun c hc => old c fun e => notS (e ▸ hc)⟩
  have hr2 : Rel ⟨w.setRow b (cur.set o v).toArray, boxBlk L β, S⟩ n f L a (w.setRow b (cur.set o v).toArray) β S := by
    refine ⟨hr.df, hr.sz, fun i => VR_later lat (hr.fr i), ⟨fun i bx hi => BoxR_later lat (fun c c' hc => old c fun e => notB i bx c' hi (e ▸ hc)) (hr.hp.bx i bx hi), hr.hp.inj, hr.hp.own, fun c hc => by have := hr.hp.fz c hc; simpa using this, hr.hp.un⟩, fun i bx b c hL hb => .inl ⟨i, bx, c, hL, hb⟩, fun b hb => .inl hb, fun b hb => hb, Pres.refl _ _⟩
  have hmk : Mk C [b] ⟨w.setRow b (cur.set o v).toArray, boxBlk L β, S⟩ := by
    refine ⟨⟨hr.pres.os, hr.pres.tape, hr.pres.output, by simpa using hsz, fun c hc hd => ?_⟩, fun b ⟨i, bx, c, hL, hb⟩ => hr.own i bx b c hL hb, hr.s0, hr.fz⟩
    exact (old c fun e => hd (.inr (by simp [e]))).trans (hr.pres.block c hc fun h => hd (.inl h))
  exact hK _ _ (h _ hmk ⟨setRow_heap w b _ _ e _ hw, fun ⟨i, bx, c, hL, hβ⟩ => notB i bx c hL hβ, notS⟩ _ _ _ _ (hr2.puto (dstOk_spec hd) (VR_any ..)))
end

/-! ### The start and the end -/
def retM (fn : Func) (P : Program) (w0 : World) (d' : D) (cs : List Value) (K : List Nat) (m' : Int) (a : Act) (w' : World) : Prop :=
  a.defers = [] ∧ (results fn a.tmps).run P w' = .ok (.int .i64 m') w' ∧ Tr w' d' cs K ∧ Pres (fun b => b ∈ K) w0 w'
def retMQ (fn : Func) (P : Program) (w0 : World) (d' : D) (cs : List Value) (K : List Nat) (m' : Int) : AQ := fun e a w => ends e = true ∧ retM fn P w0 d' cs K m' a w

section
variable {P : Program} {C : Cx} {n : Nat} {f : Fr} {L : Hp}
theorem retM_ok {C0 : Cx} {B : Nat} {fn : Func} {d' : D} {cs : List Value} {K : List Nat} {m' : Int} (hx : Mk C0 K C) (hdm : ∀ b, ¬ C0.Dm b) (hrv : RetV P f L fn.results.toList [i64 m']) (hh : Has B C d' cs K) : Fin C n (retMQ fn P C0.w0 d' cs K m' .ret) f L := by
  intro a w β S hr
  refine ⟨rfl, hr.df, ?_, ?_, ?_⟩
  · obtain ⟨ys, hy, hall⟩ := RetV_run hr hrv
    have hrun := results_run (fn := fn) hy
    cases hall with
    | cons h1 h2 =>
      cases h2
      have := (VR0_c.1 h1).1
      subst this
      simpa using hrun
  · exact Tr_keep _ _ _ (fun b hb => hr.pres.block b (Tr_lt _ _ _ hh.tr b hb) (hh.dm b hb)) hh.tr
  · have hs := hx.pres.size
    refine ⟨hr.pres.os.trans hx.pres.os, hr.pres.tape.trans hx.pres.tape, hr.pres.output.trans hx.pres.output, Nat.le_trans hs hr.pres.size, fun b hb hd => ?_⟩
    rw [hr.pres.block b (by omega) fun h => by
      rcases hx.dm b h with h1 | h1
      · exact hdm b h1
      · omega]
    exact hx.pres.block b hb fun h => h.elim (hdm b) hd

/-- The frame at the start: the value told by its cells, and the number. -/
def frM (v : V) (m : Int) : Fr := fun i => bif Nat.beq i 0 then v else bif Nat.beq i 1 then i64 m else .any

theorem MCall_of {k : FuncId} {fn : Func} {c : Code} {d d' : D} {m m' : Int} (l : Lay) (hf : P.funcs[k]? = some fn) (hb : fn.body = some c) (hn : fn.ntmps = n) (hlen : 2 ≤ n) (hl : d.len? = l.len) (hla : l.ag = d.isAgg)
    (h : ∀ C0 cs K, (∀ b, ¬ C0.Dm b) → Has 0 C0 d cs K → cs.length = l.len → AC P C0 n c (retMQ fn P C0.w0 d' cs K m') (frM (rawV l cs) m) []) : MCall P k d m d' m' := by
  intro w x K ht hag
  refine calls_of_wp hf hb ?_
  subst hn
  let C0 : Cx := ⟨w, fun _ => False, fun _ => False⟩
  have hh : Has 0 C0 d x.cells.toList K := ⟨ht, fun _ _ h => h, fun _ _ h => h, fun _ _ => Nat.zero_le _⟩
  have hcl := (Tr_len ht).trans hl
  have hrel : Rel C0 fn.ntmps (frM (rawV l x.cells.toList) m) [] { tmps := #[x, .int .i64 m] ++ Array.replicate (fn.ntmps - #[x, Value.int .i64 m].size) undef, defers := [] } w (fun _ => none) (fun _ => False) := by
    refine ⟨rfl, by simp; omega, fun i => ?_, ⟨fun i b h => by simp at h, fun i j b bx bx' c c' h => by simp at h, fun i bx b c h => by simp at h, fun b h => h.elim, fun _ _ => rfl⟩, fun i bx b c h => by simp at h, fun b hb => hb.elim, fun b hb => hb, Pres.refl _ _⟩
    match i with
    | 0 =>
      have : (#[x, Value.int .i64 m] ++ Array.replicate (fn.ntmps - #[x, Value.int .i64 m].size) undef).getD 0 undef = x := by
        rw [Array.getD_eq_getD_getElem?, Array.getElem?_append_left (by simp)]; rfl
      rw [this]
      exact raw_VR ht hag hl hla
    | 1 =>
      have : (#[x, Value.int .i64 m] ++ Array.replicate (fn.ntmps - #[x, Value.int .i64 m].size) undef).getD 1 undef = .int .i64 m := by
        rw [Array.getD_eq_getD_getElem?, Array.getElem?_append_left (by simp)]; rfl
      rw [this]
      exact VR_c.2 ⟨rfl, rfl⟩
    | i + 2 => exact VR_any ..
  refine wp_mono (h C0 _ K (fun _ h => h) hh hcl _ w _ _ hrel) ?_
  rintro e a w' ⟨hend, h1, h2, h3, h4⟩
  have fin : a.defers = [] ∧ ∃ v, (results fn a.tmps).run P w' = .ok v w' ∧ (Ending.returned v = .returned (.int .i64 m') ∧ Tr w' d' x.cells.toList K ∧ Pres (fun b => b ∈ K) w w') := ⟨h1, _, h2, rfl, h3, h4⟩
  cases e with
  | normal => exact fin
  | ret => exact fin
  | _ => cases hend
end

theorem srcFree {src : List (Option Nat)} {i : Nat} (h : src.all (fun o => !(o == some i)) = true) : ∀ j, srcOf src j ≠ some i := by
  intro j hj
  unfold srcOf at hj
  split at hj
  · rename_i o ho
    have := List.all_eq_true.1 h o (List.mem_of_getElem? ho)
    subst hj
    simp at this
  · cases hj
theorem OwVs_ints {B : Nat} {C : Cx} {L : Hp} {xs : List Int} {m : Nat} (hm : xs.length = m) : OwVs B C L (List.replicate m .one) ((ints xs).map V.d) (ints xs) [] [] := by
  subst hm
  have := OwVs.scal (B := B) (C := C) (L := L) (l := .one) (xs := xs.map fun n => Value.int .i64 n)
  rw [List.map_map, List.map_map, List.length_map] at this
  unfold ints
  rw [List.map_map]
  exact this
theorem args2 {f : Fr} {x y : Operand} {u v u' v' : D} (hx : ev f x = .d u) (hy : ev f y = .d v) (e : u = u') (e' : v = v') : [x, y].map (ev f) = [u', v'].map V.d := by simp [hx, hy, e, e']
theorem ints_take (xs : List Int) (j : Nat) : (ints xs).take j = ints (xs.take j) := by simp [ints, List.map_take]
theorem ints_drop (xs : List Int) (j : Nat) : (ints xs).drop j = ints (xs.drop j) := by simp [ints, List.map_drop]
/-- The numbers from k on. -/
def iota (k : Int) : Nat → List Int
  | 0 => []
  | n + 1 => k :: iota (k + 1) n
@[simp] theorem iota_length : ∀ (n : Nat) (k : Int), (iota k n).length = n
  | 0, _ => rfl
  | n + 1, k => by simp [iota, iota_length n]
theorem iota_get : ∀ (n j : Nat) (k : Int), j < n → (iota k n)[j]? = some (k + j)
  | 0, j, k, h => by omega
  | n + 1, 0, k, h => by simp [iota]
  | n + 1, j + 1, k, h => by simp [iota, iota_get n j (k + 1) (by omega)]; omega
end Go.Eng
