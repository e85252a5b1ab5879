/- Rows of clauses while they are marked. -/
import Derived.Test.YtjhdkjacfclipaaEng27
set_option linter.unusedVariables false
namespace Go.Eng
theorem ixe (j m d1 d2 : Nat) : 0 + ((j : Nat) : Int).toNat * m + d1 + d2 = m * j + (d1 + d2) := by
  rw [Int.toNat_natCast, Nat.zero_add, Nat.mul_comm, Nat.add_assoc]
theorem ixe1 (j m d1 : Nat) : 0 + ((j : Nat) : Int).toNat * m + d1 = m * j + d1 := by
  rw [Int.toNat_natCast, Nat.zero_add, Nat.mul_comm]
theorem lt9 {cur : List Value} {N n j o r : Nat} (hcl : cur.length = N * 9) (hn : n ≤ N) (hj : j < n) (ho : o = 9 * j + r) (hr : r < 9) : o < cur.length := by omega
theorem cls_store {C C0 D : Cx} {b : Nat} {K' : List Nat} {cur As : List Value} {ty : TypeId} {N n o j r : Nat} {v : Value} (hM : Mk C0 (b :: K') C) (hcl : cur.length = N) (hsh : ShC cur As n) (hk : Mk C [b] D) (hb : Blk D b (cur.set o v) ty) (ho : o = 9 * j + r) (hr : r < 9 ∧ r ≠ 3 ∧ r ≠ 7) :
    Mk C0 (b :: K') D ∧ ∃ cur', Blk D b cur' ty ∧ cur'.length = N ∧ ShC cur' As n :=
  ⟨hM.trans hk (fun x hx _ => by rw [List.mem_singleton] at hx; simp [hx]), _, hb, by simpa using hcl, hsh.set _ _ fun i => by subst ho; constructor <;> omega⟩
theorem HasK.mk1 {C D : Cx} {ts : List T} {As : List Value} {K : List Nat} {b : Nat} (h : HasK C ts As K) (hk : Mk C [b] D) (hn : b ∉ K) : HasK D ts As K :=
  h.marked hk fun x hx hx2 => by rw [List.mem_singleton] at hx2; exact hn (hx2 ▸ hx)
theorem Has.mk1 {C E : Cx} {B : Nat} {d : D} {cs : List Value} {K : List Nat} {b : Nat} (h : Has B C d cs K) (hk : Mk C [b] E) (hn : b ∉ K) : Has B E d cs K :=
  h.marked hk fun x hx hx2 => by rw [List.mem_singleton] at hx2; exact hn (hx2 ▸ hx)
theorem bulk_kids (t : T) : (t.kids.length : Int) + bulkL t.kids ≤ bulk t := by
  obtain ⟨k, s, m, ks⟩ := t
  simp only [T.kids, bulk, bulkS_eq]
  omega
theorem cntCs_bulk : ∀ cs : List Cl, cntCs cs ≤ 7 * cs.length + 3 * bulkCs cs
  | [] => by simp [cntCs, bulkCs]
  | c :: r => by
    have h1 := cntCs_bulk r
    have h2 := bulk_kids c.h
    have h3 := bulk_kids c.b
    have h4 := szs_bulk c.h.kids
    have h5 := szs_bulk c.b.kids
    simp only [cntCs, cntC, bulkCs, bulkC, cntL_sz, List.length_cons]
    push_cast
    omega
end Go.Eng

/- The engine: a list under a context, a call that takes it; a call over a closure that keeps a list in a box. -/
set_option linter.unusedVariables false
set_option linter.unusedSimpArgs false
namespace Go.Eng

structure LBh (C : Cx) (e : TypeId) (xs : List D) (A : Value) (o : Option (Nat × Nat)) : Prop where
  lb : LB (fun _ => False) C.w0 e .one xs A o
  dm : ∀ b c, o = some (b, c) → ¬ C.Dm b
  s0 : ∀ b c, o = some (b, c) → ¬ C.S0 b
theorem LB.lt {S : Nat → Prop} {w : World} {e : TypeId} {l : Lay} {xs : List D} {A : Value} {o : Option (Nat × Nat)} (h : LB S w e l xs A o) {b c : Nat} (ho : o = some (b, c)) : b < w.heap.size :=
  h.bx.lt (show β1 o 0 = some (some (b, c)) by simp [ho])
theorem LB.move {S' : Nat → Prop} {w w' : World} {e : TypeId} {l : Lay} {xs : List D} {A : Value} {o : Option (Nat × Nat)} (h : LB (fun _ => False) w e l xs A o) (hb : ∀ b c, o = some (b, c) → w'.heap[b]? = w.heap[b]?) (hn : ∀ b c, o = some (b, c) → ¬ S' b) : LB S' w' e l xs A o :=
  ⟨BoxR_later (β := β1 o) (S := fun _ => False) (w := w) ⟨fun _ _ h => h, fun _ h => h.elim, fun _ h => h.elim⟩ (fun b c hbc => hb b c (by simpa using hbc)) h.bx,
   VC_later (β := β1 o) (S := fun _ => False) (w := w) ⟨fun _ _ h => h, fun _ h => h.elim, fun _ h => h.elim⟩ _ _ h.vc, hn⟩
theorem LB.drop {S S' : Nat → Prop} {w : World} {e : TypeId} {l : Lay} {ss : List ByteArray} {A : Value} {o : Option (Nat × Nat)} (h : LB S w e l (strs ss) A o) : LB (fun _ => False) w e l (strs ss) A o := by
  refine ⟨?_, ?_, fun _ _ _ h => h⟩
  · obtain ⟨h0, h⟩ := h.bx
    refine ⟨h0, ?_⟩
    rcases h with h | ⟨b, C, cur, ds, h1, h2, h3, h4, h5, h6⟩
    · exact .inl h
    · refine .inr ⟨b, C, cur, ds, h1, h2, h3, h4, ?_, h6⟩
      have key : ∀ (xs : List ByteArray) (fs : List Lay) (cs : List Value), VCs (β1 o) S w fs ((strs xs).map V.d) cs → VCs (β1 o) (fun _ => False) w fs ((strs xs).map V.d) cs := by
        intro xs
        induction xs with
        | nil => intro fs cs h; simpa only [strs, List.map_nil, VCs] using h
        | cons x xs ih =>
          intro fs cs h
          simp only [strs, List.map_cons, VCs, VC, DC] at h ⊢
          obtain ⟨f, fr, c1, c2, e1, e2, e3, e4, e5⟩ := h
          exact ⟨f, fr, c1, c2, e1, e2, e3, e4, ih fr c2 (by simpa only [strs] using e5)⟩
      exact key ss _ _ h5
  · have := h.vc
    simp only [VC] at this ⊢
    exact this
theorem LB.scalar {S : Nat → Prop} {w : World} {e : TypeId} {l : Lay} {xs : List D} {A : Value} {o : Option (Nat × Nat)} (h : LB S w e l xs A o) : Value.scalar A = true := by
  have := h.vc
  simp only [VC] at this
  rcases this with ⟨_, h, _⟩ | ⟨_, _, _, h, _⟩ <;> (injection h with h; rw [h]; rfl)
theorem LBh.marked {C C' : Cx} {e : TypeId} {xs : List D} {A : Value} {o : Option (Nat × Nat)} {K : List Nat} (h : LBh C e xs A o) (k : Mk C K C') (hn : ∀ b c, o = some (b, c) → b ∉ K) : LBh C' e xs A o := by
  refine ⟨h.lb.move (fun b c ho => k.pres.block b (h.lb.lt ho) fun hd => hd.elim (h.dm b c ho) (hn b c ho)) fun _ _ _ h => h, fun b c ho hd => ?_, fun b c ho hs => ?_⟩
  · rcases k.dm b hd with h1 | h1
    · exact h.dm b c ho h1
    · have := h.lb.lt ho; omega
  · have := h.lb.lt ho
    rcases k.fz b hs with h1 | h1 | h1
    · exact h.s0 b c ho h1
    · omega
    · exact h.dm b c ho h1
section
variable {P : Program} {C : Cx} {n : Nat} {f : Fr} {L : Hp} {Q : AQ} {ops : Array Oper} {rest : List Oper} {dst : Option Tmp} {ty : TypeId} {pos : String} {after : Array Edge} {A : Type}
theorem AL_lcall (hT : CT P C) {x : Operand} {args : Array Operand} {ts : Array TypeId} {k : FuncId} {pre suf : List D} {e : TypeId} {xs ys : List ByteArray} {A : Value} {o : Option (Nat × Nat)} (p1 : List Operand) {p2 : List Operand} {y : Operand}
    (hx : ev f x = .d (.fn k [])) (hc : Callable P k) (hargs : args.toList = p1 ++ y :: p2) (h1 : p1.map (ev f) = pre.map V.d) (hy : ev f y = .d (.c A)) (h2 : p2.map (ev f) = suf.map V.d) (hp : BCall P k pre e .one (strs xs) suf (strs ys)) (hl : LBh C e (strs xs) A o) (hd : dstOk n dst = true)
    (h : ∀ C' A' o', Mk C (blkO o) C' → LBh C' e (strs ys) A' o' → (∀ b c, o' = some (b, c) → (∃ c0, o = some (b, c0)) ∨ C.w0.heap.size ≤ b) → CT P C' → AL P C' n ops rest Q (updo f dst (.d (.c A'))) L) : AL P C n ops (⟨dst, callV x args ts, ty, pos, after, none⟩ :: rest) Q f L := by
  intro a w β S hr
  refine wpList_plain rfl fun Kc hK => ?_
  have hsz := hr.pres.size
  have hv := rel_ev hr x
  rw [hx] at hv
  obtain ⟨cv, c1, c2⟩ := VR_fn hv
  have hcv : cv = [] := by
    have := (DCs_len _ _ _ c2).1
    simpa [Lay.lens] using this
  subst hcv
  have hyv := eval_c hr hy
  have hlt := fun b c ho => hl.lb.lt (b := b) (c := c) ho
  have notS : ∀ b c, o = some (b, c) → ¬ S b := fun b c ho hs => by
    rcases hr.fz b hs with h3 | h3 | h3
    · exact hl.s0 b c ho h3
    · have := hlt b c ho; omega
    · exact hl.dm b c ho h3
  have notB : ∀ b c, o = some (b, c) → ∀ i bx c, L[i]? = some (some bx) → β i ≠ some (some (b, c)) := fun b c ho i bx c' hL hβ => by
    rcases hr.own i bx b c' hL hβ with h3 | h3
    · exact hl.dm b c ho h3
    · have := hlt b c ho; omega
  have hlb : LB S w e .one (strs xs) A o := hl.lb.move (fun b c ho => hr.pres.block b (hlt b c ho) (hl.dm b c ho)) notS
  unfold Oper.wp
  rw [call_run hc c1, Oper.upon_enter]
  have heq : (args.map a.eval ++ ([] : List Value).toArray) = (p1.map a.eval ++ A :: p2.map a.eval).toArray := by
    have : (args.map a.eval).toList = p1.map a.eval ++ A :: p2.map a.eval := by rw [Array.toList_map, hargs]; simp [hyv]
    rw [← this]
    exact Array.append_empty.trans (Array.toArray_toList).symm
  rw [heq]
  refine (hp w S _ _ _ o hr.hp.fz (hT.tab hr) (args_RD hr p1 pre h1) (args_RD hr p2 suf h2) hlb).mono ?_
  rintro en w' ⟨z, S', o', rfl, q1, q2, q3, q4, q5⟩
  have lat : Later β S w β S w' := ⟨fun _ _ h => h, fun _ h => h, fun b hb => q5.block b (hr.hp.fz b hb) fun ⟨c, h⟩ => notS b c h hb⟩
  have hr2 : Rel ⟨w', boxBlk L β, S⟩ n f L a w' β S := by
    refine ⟨hr.df, hr.sz, fun i => VR_later lat (hr.fr i), ⟨fun i bx hi => BoxR_later lat (fun b c hb => q5.block b ((hr.hp.bx i bx hi).lt hb) fun ⟨c', h⟩ => notB b c' h i bx c hi hb) (hr.hp.bx i bx hi), hr.hp.inj, hr.hp.own, fun b hb => by have := hr.hp.fz b hb; have := q5.size; omega, hr.hp.un, hr.hp.ad⟩, fun i bx b c hL hb => .inl ⟨i, bx, c, hL, hb⟩, fun b hb => .inl hb, fun b hb => hb, Pres.refl _ _⟩
  have hin : ∀ b, (∃ c, o = some (b, c)) → b ∈ blkO o := fun b ⟨c, h⟩ => by subst h; simp [blkO]
  have hmk : Mk C (blkO o) ⟨w', boxBlk L β, S⟩ := by
    refine ⟨⟨q5.os.trans hr.pres.os, q5.tape.trans hr.pres.tape, q5.output.trans hr.pres.output, Nat.le_trans hsz q5.size, fun b hb hd => ?_⟩, fun b ⟨i, bx, c, hL, hb⟩ => hr.own i bx b c hL hb, hr.s0, hr.fz⟩
    exact (q5.block b (by omega) fun h => hd (.inr (hin b h))).trans (hr.pres.block b hb fun h => hd (.inl h))
  have hl' : LBh ⟨w', boxBlk L β, S⟩ e (strs ys) z o' := by
    refine ⟨q1.drop (S' := S'), fun b c ho ⟨i, bx, c', hL, hβ⟩ => ?_, fun b c ho hs => q1.own b c ho (q3 b hs)⟩
    rcases q2 b c ho with ⟨c0, h3⟩ | h3
    · exact notB b c0 h3 i bx c' hL hβ
    · have := (hr.hp.bx i bx hL).lt hβ; omega
  refine hK _ _ (h _ z o' hmk hl' (fun b c ho => (q2 b c ho).imp id fun h => by omega) (hT.marked hmk fun b hb hs => ?_) _ _ _ _ (hr2.puto (dstOk_spec hd) (VR_c.2 ⟨rfl, q1.scalar⟩)))
  cases o with
  | none => cases hb
  | some q =>
    obtain ⟨b', c'⟩ := q
    simp only [blkO, List.mem_singleton] at hb
    subst hb
    exact hl.s0 _ c' rfl hs

/-- A call over a function value that keeps a list in a box. -/
theorem AL_ncall (hT : CT P C) {x : Operand} {args : Array Operand} {ts : Array TypeId} {k kk : FuncId} {pre : List D} {t0 e : TypeId} {ys : List ByteArray} (i : Nat) (p1 : List Operand) {y : Operand}
    (hx : ev f x = .d (.fn k [])) (hc : Callable P k) (hargs : args.toList = p1 ++ [y]) (h1 : p1.map (ev f) = pre.map V.d) (hy : ev f y = .fn kk [.ptr .one i 0 []]) (hL : L[i]? = some (some ⟨t0, .one, [nilsl]⟩))
    (hp : ∀ b0 c0, FCall P k (Jl t0 e b0 c0) (pre ++ [.c (.func (.func kk) #[] #[.pointer (some ⟨b0, 0, none⟩)])]) [] ys) (q : Nat) (hq : L.length = q) (hd : dstOk n dst = true)
    (h : AL P C n ops rest Q (updo f dst .any) (L.set i (some ⟨t0, .one, [.ref .one (q + 1) 0 ys.length]⟩) ++ [none, some ⟨e, .one, (strs ys).map V.d⟩])) : AL P C n ops (⟨dst, callV x args ts, ty, pos, after, none⟩ :: rest) Q f L := by
  subst hq
  intro a w β S hr0
  refine wpList_plain rfl fun Kc hK => ?_
  have hi : i < L.length := lt_of_get hL
  have hr := hr0.virt e .one
  generalize hβ' : setβ β L.length none = β' at hr
  have hβj : β' L.length = some none := by rw [← hβ', setβ_self]
  have hLi : (L ++ [some (⟨e, .one, []⟩ : Box)])[i]? = some (some ⟨t0, .one, [nilsl]⟩) := by rw [List.getElem?_append_left hi]; exact hL
  have hLj : (L ++ [some (⟨e, .one, []⟩ : Box)])[L.length]? = some (some ⟨e, .one, []⟩) := by simp
  have hv := rel_ev hr x
  rw [hx] at hv
  obtain ⟨cv, c1, c2⟩ := VR_fn hv
  have hcv : cv = [] := by
    have := (DCs_len _ _ _ c2).1
    simpa [Lay.lens] using this
  subst hcv
  -- the closure
  have hyv := rel_ev hr y
  rw [hy] at hyv
  obtain ⟨b0, c0, hb0, hye⟩ : ∃ b0 c0, β' i = some (some (b0, c0)) ∧ a.eval y = .func (.func kk) #[] #[.pointer (some ⟨b0, 0, none⟩)] := by
    rcases hyv with h | ⟨h, e1⟩
    · cases h
    · have hag : isAggV (a.eval y) = false := by simpa [V.isAgg] using e1.symm
      have hcell : (a.eval y).cells = #[a.eval y] := by
        generalize a.eval y = v at hag
        cases v <;> first | rfl | simp [isAggV] at hag
      rw [hcell] at h
      simp only [VC, List.length_cons, List.length_nil, List.replicate_succ, List.replicate_zero, VCs] at h
      obtain ⟨xs, hx1, f1, fr, d1, d2, hfs, rfl, hl1, ⟨b, Cp, o1, l', g1, g2, g3⟩, hfr, rfl⟩ := h
      simp only [Lay.at?, Option.some.injEq, Prod.mk.injEq] at g2
      obtain ⟨rfl, _⟩ := g2
      subst g3
      refine ⟨b, Cp, g1, ?_⟩
      simpa using hx1
  -- the box
  have hbx := hr.hp.bx i _ hLi
  obtain ⟨cur, hcur1, hcur2, hcur3, hcur4⟩ : ∃ cur : Array Value, w.heap[b0]? = some (.cells cur t0 (0, 0)) ∧ cur.size = c0 ∧ (1 ≤ c0 ∧ c0 ≤ maxLen) ∧ cur[0]? = some (.slice none 0 0) := by
    obtain ⟨_, hbx⟩ := hbx
    rcases hbx with ⟨h1, h2⟩ | ⟨b, Cp, cur, ds, g1, g2, g3, g4, g5, g6⟩
    · simp at h2
    · rw [hb0] at g1
      injection g1 with g1; injection g1 with g1; injection g1 with g1 g1'
      subst g1; subst g1'
      simp only [List.length_cons, List.length_nil, List.replicate_succ, List.replicate_zero, VCs, VC, DC] at g5
      obtain ⟨f1, fr, d1, d2, hfs, rfl, hl1, ⟨hd1, _⟩, hfr, rfl⟩ := g5
      subst hd1
      exact ⟨cur, g2, by simpa [Lay.len] using g3, by simpa using g4, g6 0 _ (by simp)⟩
  have hnS : ¬ S b0 := fun hs => hr.hp.own i _ b0 c0 hLi hb0 hs
  have hJ : (Jl t0 e b0 c0).J [] [b0] w := by
    refine ⟨none, .slice none 0 0, cur, hcur1, hcur2, hcur3.1, hcur3.2, hcur4, ⟨⟨by simp [strs], .inl ⟨by simp, rfl⟩⟩, ?_, fun _ _ h => (by cases h)⟩, fun c h => (by cases h), rfl⟩
    simp only [VC]
    exact .inl ⟨by simp, trivial, trivial, rfl⟩
  unfold Oper.wp
  rw [call_run hc c1, Oper.upon_enter]
  have heq : (args.map a.eval ++ ([] : List Value).toArray) = (p1.map a.eval ++ [Value.func (.func kk) #[] #[.pointer (some ⟨b0, 0, none⟩)]]).toArray := by
    have : (args.map a.eval).toList = p1.map a.eval ++ [Value.func (.func kk) #[] #[.pointer (some ⟨b0, 0, none⟩)]] := by rw [Array.toList_map, hargs]; simp [hye]
    rw [← this]
    exact Array.append_empty.trans (Array.toArray_toList).symm
  rw [heq]
  have hfn : All2 (RD S w) [D.c (.func (.func kk) #[] #[.pointer (some ⟨b0, 0, none⟩)])] [Value.func (.func kk) #[] #[.pointer (some ⟨b0, 0, none⟩)]] := RDs_c [Value.func (.func kk) #[] #[.pointer (some ⟨b0, 0, none⟩)]] rfl
  refine (hp b0 c0 w S _ [b0] hr.hp.fz (hT.tab hr) ((args_RD hr p1 pre h1).append hfn) hJ (by simpa using hnS)).mono ?_
  rintro en w' ⟨z, F', rfl, ⟨o', A', cur', g1, g2, g3, g4, g5, g6, g7, rfl⟩, q2, q3⟩
  have hnew : ∀ b c, o' = some (b, c) → w.heap.size ≤ b := fun b c ho => by
    rcases q2 b (by subst ho; simp [blkO]) with h3 | h3
    · rw [List.mem_singleton] at h3
      subst h3
      exact absurd ho (g7 c)
    · exact h3
  have hr2 := hr.ncall (bi' := ⟨t0, .one, [.ref .one (L.length + 1) 0 ys.length]⟩) (bj' := ⟨e, .one, (strs ys).map V.d⟩) (o' := o') (S' := S) (w' := w') hLi hLj (by omega) hb0 hβj
    ⟨q3.os, q3.tape, q3.output, q3.size, fun b hb hd => q3.block b hb fun h => hd (.inl (by simpa using h))⟩ (fun b c ho => .inr (hnew b c ho)) (fun b c ho hs => by have := hr.hp.fz b hs; have := hnew b c ho; omega) (fun _ h => h)
    (fun b hb => ⟨by have := hr.hp.fz b hb; have := q3.size; omega, .inl hb⟩)
    (fun β2 k1 k2 => by
      refine ⟨by simp [lim], .inr ⟨b0, c0, cur', [A'], k1, g1, by simpa [Lay.len] using g2, ⟨by simpa using g3, g4⟩, ?_, fun j x hj => ?_⟩⟩
      · simp only [List.length_cons, List.length_nil, List.replicate_succ, List.replicate_zero, VCs]
        refine ⟨.one, [], [A'], [], rfl, rfl, rfl, ?_, rfl, rfl⟩
        have := g6.vc
        rw [strs_length] at this
        exact VC_name this ((show β2 (L.length + 1) = some o' by simpa using k2).trans (by simp))
      · cases j with
        | zero => simp at hj; subst hj; exact g5
        | succ j => simp at hj)
    (fun β2 k2 => BoxR_name (BoxR_later (β := β1 o') (S := fun _ => False) (w := w') ⟨fun _ _ h => h, fun _ h => h.elim, fun _ h => h.elim⟩ (fun _ _ _ => rfl) g6.bx) (k2.trans (by simp)))
  have hlist : ((L ++ [some (⟨e, .one, []⟩ : Box)]).set i (some ⟨t0, .one, [.ref .one (L.length + 1) 0 ys.length]⟩)).set L.length none ++ [some (⟨e, .one, (strs ys).map V.d⟩ : Box)] = L.set i (some ⟨t0, .one, [.ref .one (L.length + 1) 0 ys.length]⟩) ++ [none, some ⟨e, .one, (strs ys).map V.d⟩] := by
    rw [List.set_append_left _ _ hi, List.set_append_right _ _ (by simp)]
    simp
  rw [hlist] at hr2
  exact hK _ _ (h _ _ _ _ (hr2.puto (dstOk_spec hd) (VR_any ..)))
end
theorem jstep {C0 C C' : Cx} {F F1 F2 : List Nat} (hM : Mk C0 F C) (hS : ∀ b ∈ F1, b ∈ F ∨ C0.w0.heap.size ≤ b) (hm : Mk C F1 C') (hs : ∀ b ∈ F2, b ∈ F1 ∨ C.w0.heap.size ≤ b) : Mk C0 F C' ∧ ∀ b ∈ F2, b ∈ F ∨ C0.w0.heap.size ≤ b := by
  have := hM.pres.size
  refine ⟨hM.trans hm fun b hb hlt => (hS b hb).elim id fun h => by omega, fun b hb => ?_⟩
  rcases hs b hb with h | h
  · exact hS b h
  · exact .inr (by omega)
theorem jend2 {P : Program} {A : Type} {C : Cx} {n : Nat} {f : Fr} {L : Hp} {C0 : Cx} {fn : Func} {J : Jx A} {F F' : List Nat} {a1 a2 : A} {ex : Exit} (he : ends ex = true) (hx : Mk C0 F C) (hdm : ∀ b, ¬ C0.Dm b) (hres : fn.results.toList = []) (hJ : Jh J C a2 F') (hs : ∀ b ∈ F', b ∈ F ∨ C0.w0.heap.size ≤ b) (e : a1 = a2) : Fin C n (retJQ fn P C0.w0 J F a1 ex) f L := by
  subst e; exact jend he hx hdm hres hJ hs
theorem blkO_mem {o : Option (Nat × Nat)} {b : Nat} : b ∈ blkO o ↔ ∃ c, o = some (b, c) := by
  cases o with
  | none => simp [blkO]
  | some q => obtain ⟨b', c'⟩ := q; simp [blkO, eq_comm]
theorem Jl_close {E : Cx} {t0 e : TypeId} {b0 c0 : Nat} {ys : List ByteArray} {o1 : Option (Nat × Nat)} {A1 : Value} {l : List Value} (hb : Blk E b0 (l.set 0 A1) t0) (hl : l.length = c0) (h1 : 1 ≤ c0) (h2 : c0 ≤ maxLen) (hL : LBh E e (strs ys) A1 o1) (hne : ∀ c, o1 ≠ some (b0, c)) : Jh (Jl t0 e b0 c0) E ys (b0 :: blkO o1) := by
  refine ⟨⟨o1, A1, (l.set 0 A1).toArray, hb.hp, by simpa using hl, h1, h2, ?_, hL.lb, hne, rfl⟩, fun b h => ?_, fun b h => ?_⟩
  · rw [List.getElem?_toArray, List.getElem?_set_self (by omega)]
  · rcases List.mem_cons.1 h with rfl | h
    · exact hb.dm
    · obtain ⟨c, h⟩ := blkO_mem.1 h; exact hL.dm b c h
  · rcases List.mem_cons.1 h with rfl | h
    · exact hb.s0
    · obtain ⟨c, h⟩ := blkO_mem.1 h; exact hL.s0 b c h
theorem Jl_step {C0 C1 E : Cx} {t0 e : TypeId} {b0 c0 : Nat} {ys : List ByteArray} {o o1 : Option (Nat × Nat)} {A1 : Value} {l : List Value} (hlt : b0 < C0.w0.heap.size) (hne : ∀ c, o ≠ some (b0, c)) (hm1 : Mk C0 (blkO o) C1) (hL1 : LBh C1 e (strs ys) A1 o1) (hs1 : ∀ b c, o1 = some (b, c) → (∃ c0, o = some (b, c0)) ∨ C0.w0.heap.size ≤ b)
    (hk : Mk C1 [b0] E) (hb : Blk E b0 (l.set 0 A1) t0) (hl : l.length = c0) (h1 : 1 ≤ c0) (h2 : c0 ≤ maxLen) :
    Mk C0 (b0 :: blkO o) E ∧ Jh (Jl t0 e b0 c0) E ys (b0 :: blkO o1) ∧ ∀ b ∈ b0 :: blkO o1, b ∈ b0 :: blkO o ∨ C0.w0.heap.size ≤ b := by
  have hne1 : ∀ c, o1 ≠ some (b0, c) := fun c ho => by
    rcases hs1 b0 c ho with ⟨c0, h⟩ | h
    · exact hne c0 h
    · omega
  have hL2 := hL1.marked hk (fun b c ho => by rw [List.mem_singleton]; rintro rfl; exact hne1 c ho)
  refine ⟨(hm1.mono fun b hb => by simp [hb]).trans hk fun b hb _ => by simp at hb; simp [hb], Jl_close hb hl h1 h2 hL2 hne1, fun b hb => ?_⟩
  rcases List.mem_cons.1 hb with rfl | hb
  · exact .inl (by simp)
  · obtain ⟨c, ho⟩ := blkO_mem.1 hb
    rcases hs1 b c ho with h | h
    · exact .inl (List.mem_cons_of_mem _ (blkO_mem.2 h))
    · exact .inr h
end Go.Eng

/- The engine: functions that hand out a list of texts of their own, told with its block's type. -/
set_option linter.unusedVariables false
set_option linter.unusedSimpArgs false
namespace Go.Eng

def NCall (P : Program) (k : FuncId) (ds : List D) (e : TypeId) (ys : List ByteArray) : Prop :=
  ∀ (w : World) (S : Nat → Prop) (vs : List Value), (∀ b, S b → b < w.heap.size) → Tab P S w → All2 (RD S w) ds vs →
    Calls P k vs.toArray w fun en w' => ∃ y o', en = .returned y ∧ LB (fun _ => False) w' e .one (strs ys) y o' ∧ (∀ b c, o' = some (b, c) → w.heap.size ≤ b) ∧ Pres (fun _ => False) w w'

theorem VCs_strs {β : Beta} {S : Nat → Prop} {w : World} : ∀ (ys : List ByteArray) (cs : List Value), VCs β S w (List.replicate ys.length .one) ((strs ys).map V.d) cs → cs = ys.map vs
  | [], cs, h => by simp only [strs, List.map_nil, VCs] at h; simpa using h.2
  | y :: ys, cs, h => by
    simp only [strs, List.map_cons, List.length_cons, List.replicate_succ, VCs, VC, DC] at h
    obtain ⟨f, fr, c1, c2, e1, rfl, e3, e4, e5⟩ := h
    injection e1 with e1 e1'
    subst e1; subst e1'
    have := VCs_strs ys c2 (by simpa only [strs] using e5)
    rw [this, e4.1]
    rfl
theorem LB.tr {S : Nat → Prop} {w : World} {e : TypeId} {ys : List ByteArray} {y : Value} {o : Option (Nat × Nat)} (h : LB S w e .one (strs ys) y o) : Tr w (.sl .one (strs ys)) [y] (blkO o) := by
  have hv := h.vc
  obtain ⟨h0, hb⟩ := h.bx
  simp only [VC, strs_length, β1, ite_true, Option.some.injEq] at hv
  simp only [Tr, strs_length]
  rcases hb with ⟨h1, h2⟩ | ⟨b, Cp, cur, ds, h1, h2, h3, h4, h5, h6⟩
  · have ho : o = none := by simpa [β1] using h1
    have hy : ys = [] := by simpa [strs] using h2
    subst ho; subst hy
    rcases hv with ⟨_, g, _⟩ | ⟨b, C, g, _⟩
    · exact .inl ⟨by simpa using g, rfl, rfl⟩
    · cases g
  · have ho : o = some (b, Cp) := by simpa [β1] using h1
    subst ho
    rcases hv with ⟨g, _⟩ | ⟨b', C', g, g1, g2⟩
    · cases g
    · injection g with g; injection g with g g'
      subst g; subst g'
      simp only [List.length_map, strs_length] at h4 h5 h0
      have hd := VCs_strs ys ds h5
      refine .inr ⟨b, Cp, cur, e, ds, [], rfl, by simp, by simpa using g1, h2, by simpa using h3, h4.1, h4.2, h0, ?_, h6⟩
      rw [hd]; exact strs_Trs ys
theorem NCall.ocall {P : Program} {k : FuncId} {ds : List D} {e : TypeId} {ys : List ByteArray} (h : NCall P k ds e ys) : OCall P k ds (.sl .one (strs ys)) := fun w S xs hS hT hd =>
  (h w S xs hS hT hd).mono fun en w' ⟨y, o', h1, h2, h3, h4⟩ => by
    have hsc := h2.scalar
    refine ⟨y, blkO o', h1, ?_, (isAgg_scalar hsc).symm, fun b hb => ?_, h4⟩
    · rw [cells_scalar hsc]; exact h2.tr
    · obtain ⟨c, hc⟩ := blkO_mem.1 hb; exact h3 b c hc
section
variable {P : Program} {C : Cx} {n : Nat} {f : Fr} {L : Hp} {Q : AQ} {ops : Array Oper} {rest : List Oper} {dst : Option Tmp} {ty : TypeId} {pos : String} {after : Array Edge}
theorem NCall_of {k : FuncId} {fn : Func} {c : Code} {ds : List D} {e : TypeId} {ys : List ByteArray} (hf : P.funcs[k]? = some fn) (hb : fn.body = some c) (hn : fn.ntmps = n) (hlen : ds.length ≤ n)
    (h : ∀ C0, (∀ b, ¬ C0.Dm b) → CT P C0 → AC P C0 n c (retBQ fn P C0.w0 C0.S0 none e .one (strs ys)) (fr0 ds) []) : NCall P k ds e ys := by
  intro w S vs hS hT hd
  refine calls_of_wp hf hb ?_
  subst hn
  refine wp_mono (h ⟨w, fun _ => False, S⟩ (fun _ h => h) (CT.start hT fun _ _ h => h) _ w _ S (fr0_rel hlen hS hd)) ?_
  rintro en a w' ⟨hend, h1, y, h2, S', o', h3, h4, h5, h6, h7⟩
  have fin : a.defers = [] ∧ ∃ v, (results fn a.tmps).run P w' = .ok v w' ∧ ∃ y o', Ending.returned v = .returned y ∧ LB (fun _ => False) w' e .one (strs ys) y o' ∧ (∀ b c, o' = some (b, c) → w.heap.size ≤ b) ∧ Pres (fun _ => False) w w' :=
    ⟨h1, y, h2, y, o', rfl, h3.drop (S' := S'), fun b c ho => (h4 b c ho).elim (fun ⟨_, h⟩ => by cases h) id, ⟨h7.os, h7.tape, h7.output, h7.size, fun b hb hd => h7.block b hb fun ⟨_, h⟩ => by cases h⟩⟩
  cases en with
  | normal => exact fin
  | ret => exact fin
  | _ => cases hend
theorem retn_ok {fn : Func} {e : TypeId} {ys : List ByteArray} {j m : Nat} {bx : Box} (hdm : ∀ b, ¬ C.Dm b) (hrv : RetV P f L fn.results.toList [.ref .one j 0 m]) (hL : L[j]? = some (some bx)) (hbx : bx = ⟨e, .one, (strs ys).map V.d⟩) (hm : ys.length = m) : Fin C n (retBQ fn P C.w0 C.S0 none e .one (strs ys) .ret) f L :=
  retb_ok (fun b => ⟨fun h => absurd h (hdm b), fun ⟨_, h⟩ => by cases h⟩) hrv hL hbx (by simpa using hm)
theorem AL_nlcall (hT : CT P C) {x : Operand} {args : Array Operand} {ts : Array TypeId} {k : FuncId} {ds : List D} {e : TypeId} {ys : List ByteArray}
    (hx : ev f x = .d (.fn k [])) (hc : Callable P k) (hp : NCall P k ds e ys) (ha : args.toList.map (ev f) = ds.map V.d) (q : Nat) (hq : L.length = q) (hd : dstOk n dst = true)
    (h : AL P C n ops rest Q (updo f dst (.ref .one (q + 1) 0 ys.length)) (L ++ [none, some ⟨e, .one, (strs ys).map V.d⟩])) : AL P C n ops (⟨dst, callV x args ts, ty, pos, after, none⟩ :: rest) Q f L := by
  subst hq
  intro a w β S hr0
  refine wpList_plain rfl fun Kc hK => ?_
  have hr := hr0.virt e .one
  generalize hβ' : setβ β L.length none = β' at hr
  have hβj : β' L.length = some none := by rw [← hβ', setβ_self]
  have hLj : (L ++ [some (⟨e, .one, []⟩ : Box)])[L.length]? = some (some ⟨e, .one, []⟩) := by simp
  have hv := rel_ev hr x
  rw [hx] at hv
  obtain ⟨cv, c1, c2⟩ := VR_fn hv
  have hcv : cv = [] := by
    have := (DCs_len _ _ _ c2).1
    simpa [Lay.lens] using this
  subst hcv
  unfold Oper.wp
  rw [call_run hc c1, Oper.upon_enter]
  have heq : (args.map a.eval ++ ([] : List Value).toArray) = (args.toList.map a.eval).toArray := by
    show args.map a.eval ++ #[] = _
    rw [Array.append_empty, ← Array.toList_map, Array.toArray_toList]
  rw [heq]
  refine (hp w S _ hr.hp.fz (hT.tab hr) (args_RD hr args.toList ds ha)).mono ?_
  rintro en w' ⟨z, o', rfl, g6, hnew, q3⟩
  have hr2 := hr.bcall (bx' := ⟨e, .one, (strs ys).map V.d⟩) (o := none) (o' := o') (S' := S) (w' := w') hLj hβj
    ⟨q3.os, q3.tape, q3.output, q3.size, fun b hb hd => q3.block b hb fun h => h.elim⟩ (fun b c ho => .inr (hnew b c ho)) (fun b c ho hs => by have := hr.hp.fz b hs; have := hnew b c ho; omega) (fun _ h => h)
    (fun b hb => ⟨by have := hr.hp.fz b hb; have := q3.size; omega, .inl hb⟩)
    (fun β2 k2 => BoxR_name (BoxR_later (β := β1 o') (S := fun _ => False) (w := w') ⟨fun _ _ h => h, fun _ h => h.elim, fun _ h => h.elim⟩ (fun _ _ _ => rfl) g6.bx) (k2.trans (by simp)))
  have hlist : (L ++ [some (⟨e, .one, []⟩ : Box)]).set L.length none ++ [some (⟨e, .one, (strs ys).map V.d⟩ : Box)] = L ++ [none, some ⟨e, .one, (strs ys).map V.d⟩] := by
    rw [List.set_append_right _ _ (by simp)]
    simp
  have hlen1 : (L ++ [some (⟨e, .one, []⟩ : Box)]).length = L.length + 1 := by simp
  rw [hlist, hlen1] at hr2
  refine hK _ _ (h _ _ _ _ (hr2.puto (dstOk_spec hd) (.inr ⟨?_, ?_⟩)))
  · rw [cells_scalar g6.scalar]
    have := g6.vc
    rw [strs_length] at this
    exact VC_name this (by rw [setβ_self]; simp)
  · rw [isAgg_scalar g6.scalar]; rfl
end
end Go.Eng
