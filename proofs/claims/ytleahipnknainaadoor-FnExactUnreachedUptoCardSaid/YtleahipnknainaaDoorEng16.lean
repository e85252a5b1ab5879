/- The engine: short forms, second part. -/
import Derived.Test.YtleahipnknainaaDoorEng15
set_option linter.unusedVariables false
namespace Go.Eng

def upto : Nat → Nat → List Nat
  | _, 0 => []
  | i, k + 1 => i :: upto (i + 1) k
def allD : List V → Option (List D)
  | [] => some []
  | .d x :: r => match allD r with
    | some ds => some (x :: ds)
    | none => none
  | _ => none
def forceL : List V → Option (List V)
  | [] => some []
  | v :: r => match forceL r with
    | some vs => match v with
      | .any => none
      | .d x => some (.d x :: vs)
      | .agg a b => some (.agg a b :: vs)
      | .tup _ => none
      | .ref a b c d => some (.ref a b c d :: vs)
      | .ptr a b c d => some (.ptr a b c d :: vs)
      | .fn a b => some (.fn a b :: vs)
    | none => none
/-- A value put into its normal form. -/
def nfV : V → Option V
  | .any => none
  | .d x => some (.d x)
  | .agg a b => some (.agg a b)
  | .tup _ => none
  | .ref a b c d => some (.ref a b c d)
  | .ptr a b c d => some (.ptr a b c d)
  | .fn a b => some (.fn a b)
theorem nf {v u : V} (h : nfV v = some u) : v = u := by
  cases v <;> simp only [nfV, Option.some.injEq] at h <;> first | exact h | cases h
theorem allD_spec : ∀ {vs : List V} {ds : List D}, allD vs = some ds → vs = ds.map V.d
  | [], ds, h => by simp only [allD, Option.some.injEq] at h; subst h; rfl
  | v :: r, ds, h => by
    cases v <;> simp only [allD] at h <;> try (cases h; done)
    split at h
    · rename_i ds' e
      simp only [Option.some.injEq] at h
      subst h
      simp [allD_spec e]
    · cases h
theorem forceL_spec : ∀ {vs us : List V}, forceL vs = some us → vs = us
  | [], us, h => by simp only [forceL, Option.some.injEq] at h; exact h
  | v :: r, us, h => by
    simp only [forceL] at h
    split at h
    · rename_i vs e
      have := forceL_spec e
      subst this
      cases v <;> simp only [Option.some.injEq] at h <;> first | exact h | cases h
    · cases h
theorem parts_of {f : Fr} : ∀ {ps : List (Nat × Operand)} {i : Nat} {us : List V}, ps.map (·.1) = upto i ps.length → ps.map (fun q => ev f q.2) = us → ps.map (fun q => (q.1, ev f q.2)) = numb i us
  | [], i, us, _, h => by subst h; rfl
  | q :: ps, i, us, h1, h => by
    subst h
    simp only [List.map_cons, List.length_cons, upto, List.cons.injEq] at h1
    simp only [List.map_cons, numb]
    rw [parts_of (i := i + 1) h1.2 rfl, h1.1]

section
variable {P : Program} {C : Cx} {n : Nat} {ops : Array Oper} {Q : AQ} {f : Fr} {L : Hp} {rest : List Oper} {dst : Option Tmp} {ty : TypeId} {pos : String} {after : Array Edge} {i : Nat} {r : List Nat}

theorem AL_bD {t e : TypeId} {len : Nat} {parts : Array (Nat × Operand)} {z : Value} (l : Lay) {ds : List D} (hp : allD (parts.toList.map (fun q => ev f q.2)) = some ds) (ht : tyElem P t = some e) (hs : tySize P e = some l.len) (hz : tyZero P e = some (some z)) (hi : parts.toList.map (·.1) = upto 0 parts.toList.length)
    (hlen : ds.length = len) (hsmall : len * l.len ≤ 16777216) (hpos : 0 < l.len) (hg : lenDs l.len ds = true) (hd : dstOk n dst = true)
    (h : AL P C n ops rest Q (updo f dst (.d (.sl l ds))) L) : AL P C n ops (⟨dst, .buildSlice t len parts, ty, pos, after, none⟩ :: rest) Q f L :=
  AL_buildD l ht hs hz (parts_of hi (allD_spec hp)) hlen hsmall hpos hg hd h
theorem DT_bD {t e : TypeId} {len : Nat} {parts : Array (Nat × Operand)} {z : Value} (l : Lay) {ds : List D} (ho : ops[i]? = some ⟨dst, .buildSlice t len parts, ty, pos, after, none⟩) (hp : allD (parts.toList.map (fun q => ev f q.2)) = some ds) (ht : tyElem P t = some e) (hs : tySize P e = some l.len) (hz : tyZero P e = some (some z)) (hi : parts.toList.map (·.1) = upto 0 parts.toList.length)
    (hlen : ds.length = len) (hsmall : len * l.len ≤ 16777216) (hpos : 0 < l.len) (hg : lenDs l.len ds = true) (hd : dstOk n dst = true)
    (h : DT P n ops C Q r (updo f dst (.d (.sl l ds))) L) : DT P n ops C Q (i :: r) f L :=
  DT_buildD l ho ht hs hz (parts_of hi (allD_spec hp)) hlen hsmall hpos hg hd h
theorem AL_bV {t e : TypeId} {len : Nat} {parts : Array (Nat × Operand)} {z : Value} (l : Lay) {vs : List V} (hp : forceL (parts.toList.map (fun q => ev f q.2)) = some vs) (ht : tyElem P t = some e) (hs : tySize P e = some l.len) (hz : tyZero P e = some (some z)) (hi : parts.toList.map (·.1) = upto 0 parts.toList.length)
    (hlen : vs.length = len) (hsmall : len * l.len ≤ 16777216) (hpos : 0 < l.len) (hg : goodVs l.len vs = true) (m : Nat) (hm : L.length = m) (hd : dstOk n dst = true)
    (h : AL P C n ops rest Q (updo f dst (.ref l m 0 len)) (L ++ [some ⟨e, l, vs⟩])) : AL P C n ops (⟨dst, .buildSlice t len parts, ty, pos, after, none⟩ :: rest) Q f L :=
  AL_buildSlice l ht hs hz (parts_of hi (forceL_spec hp)) hlen hsmall hpos hg m hm hd h

/-- A slice that is read alone is no longer than a slice may be. -/
theorem AL_lim {x : Operand} {l : Lay} {xs : List D} (hx : ev f x = .d (.sl l xs)) (h : xs.length ≤ 1099511627776 → AL P C n ops rest Q f L) : AL P C n ops rest Q f L := by
  intro a w β S hr
  have hv := rel_ev hr x
  rw [hx] at hv
  obtain ⟨A, cap, h1, h2, h3, h4⟩ := VR_sl hv
  exact h (by first | exact h3 | exact h4) a w β S hr
theorem AL_limB {x : Operand} {l : Lay} {j m : Nat} {bx : Box} (hx : ev f x = .ref l j 0 m) (hL : L[j]? = some (some bx)) (hm : bx.es.length = m) (h : m ≤ 1099511627776 → AL P C n ops rest Q f L) : AL P C n ops rest Q f L := by
  intro a w β S hr
  exact h (by rw [← hm]; exact (hr.hp.bx j bx hL).1) a w β S hr

theorem AC_reg {id : Nat} {l : List Oper} (h : AL P C n l.toArray l Q f L) : AC P C n (.region id l.toArray false) Q f L := AC_region h
end
theorem VwL_app {L : Hp} {src : List (Option Nat)} {xs ys zs : List D} (h : xs ++ ys = zs) : VwL L src (xs.map V.d ++ ys.map V.d) (zs.map V.d) := by
  rw [← List.map_append, h]
  exact VwL_d _
theorem VwL_dd {L : Hp} {src : List (Option Nat)} {xs zs : List D} (h : xs = zs) : VwL L src (xs.map V.d) (zs.map V.d) := by subst h; exact VwL_d _
end Go.Eng
