/- The join: a law's row out of its contract. -/
import Derived.Test.YtjhdkjacfclipaaRd
import Derived.WalkKit
import Derived.ProofKit
import Derived.OpenShut
import Derived.JoinedCond
import Derived.Carry
set_option linter.unusedVariables false
set_option linter.unusedSimpArgs false
namespace Go.Proofs.Ytjhdkjacfclipaa
open Go.Eng Go.ChangeShapes Go.WideShapes Go.ChangeAt Go.RowKit

theorem below_of {w w' : World} (h : Pres (fun _ => False) w w') : Go.RowKit.Below w.heap.size w w' := ⟨h.os, h.tape, h.output, h.size, fun b hb => h.block b hb (fun h => h)⟩

section
variable {H : Type} {enc : TypeId × Value → H} {P : Program}
theorem args_stay {W W' : World} {sp : Nat → Bool} (hl : laidOutB P = true) (hb : Go.RowKit.Below W.heap.size W W') : ∀ {ts : List TypeId} {vs : List Value} {ds : List (DataW H)} {p : List MemPlace}, (∀ t ∈ ts, P.readableRec t = true ∧ t < P.types.size) →
    DataW.TrodAll enc P W 0 (fun _ => true) true ts vs ds p → (∀ x ∈ p, x.block < W.heap.size) → (∀ x ∈ p, sp x.block = true) → DataW.TrodAll enc P W' 0 sp true ts vs ds p
  | [], [], [], p, _, h, _, _ => h
  | t :: ts, v :: vs, d :: ds, p, ht, ⟨p1, p2, h1, h2, e⟩, hlt, hs =>
    ⟨p1, p2, WideElems.Trod_stays hl (ht t (by simp)).1 (ht t (by simp)).2 h1 (fun x hx => hb.same (hlt x (by simp [e, hx]))) (fun x hx => hs x (by simp [e, hx])),
      args_stay hl hb (fun t' h' => ht t' (by simp [h'])) h2 (fun x hx => hlt x (by simp [e, hx])) (fun x hx => hs x (by simp [e, hx])), e⟩
  | [], _ :: _, _, _, _, h, _, _ => h.elim
  | [], [], _ :: _, _, _, h, _, _ => h.elim
  | _ :: _, [], _, _, _, h, _, _ => h.elim
  | _ :: _, _ :: _, [], _, _, h, _, _ => h.elim

theorem law_post {f : Func} {s : ChangeSpec} {W : World} {args : Array Value} {ds gs : List (DataW H)} {before : List MemPlace} {k : FuncId} {dsD : List D} {tb : TypeId}
    (hl : laidOutB P = true) (hts : ∀ t ∈ f.params.toList, P.readableRec t = true ∧ t < P.types.size) (hvars : s.vars = []) (hres : f.resultTypes = #[tb]) (hub : P.underlying tb = some .bool)
    (hfn : s.fn H (ds ++ gs) = { results := [.lit (.bool true)], args := ds, vars := [] })
    (hW : DataW.Whole enc P f.params.toList s.vars false W args.toList ds gs before) (hT : Tab P (below W) W) (hrd : All2 (RD (below W) W) dsD args.toList) (hc : PCall P k dsD (· = [.c (.bool true)])) :
    Calls P k args W fun e W' => ∃ v, e = .returned v ∧ s.post enc P f false true false false W args v W' := by
  have hW0 := hW
  obtain ⟨p, q, hA, hV, he, hfz, hnd⟩ := hW0
  have hV0 := hV
  rw [hvars] at hV0
  obtain ⟨rfl, rfl⟩ := trodVars_none hV0
  have hpb : before = p := by simpa using he
  have hx := hc W (below W) args.toList (fun b h => h) hT hrd
  have hx : Calls P k args W fun e w' => ∃ x rs S', e = .returned x ∧ rs = [.c (.bool true)] ∧ RetR S' w' rs x ∧ (∀ b, below W b → S' b) ∧ (∀ b, S' b → b < w'.heap.size ∧ (below W b ∨ W.heap.size ≤ b)) ∧ Pres (fun _ => False) W w' := by simpa using hx
  refine hx.mono fun e W' ⟨x, rs, S', h1, h2, h3, h4, h5, h6⟩ => ?_
  subst h2
  have hb := below_of h6
  have hxv : x = .bool true := by
    have := VR0_c.1 (VR0_of_RD (β := fun _ => none) h3)
    exact this.1
  subst hxv
  have hlt : ∀ y ∈ p, y.block < W.heap.size := fun y hy => hW.lt y (by rw [hpb]; exact hy)
  refine ⟨_, h1, post_of_pres (pa := p) (pv := []) hW h6 (by rw [hpb]; simp) (fun b sp hd => ?_) (fun sp hsp => ?_) (fun sp hsp => ?_) (ok_one hres rfl (okWide_bool_mk hub _))⟩
  · rw [hres, hfn]
    exact trodAll_cons_mk (shut_bool hub _) trodAll_mk0
  · rw [hfn]
    exact args_stay hl hb hts hA hlt fun y hy => hsp y (by rw [hpb]; exact hy)
  · rw [hvars, hfn]
    exact rfl
end
end Go.Proofs.Ytjhdkjacfclipaa
