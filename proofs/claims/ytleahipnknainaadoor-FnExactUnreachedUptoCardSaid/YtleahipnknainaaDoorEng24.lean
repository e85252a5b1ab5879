/- The engine: reading calls in a region that draws its order; returns under later contexts. -/
import Derived.Test.YtleahipnknainaaDoorEng23
set_option linter.unusedVariables false
set_option linter.unusedSimpArgs false
namespace Go.Eng
section
variable {P : Program} {C : Cx} {n : Nat} {ops : Array Oper} {Q : AQ} {f : Fr} {L : Hp} {dst : Option Tmp} {ty : TypeId} {pos : String} {after : Array Edge} {i : Nat} {r : List Nat}
theorem StE_qcall (hT : CT P C) {x : Operand} {args : Array Operand} {ts : Array TypeId} {k : FuncId} {ds : List D} {y : Value} (hx : ev f x = .d (.fn k [])) (hc : Callable P k) (hp : PCall P k ds (· = [.c y]))
    (ha : ∀ L' : Hp, All2 (RdA C L') (args.toList.map (ev f)) ds) (hd : dstOk n dst = true) : StE P C n ops ⟨dst, callV x args ts, ty, pos, after, none⟩ f (fun C' v => C' = C ∧ v = .d (.c y)) := by
  intro f' hf L' a w β S hr K Qc hK
  have hev := ev_looks hf
  refine runOr_none rfl ?_
  have hx' : ev f' x = .d (.fn k []) := (hev x (by simp [Op.operands, Call.operands])).trans hx
  have ha' : All2 (RdA C L') (args.toList.map (ev f')) ds := by
    rw [maps_congr fun y hy => hev y (by simp [Op.operands, Call.operands]; exact .inr (by simpa using hy))]
    exact ha L'
  exact qcall_wp hT hr hx' hc hp (RdL_RD hr _ _ ha') hd K Qc fun a' w' β' S' hr' => hK C _ _ _ _ _ ⟨rfl, rfl⟩ hr'
theorem DT_qcall (hT : CT P C) {x : Operand} {args : Array Operand} {ts : Array TypeId} {k : FuncId} {ds : List D} {y : Value} (ho : ops[i]? = some ⟨dst, callV x args ts, ty, pos, after, none⟩) (hx : ev f x = .d (.fn k [])) (hc : Callable P k) (hp : PCall P k ds (· = [.c y]))
    (ha : ∀ L' : Hp, All2 (RdA C L') (args.toList.map (ev f)) ds) (hd : dstOk n dst = true) (hr : (r.all fun j => (lookM (masks ops (i :: r) []) j).testBit i) = true) (h : DT P n ops C Q r (updo f dst (.d (.c y))) L) : DT P n ops C Q (i :: r) f L :=
  .e ho rfl (StE_qcall hT hx hc hp ha hd) hr (fun C' v ⟨h1, _⟩ hT => h1 ▸ hT) fun C' v ⟨h1, h2⟩ => by subst h1; subst h2; exact h
end
section
variable {P : Program} {C : Cx} {n : Nat} {f : Fr} {L : Hp}
theorem ret_okX {C0 : Cx} {fn : Func} {post : List D → Prop} {vs : List V} {ds : List D} (hx : CExt C0 C) (hdm : ∀ b, ¬ C0.Dm b) (h1 : RetV P f L fn.results.toList vs) (h2 : ReadsL L (fun _ => True) vs ds) (h3 : post ds) : Fin C n (retQ fn P C0.w0 C0.S0 post .ret) f L := fun a w β S hr => ⟨rfl, ret_fin hx hdm h1 h2 h3 a w β S hr⟩
theorem joinF {F : Prop} {sl : List (Nat × V)} {L2 : Hp} (src : List (Option Nat)) (hlen : src.length = L2.length) (hnd : nodupS src = true) (hF : F) (hb : BxTo L src 0 L2) (hs : SlTo L src f sl) : Fin C n (fun a w => ∃ f' L' β S, Rel C n f' L' a w β S ∧ (F ∧ f' = frOf sl ∧ L' = L2)) f L := fin_wk (Wk_to src _ L2 hlen hnd hb hs ⟨hF, rfl, rfl⟩)
theorem Got.apart {C C' : Cx} {r : D} {l : Lay} {cs : List Value} {K : List Nat} (g : Got C r l C' cs K) {B : Nat} {d : D} {cs0 : List Value} {K0 : List Nat} (h : Has B C d cs0 K0) : ∀ b ∈ K, b ∉ K0 := fun b hb hb0 => by
  have := g.has.lo b hb
  have := Tr_lt _ _ _ h.tr b hb0
  omega
end
end Go.Eng
