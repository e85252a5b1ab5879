/- The join: readings by kind of argument, further. -/
import Derived.Test.YtjhdkjacfclipaaRk
import Derived.Test.YtjhdkjacfclipaaDb
import Derived.Test.YtjhdkjacfclipaaWn
set_option linter.unusedVariables false
set_option linter.unusedSimpArgs false
namespace Go.Proofs.Ytjhdkjacfclipaa
open Go.Eng Go.ChangeShapes Go.WideShapes

section
variable {H : Type} {enc : TypeId × Value → H} {P : Program} {W : World} {base : Nat} {sp : Nat → Bool} {held : Bool}

theorem injs_is (ks : List T) : ks.map inj = injs ks := (injs_map ks).symm
theorem rdTermS {tT tS tI tB : TypeId} (ty : TermTy P tT tS tI tB) {v : Value} {d : DataW H} {p : List MemPlace} (hv : Value.okWide P W .any base tS v) (h : TrodA enc P W tS v d p) (hb : Rows.uptoBulk d ≤ 1048576) :
    ∃ ks : List T, RD (below W) W (.sl LT (injs ks)) v ∧ ks.length + bulkL ks + 1 ≤ (Rows.uptoBulk d : Int) := by
  obtain ⟨n, hn⟩ := h
  obtain ⟨a, len, cap, rfl⟩ := okWide_slice ty.uS hv
  obtain ⟨ks, h1, h2⟩ := read_slice (l := LT) inj bulk ty.uS ty.cT (by decide) (fun n cs x hx hb => by
    obtain ⟨t, q1, q2, q3⟩ := read_term ty n cs x hx hb
    exact ⟨t, q1, q2, q3⟩) n _ _ hn hb
  rw [bulkL_sum] at h2
  exact ⟨ks, ⟨by rw [← injs_is]; exact h1, rfl⟩, h2⟩
theorem rdStr {tB : TypeId} (hu : P.underlying tB = some .string) {v : Value} {d : DataW H} {p : List MemPlace} (hv : Value.okWide P W .any base tB v) (h : TrodA enc P W tB v d p) (hb : Rows.uptoBulk d ≤ 1048576) :
    ∃ s : ByteArray, RD (below W) W (.c (.string s)) v ∧ (s.size : Int) + 1 ≤ (Rows.uptoBulk d : Int) := by
  obtain ⟨n, hn⟩ := h
  obtain ⟨s, rfl⟩ := okWide_string hu hv
  obtain ⟨s', e, e2, _⟩ := DataW.trod_string hu hn
  simp [Value.cells] at e
  subst e
  simp only [Prod.mk.injEq] at e2
  obtain ⟨rfl, _⟩ := e2
  refine ⟨s, ⟨by unfold DC; exact ⟨rfl, rfl⟩, rfl⟩, ?_⟩
  simp only [Rows.uptoBulk]
  have : s.data.toList.length = s.size := Array.length_toList
  omega
theorem rdInt {tI : TypeId} (hu : P.underlying tI = some (.int .i64)) {v : Value} {d : DataW H} {p : List MemPlace} (hv : Value.okWide P W .any base tI v) (h : TrodA enc P W tI v d p) (hb : Rows.uptoBulk d ≤ 1048576) :
    ∃ k : Int, RD (below W) W (.c (.int .i64 k)) v ∧ ((-9223372036854775808 ≤ k ∧ k ≤ 9223372036854775807) ∧ (1 : Int) ≤ (Rows.uptoBulk d : Int)) := by
  obtain ⟨n, hn⟩ := h
  obtain ⟨k, rfl⟩ := okWide_int hu hv
  obtain ⟨k', e, e2, hw⟩ := DataW.trod_int hu hn
  simp [Value.cells] at e
  subst e
  simp only [Prod.mk.injEq] at e2
  obtain ⟨rfl, _⟩ := e2
  refine ⟨k, ⟨by unfold DC; exact ⟨rfl, rfl⟩, rfl⟩, ?_, by simp [Rows.uptoBulk]⟩
  simpa [Lit.wf, IntKind.min, IntKind.max, IntKind.signed, IntKind.bits] using hw
theorem read_str {tB : TypeId} (hu : P.underlying tB = some .string) (n : Nat) (cs : List Value) (x : DataW H × List MemPlace) (hn : DataW.trod enc P W 0 sp held n tB cs = some x) : ∃ s : ByteArray, DC (below W) W (.c (.string s)) cs ∧ cs.length = 1 ∧ (s.size : Int) + 1 ≤ (Rows.uptoBulk x.1 : Int) := by
  obtain ⟨s, rfl, rfl, _⟩ := DataW.trod_string hu hn
  refine ⟨s, by unfold DC; exact ⟨rfl, rfl⟩, rfl, ?_⟩
  simp only [Rows.uptoBulk]
  have : s.data.toList.length = s.size := Array.length_toList
  omega
theorem rdStrS {tB tL : TypeId} (hu : P.underlying tB = some .string) (hcB : P.cellsOf tB = 1) (hs : P.underlying tL = some (.slice tB)) {v : Value} {d : DataW H} {p : List MemPlace} (hv : Value.okWide P W .any base tL v) (h : TrodA enc P W tL v d p) (hb : Rows.uptoBulk d ≤ 1048576) :
    ∃ ss : List ByteArray, RD (below W) W (.sl .one (strs ss)) v ∧ ss.length + bulkSs ss + 1 ≤ (Rows.uptoBulk d : Int) := by
  obtain ⟨n, hn⟩ := h
  obtain ⟨a, len, cap, rfl⟩ := okWide_slice hs hv
  obtain ⟨ks, h1, h2⟩ := read_slice (l := .one) (fun s : ByteArray => .c (.string s)) (fun s => (s.size : Int)) hs hcB (by decide) (fun n cs x hx hb => read_str hu n cs x hx) n _ _ hn hb
  rw [bulkSs_sum] at h2
  exact ⟨ks, ⟨h1, rfl⟩, h2⟩
theorem zsum : ∀ ks : List Int, (ks.map fun _ => (0 : Int)).sum = 0
  | [] => rfl
  | _ :: r => by simp [zsum r]
theorem rdBytes {tU tL : TypeId} (hu : P.underlying tU = some (.int .u8)) (hcB : P.cellsOf tU = 1) (hs : P.underlying tL = some (.slice tU)) {v : Value} {d : DataW H} {p : List MemPlace} (hv : Value.okWide P W .any base tL v) (h : TrodA enc P W tL v d p) (hb : Rows.uptoBulk d ≤ 1048576) :
    ∃ ss : List Int, RD (below W) W (.sl .one (u8s ss)) v ∧ (ss.length : Int) + 1 ≤ (Rows.uptoBulk d : Int) := by
  obtain ⟨n, hn⟩ := h
  obtain ⟨a, len, cap, rfl⟩ := okWide_slice hs hv
  obtain ⟨ks, h1, h2⟩ := read_slice (l := .one) (fun k : Int => .c (.int .u8 k)) (fun _ => (0 : Int)) hs hcB (by decide) (fun n cs x hx hb => by
    obtain ⟨k', rfl, e2, hw⟩ := DataW.trod_int hu hx
    subst e2
    exact ⟨k', by unfold DC; exact ⟨rfl, rfl⟩, rfl, by simp [Rows.uptoBulk]⟩) n _ _ hn hb
  rw [zsum] at h2
  exact ⟨ks, ⟨h1, rfl⟩, by have h3 : (ks.length : Int) + 0 + 1 ≤ (Rows.uptoBulk d : Int) := h2; omega⟩
theorem rdWarning {tW tI tB : TypeId} (hu : ∃ f0 f1 f2 : Field, P.underlying tW = some (.struct #[f0, f1, f2]) ∧ f0.type = tI ∧ f0.offset = 0 ∧ f1.type = tI ∧ f1.offset = 1 ∧ f2.type = tB ∧ f2.offset = 2) (huI : P.underlying tI = some (.int .i64)) (huB : P.underlying tB = some .string) (hcI : P.cellsOf tI = 1) (hcB : P.cellsOf tB = 1) (hcW : P.cellsOf tW = 3)
    {v : Value} {d : DataW H} {p : List MemPlace} (hv : Value.okWide P W .any base tW v) (h : TrodA enc P W tW v d p) (hb : Rows.uptoBulk d ≤ 1048576) :
    ∃ w : Wn, RD (below W) W (injW w) v ∧ (w.a ≤ 9223372036854775807 ∧ (w.t.size : Int) + 1 ≤ (Rows.uptoBulk d : Int)) := by
  obtain ⟨n, hn⟩ := h
  obtain ⟨f0, f1, f2, hu, t0, o0, t1, o1, t2, o2⟩ := hu
  obtain ⟨cs, rfl, hcs⟩ := okWide_struct hu hv
  obtain ⟨xs, m, rfl, e, hcl, hxl, hx⟩ := DataW.trod_struct hu hn
  simp only [Prod.mk.injEq] at e
  obtain ⟨rfl, _⟩ := e
  rw [hcW] at hcl
  match xs, hxl with
  | [x0, x1, x2], _ =>
    have h0 := hx 0 f0 rfl
    have h1 := hx 1 f1 rfl
    have h2 := hx 2 f2 rfl
    rw [t0, o0, hcI] at h0
    rw [t1, o1, hcI] at h1
    rw [t2, o2, hcB] at h2
    obtain ⟨k, e0, rfl, _⟩ := DataW.trod_int huI h0
    obtain ⟨a, e1, rfl, hwa⟩ := DataW.trod_int huI h1
    obtain ⟨s, e2, rfl, _⟩ := DataW.trod_string huB h2
    have hc : (Value.agg cs).cells.toList = [.int .i64 k, .int .i64 a, .string s] := by
      generalize (Value.agg cs).cells.toList = l at hcl e0 e1 e2
      match l, hcl with
      | [a0, a1, a2], _ =>
        simp at e0 e1 e2
        simp [e0, e1, e2]
    refine ⟨⟨k, a, s⟩, ⟨?_, rfl⟩, ?_, ?_⟩
    · rw [hc]
      unfold injW DC
      exact ⟨_, _, [.int .i64 k], [.int .i64 a, .string s], rfl, rfl, rfl, by unfold DC; exact ⟨rfl, rfl⟩, _, _, [.int .i64 a], [.string s], rfl, rfl, rfl, by unfold DC; exact ⟨rfl, rfl⟩, _, _, [.string s], [], rfl, rfl, rfl, by unfold DC; exact ⟨rfl, rfl⟩, rfl, rfl⟩
    · have : -9223372036854775808 ≤ a ∧ a ≤ 9223372036854775807 := by simpa [Lit.wf, IntKind.min, IntKind.max, IntKind.signed, IntKind.bits] using hwa
      exact this.2
    · show (s.size : Int) + 1 ≤ ((Rows.uptoBulk (DataW.agg (H := H) [.lit (.int .i64 k), .lit (.int .i64 a), .lit (.string s.data.toList)]) : Nat) : Int)
      simp only [Rows.uptoBulk, Rows.uptoBulkAll]
      have : s.data.toList.length = s.size := Array.length_toList
      omega
/-- The types that a program's clauses are made of. -/
structure DbTy (P : Program) (tD tCS tBS tC tB : TypeId) : Prop where
  uD : ∃ f0 f1 : Field, P.underlying tD = some (.struct #[f0, f1]) ∧ f0.type = tCS ∧ f0.offset = 0 ∧ f1.type = tBS ∧ f1.offset = 1
  uC : P.underlying tCS = some (.slice tC)
  uB : P.underlying tBS = some (.slice tB)
  cD : P.cellsOf tD = 2
  cC : P.cellsOf tCS = 1
  cB : P.cellsOf tBS = 1
theorem rdDb {tD tCS tBS tC tT tS tI tB : TypeId} (ty : TermTy P tT tS tI tB) (hu : ∃ f0 f1 f2 : Field, P.underlying tC = some (.struct #[f0, f1, f2]) ∧ f0.type = tT ∧ f0.offset = 0 ∧ f1.type = tT ∧ f1.offset = 4 ∧ f2.type = tB ∧ f2.offset = 8) (hc : P.cellsOf tC = 9) (tyd : DbTy P tD tCS tBS tC tB)
    {v : Value} {d : DataW H} {p : List MemPlace} (hv : Value.okWide P W .any base tD v) (h : TrodA enc P W tD v d p) (hb : Rows.uptoBulk d ≤ 1048576) :
    ∃ x : Dbt, RD (below W) W (injD x) v ∧ bulkD x + 3 ≤ (Rows.uptoBulk d : Int) := by
  obtain ⟨n, hn⟩ := h
  obtain ⟨f0, f1, huD, t0, o0, t1, o1⟩ := tyd.uD
  obtain ⟨cs, rfl, hcs⟩ := okWide_struct huD hv
  obtain ⟨xs, m, rfl, e, hcl, hxl, hx⟩ := DataW.trod_struct huD hn
  simp only [Prod.mk.injEq] at e
  obtain ⟨rfl, _⟩ := e
  rw [tyd.cD] at hcl
  match xs, hxl with
  | [x0, x1], _ =>
    have h0 := hx 0 f0 rfl
    have h1 := hx 1 f1 rfl
    rw [t0, o0, tyd.cC] at h0
    rw [t1, o1, tyd.cB] at h1
    have hbb : Rows.uptoBulk x0.1 + Rows.uptoBulk x1.1 + 1 ≤ Rows.uptoBulk (DataW.agg (H := H) [x0.1, x1.1]) := by simp only [Rows.uptoBulk, Rows.uptoBulkAll]; omega
    have hb' : Rows.uptoBulk (DataW.agg (H := H) [x0.1, x1.1]) ≤ 1048576 := hb
    generalize hl : (Value.agg cs).cells.toList = l at hcl h0 h1
    match l, hcl with
    | [c0, c1], _ =>
      simp only [List.drop_succ_cons, List.drop_zero, List.take_succ_cons, List.take_zero] at h0 h1
      obtain ⟨ks, q1, q2⟩ := read_slice (l := LC) injC bulkC tyd.uC hc (by decide) (fun n cs x hx hb => by
        obtain ⟨c, r1, r2⟩ := read_clause ty hu hc n cs x hx hb
        refine ⟨c, r1, ?_, by unfold bulkC; omega⟩
        obtain ⟨_, _, _, hu', _⟩ := hu
        obtain ⟨_, _, _, _, hl', _⟩ := DataW.trod_struct hu' hx
        rw [hl', hc]; rfl) m c0 x0 h0 (by omega)
      obtain ⟨ss, r1, r2⟩ := read_slice (l := .one) (fun s : ByteArray => .c (.string s)) (fun s => (s.size : Int)) tyd.uB ty.cB (by decide) (fun n cs x hx hb => read_str ty.uB n cs x hx) m c1 x1 h1 (by omega)
      rw [bulkCs_sum] at q2
      rw [bulkSs_sum] at r2
      refine ⟨⟨ks, ss⟩, ⟨?_, rfl⟩, ?_⟩
      · rw [hl]
        unfold injD DC
        exact ⟨_, _, [c0], [c1], rfl, rfl, rfl, q1, _, _, [c1], [], rfl, rfl, rfl, r1, rfl, rfl⟩
      · show bulkD ⟨ks, ss⟩ + 3 ≤ ((Rows.uptoBulk (DataW.agg (H := H) [x0.1, x1.1]) : Nat) : Int)
        have : ((Rows.uptoBulk x0.1 + Rows.uptoBulk x1.1 + 1 : Nat) : Int) ≤ (Rows.uptoBulk (DataW.agg (H := H) [x0.1, x1.1]) : Nat) := Int.ofNat_le.2 hbb
        simp only [bulkD]
        push_cast at this
        omega
end
end Go.Proofs.Ytjhdkjacfclipaa
