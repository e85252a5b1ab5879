/- Contracts of functions. -/
import Derived.Test.YtjhdkjacfclipaaMt
import Derived.Test.YtjhdkjacfclipaaOk
import Derived.Test.YtjhdkjacfclipaaWn
import Derived.Test.YtjhdkjacfclipaaEng27
import Derived.Test.YtjhdkjacfclipaaSt
import Derived.Test.YtjhdkjacfclipaaProg
import Derived.KernelRfl
import Derived.Test.YtjhdkjacfclipaaCA
import Derived.Test.YtjhdkjacfclipaaCB
import Derived.Test.YtjhdkjacfclipaaCS
import Derived.Test.YtjhdkjacfclipaaCT
set_option linter.unusedVariables false
set_option linter.unusedSimpArgs false
namespace Go.Proofs.Ytjhdkjacfclipaa
open Go.Eng

theorem cl104 : Callable Try.prog 104 := Callable_of Try.func104 (by kernel_rfl) (by kernel_rfl)
theorem cl95 : Callable Try.prog 95 := Callable_of Try.func95 (by kernel_rfl) (by kernel_rfl)
theorem tint93 : tyInt Try.prog 93 = some .u64 := by kernel_rfl
theorem tund3 : (Try.prog.underlying 3).isSome = true := by kernel_rfl
theorem tund93 : (Try.prog.underlying 93).isSome = true := by kernel_rfl

set_option maxHeartbeats 8000000 in
set_option maxRecDepth 4000 in
theorem c_symMerge (pool : List (D × D)) (n : Nat) : ∀ (pre A B post : List TD), A.length + B.length = n → A ≠ [] → B ≠ [] → SrtP A → SrtP B → (∀ p ∈ A ++ B, PL pool p) → (pre ++ A ++ B ++ post).length ≤ 1099511627776 → HCallE Try.prog 95 pool [.ref LT 0 0 (dsP (pre ++ A ++ B ++ post)).length, i64 pre.length, i64 ((pre.length : Int) + A.length), i64 ((pre.length : Int) + A.length + B.length), .d (.fn 43 [])] [⟨35, LT, (dsP (pre ++ A ++ B ++ post)).map V.d⟩] 1 (fun ys : List TD => ∃ C : List TD, ys = pre ++ C ++ post ∧ C.Perm (A ++ B) ∧ SrtP C) (fun ys : List TD => [⟨35, LT, (dsP ys).map V.d⟩]) := by
  induction n using Nat.strongRecOn with | _ n ih => ?_
  intro pre A B post hn hA hB sA sB hel hl
  have hll : (pre ++ A ++ B ++ post).length = pre.length + A.length + B.length + post.length := by simp; omega
  have hA0 := List.length_pos_iff.2 hA
  have hB0 := List.length_pos_iff.2 hB
  refine HCallE_of (n := 220) Try.func95 rfl rfl (Nat.le_of_ble_eq_true rfl) (Nat.le_of_ble_eq_true rfl) fun C0 o hT hP => ?_
  refine AC_seq fun K1 hK1 => ?_
  refine AC_seq fun K2 hK2 => ?_
  refine AC_region ?_
  refine AL_ev (Ev_move) rfl ?_
  refine AL_ev (Ev_move) rfl ?_
  first | refine AL_ev (Ev_sub rfl rfl _ (wrap_id (by first | omega | (simp; omega)) (by first | omega | (simp; omega)))) rfl ?_ | refine AL_ev (Ev_sub rfl rfl _ rfl) rfl ?_
  refine AL_ev (Ev_eql rfl rfl) rfl ?_
  refine AL_nil ?_
  refine hK2 _ _ _ ?_
  refine AC_cond rfl (fun hc1 => ?_) (fun hc1 => ?_)
  · skip
    have h1 : A.length = 1 := by have := of_decide_eq_true hc1; omega
    obtain ⟨x, rfl⟩ := len1 h1
    have hpx : PL pool x := hel x (by simp)
    have hxl : (V.d x.2).len? = Lay.len LT := hpx.len
    have hxa : (V.d x.2).isAgg = true := hpx.ag
    have hx1 : ([x] : List TD).length = 1 := rfl
    refine AC_seq fun K3 hK3 => ?_
    refine AC_region ?_
    refine AL_ev (Ev_move) rfl ?_
    refine AL_ev (Ev_assign) rfl ?_
    refine AL_nil ?_
    refine hK3 _ _ _ ?_
    refine AC_seq fun K4 hK4 => ?_
    refine AC_region ?_
    refine AL_ev (Ev_move) rfl ?_
    refine AL_ev (Ev_assign) rfl ?_
    refine AL_nil ?_
    refine hK4 _ _ _ ?_
    refine AC_seq fun K5 hK5 => ?_
    refine AC_block ?_
    refine AC_loopS [1, 4] (Nat × Nat × List TD) (fun ⟨lo, hi, cur⟩ => [(10, i64 ((pre.length : Int) + (([x] : List TD).length : Int) + ((lo : Nat) : Int))), (11, i64 ((pre.length : Int) + (([x] : List TD).length : Int) + ((hi : Nat) : Int))), (0, .ref LT 0 0 (dsP cur).length)]) (fun ⟨lo, hi, cur⟩ => [some ⟨⟨35, some (o 0)⟩, LT, (dsP cur).map V.d⟩]) (fun st => st.2.1 - st.1) (fun ⟨lo, hi, cur⟩ => (cur = pre ++ [x] ++ B ++ post ∧ lo ≤ hi ∧ hi ≤ B.length ∧ (∀ y, 0 < lo → B[lo - 1]? = some y → cmpT y.1 x.1 < 0) ∧ (∀ y, B[hi]? = some y → 0 ≤ cmpT y.1 x.1))) ((0, B.length, pre ++ [x] ++ B ++ post)) ?_ ?_ ?_
    · skip
      exact enterS [some 0] rfl rfl (BxTo_some rfl rfl rfl rfl (by first | exact .nil | exact VwL_dd (by first | rfl | simp) | exact VwL_app (by first | rfl | simp) | exact VwL_of (by first | rfl | simp)) BxTo_nil) (SlTo_cons (by first | exact .rd .d | exact Vw_int (by first | rfl | assumption | omega | (simp; done) | (simp; omega)) | exact Vw_c (by first | rfl | (simp; done) | simp_all) | exact .any) (SlTo_cons (by first | exact .rd .d | exact Vw_int (by first | rfl | assumption | omega | (simp; done) | (simp; omega)) | exact Vw_c (by first | rfl | (simp; done) | simp_all) | exact .any) (SlTo_cons (Vw_refe rfl (by first | rfl | simp)) (SlTo_cons (by first | exact .rd .d | exact .any) (SlTo_cons (by first | exact .rd .d | exact .any) SlTo_nil)))))
    · skip
      exact ⟨rfl, Nat.zero_le _, Nat.le_refl _, fun y h => absurd h (by omega), fun y h => by rw [List.getElem?_eq_none (Nat.le_refl _)] at h; cases h⟩
    rintro ⟨lo, hi, cur⟩ ⟨hcur, hlh, hhB, hlo, hhi⟩
    show AC _ _ _ _ _ (FS [1, 4] _ [(10, i64 ((pre.length : Int) + (([x] : List TD).length : Int) + ((lo : Nat) : Int))), (11, i64 ((pre.length : Int) + (([x] : List TD).length : Int) + ((hi : Nat) : Int))), (0, .ref LT 0 0 (dsP cur).length)]) [some ⟨⟨35, some (o 0)⟩, LT, (dsP cur).map V.d⟩]
    refine AC_seq fun K6 hK6 => ?_
    refine AC_seq fun K7 hK7 => ?_
    refine AC_region ?_
    refine AL_ev (Ev_move) rfl ?_
    refine AL_ev (Ev_move) rfl ?_
    refine AL_ev (Ev_lss rfl rfl) rfl ?_
    refine AL_nil ?_
    refine hK7 _ _ _ ?_
    refine AC_cond rfl (fun hc2 => ?_) (fun hc2 => ?_)
    · skip
      have hlt : lo < hi := by have := of_decide_eq_true hc2; omega
      obtain ⟨q, hq, hq1, hq2⟩ : ∃ q : Nat, (((pre.length : Int) + (([x] : List TD).length : Int) + ((lo : Nat) : Int)) + ((pre.length : Int) + (([x] : List TD).length : Int) + ((hi : Nat) : Int))) / 2 = ((pre.length : Int) + (([x] : List TD).length : Int) + ((q : Nat) : Int)) ∧ lo ≤ q ∧ q < hi := ⟨(lo + hi) / 2, by omega, by omega, by omega⟩
      obtain ⟨y, hy⟩ : ∃ y, B[q]? = some y := ⟨_, List.getElem?_eq_getElem (by omega)⟩
      have hpy : PL pool y := hel y (List.mem_append_right _ (List.mem_of_getElem? hy))
      have hyl : (V.d y.2).len? = Lay.len LT := hpy.len
      have hya : (V.d y.2).isAgg = true := hpy.ag
      have hcl : cur.length = pre.length + 1 + B.length + post.length := by rw [hcur]; simp; omega
      have hesX : ((dsP cur).map V.d)[0 + ((pre.length : Nat) : Int).toNat]? = some (.d x.2) := by rw [show 0 + ((pre.length : Nat) : Int).toNat = pre.length by omega]; exact dsP_get (by rw [hcur]; simp)
      have hesY : ((dsP cur).map V.d)[0 + (((((pre.length : Int) + (([x] : List TD).length : Int) + ((lo : Nat) : Int)) + ((pre.length : Int) + (([x] : List TD).length : Int) + ((hi : Nat) : Int))) / 2)).toNat]? = some (.d y.2) := by rw [hq, show 0 + (((pre.length : Int) + (([x] : List TD).length : Int) + ((q : Nat) : Int))).toNat = pre.length + 1 + q by omega]; exact dsP_get (by rw [hcur, List.append_assoc, List.getElem?_append_right (by first | (simp; done) | (simp; omega)), List.getElem?_append_left (by first | (simp; done) | (simp; omega))]; simpa [show pre.length + 1 + q - (pre.length + 1) = q by omega] using hy)
      refine AC_skip ?_
      refine hK6 _ _ _ ?_
      refine AC_block ?_
      refine AC_seq fun K8 hK8 => ?_
      refine AC_region ?_
      refine AL_ev (Ev_move) rfl ?_
      refine AL_ev (Ev_move) rfl ?_
      first | refine AL_ev (Ev_add rfl rfl _ (wrap_id (by first | omega | (simp; omega)) (by first | omega | (simp; omega)))) rfl ?_ | refine AL_ev (Ev_add rfl rfl _ rfl) rfl ?_
      refine AL_ev (Ev_conv_int tund3 tint93 rfl _ (wrapU (by first | omega | (simp; omega)) (by first | omega | (simp; omega)))) rfl ?_
      refine AL_ev (Ev_shr rfl rfl (by decide)) rfl ?_
      refine AL_ev (Ev_conv_int tund93 tint3 rfl _ (halfU (by first | omega | (simp; omega)) (by first | omega | (simp; omega)))) rfl ?_
      refine AL_ev (Ev_assign) rfl ?_
      refine AL_nil ?_
      refine hK8 _ _ _ ?_
      refine AC_seq fun K9 hK9 => ?_
      refine AC_draw hT follows [0, 1, 2, 3, 4, 5, 6, 7, 8, 9, 10] (by kernel_rfl) ?_
      refine DT_ev rfl (EA_move) rfl ?_
      refine DT_ev rfl (EA_move) rfl ?_
      refine DT_ev rfl (EA_move) rfl ?_
      first | refine DT_ev rfl (EA_ix_sl rfl rfl te24 ts35 (by omega) (by assumption)) rfl ?_ | refine DT_ev rfl (EA_ix_ref rfl rfl te24 ts35 (by omega) (by first | omega | (simp; omega))) rfl ?_
      first | refine DT_ev rfl (EA_load_ptr rfl rfl rfl hesZ2 rfl rfl ts35 ta35 (by first | rfl | assumption | simp) (by intro h; cases h)) rfl ?_ | refine DT_ev rfl (EA_load_ptr rfl rfl rfl hesZ rfl rfl ts35 ta35 (by first | rfl | assumption | simp) (by intro h; cases h)) rfl ?_ | refine DT_ev rfl (EA_load_ptr rfl rfl rfl hesY rfl rfl ts35 ta35 (by first | rfl | assumption | simp) (by intro h; cases h)) rfl ?_ | refine DT_ev rfl (EA_load_ptr rfl rfl rfl hesX rfl rfl ts35 ta35 (by first | rfl | assumption | simp) (by intro h; cases h)) rfl ?_ | refine DT_ev rfl (EA_load_ptr rfl rfl rfl rfl rfl rfl ts35 ta35 (by first | rfl | assumption | simp) (by intro h; cases h)) rfl ?_ | refine DT_ev rfl (EA_load_rp rfl rfl rfl ts35 ta35 (by first | rfl | assumption | simp) (by intro h; cases h)) rfl ?_
      refine DT_ev rfl (EA_move) rfl ?_
      refine DT_ev rfl (EA_move) rfl ?_
      first | refine DT_ev rfl (EA_ix_sl rfl rfl te24 ts35 (by omega) (by assumption)) rfl ?_ | refine DT_ev rfl (EA_ix_ref rfl rfl te24 ts35 (by omega) (by first | omega | (simp; omega))) rfl ?_
      first | refine DT_ev rfl (EA_load_ptr rfl rfl rfl hesZ2 rfl rfl ts35 ta35 (by first | rfl | assumption | simp) (by intro h; cases h)) rfl ?_ | refine DT_ev rfl (EA_load_ptr rfl rfl rfl hesZ rfl rfl ts35 ta35 (by first | rfl | assumption | simp) (by intro h; cases h)) rfl ?_ | refine DT_ev rfl (EA_load_ptr rfl rfl rfl hesY rfl rfl ts35 ta35 (by first | rfl | assumption | simp) (by intro h; cases h)) rfl ?_ | refine DT_ev rfl (EA_load_ptr rfl rfl rfl hesX rfl rfl ts35 ta35 (by first | rfl | assumption | simp) (by intro h; cases h)) rfl ?_ | refine DT_ev rfl (EA_load_ptr rfl rfl rfl rfl rfl rfl ts35 ta35 (by first | rfl | assumption | simp) (by intro h; cases h)) rfl ?_ | refine DT_ev rfl (EA_load_rp rfl rfl rfl ts35 ta35 (by first | rfl | assumption | simp) (by intro h; cases h)) rfl ?_
      refine DT_ccall hT hP rfl rfl cl43 (c_compare y.1 x.1 rfl) (.cons hpy.v (.cons hpx.v .nil)) rfl (by kernel_rfl) ?_
      refine DT_ev rfl (EA_lss rfl rfl) rfl ?_
      refine DTi.nil ?_
      refine hK9 _ _ _ ?_
      refine AC_cond rfl (fun hc3 => ?_) (fun hc3 => ?_)
      · skip
        refine AC_region ?_
        refine AL_ev (Ev_move) rfl ?_
        first | refine AL_ev (Ev_add rfl rfl _ (wrap_id (by first | omega | (simp; omega)) (by first | omega | (simp; omega)))) rfl ?_ | refine AL_ev (Ev_add rfl rfl _ rfl) rfl ?_
        refine AL_ev (Ev_assign) rfl ?_
        refine AL_nil ?_
        refine closeS (q + 1, hi, cur) [some 0] rfl rfl (by show hi - (q + 1) < hi - lo; omega) ?_ (BxTo_some rfl rfl rfl rfl (by first | exact VwL_app (by first | rfl | simp [ints, strs] | simp [ints, strs, injs_map]) | exact VwL_dd (by first | rfl | simp [ints, strs] | simp [ints, strs, injs_map]) | exact VwL_of (by first | rfl | simp [ints, strs] | simp [ints, strs, injs_map])) BxTo_nil) (SlTo_cons (by first | exact .rd .d | exact Vw_int (by first | rfl | assumption | omega | (simp; done) | (simp; omega)) | exact Vw_c (by first | rfl | (simp; done) | simp_all) | exact .any) (SlTo_cons (by first | exact .rd .d | exact Vw_int (by first | rfl | assumption | omega | (simp; done) | (simp; omega)) | exact Vw_c (by first | rfl | (simp; done) | simp_all) | exact .any) (SlTo_cons (Vw_refe rfl (by first | rfl | simp | (simp; omega))) (SlTo_cons (by first | exact .rd .d | exact .any) (SlTo_cons (by first | exact .rd .d | exact .any) SlTo_nil)))))
        exact ⟨hcur, by omega, hhB, fun y2 _ h => by rw [Nat.add_sub_cancel, hy] at h; injection h with h; subst h; exact of_decide_eq_true hc3, hhi⟩
      · skip
        refine AC_region ?_
        refine AL_ev (Ev_move) rfl ?_
        refine AL_ev (Ev_assign) rfl ?_
        refine AL_nil ?_
        refine closeS (lo, q, cur) [some 0] rfl rfl (by show q - lo < hi - lo; omega) ?_ (BxTo_some rfl rfl rfl rfl (by first | exact VwL_app (by first | rfl | simp [ints, strs] | simp [ints, strs, injs_map]) | exact VwL_dd (by first | rfl | simp [ints, strs] | simp [ints, strs, injs_map]) | exact VwL_of (by first | rfl | simp [ints, strs] | simp [ints, strs, injs_map])) BxTo_nil) (SlTo_cons (by first | exact .rd .d | exact Vw_int (by first | rfl | assumption | omega | (simp; done) | (simp; omega)) | exact Vw_c (by first | rfl | (simp; done) | simp_all) | exact .any) (SlTo_cons (by first | exact .rd .d | exact Vw_int (by first | rfl | assumption | omega | (simp; done) | (simp; omega)) | exact Vw_c (by first | rfl | (simp; done) | simp_all) | exact .any) (SlTo_cons (Vw_refe rfl (by first | rfl | simp | (simp; omega))) (SlTo_cons (by first | exact .rd .d | exact .any) (SlTo_cons (by first | exact .rd .d | exact .any) SlTo_nil)))))
        exact ⟨hcur, by omega, by omega, hlo, fun y2 h => by rw [hy] at h; injection h with h; subst h; have := of_decide_eq_false hc3; omega⟩
    · skip
      have hlh2 : lo = hi := by have := of_decide_eq_false hc2; omega
      subst hlh2
      refine AC_exit ?_
      refine hK5 _ _ _ ?_
      refine AC_seq fun K10 hK10 => ?_
      refine AC_seq fun K11 hK11 => ?_
      refine AC_region ?_
      refine AL_ev (Ev_move) rfl ?_
      refine AL_ev (Ev_assign) rfl ?_
      refine AL_nil ?_
      refine hK11 _ _ _ ?_
      refine AC_block ?_
      refine AC_loopS [10] (Nat × List TD) (fun ⟨t, cur2⟩ => [(13, i64 ((pre.length : Int) + ((t : Nat) : Int))), (0, .ref LT 0 0 (dsP cur2).length)]) (fun ⟨t, cur2⟩ => [some ⟨⟨35, some (o 0)⟩, LT, (dsP cur2).map V.d⟩]) (fun st => lo - st.1) (fun ⟨t, cur2⟩ => (t ≤ lo ∧ cur2 = pre ++ B.take t ++ x :: B.drop t ++ post)) ((0, cur)) ?_ ?_ ?_
      · skip
        exact enterS [some 0] rfl rfl (BxTo_some rfl rfl rfl rfl (by first | exact .nil | exact VwL_dd (by first | rfl | simp) | exact VwL_app (by first | rfl | simp) | exact VwL_of (by first | rfl | simp)) BxTo_nil) (SlTo_cons (by first | exact .rd .d | exact Vw_int (by first | rfl | assumption | omega | (simp; done) | (simp; omega)) | exact Vw_c (by first | rfl | (simp; done) | simp_all) | exact .any) (SlTo_cons (Vw_refe rfl (by first | rfl | simp)) (SlTo_cons (by first | exact .rd .d | exact .any) SlTo_nil)))
      · skip
        exact ⟨Nat.zero_le _, by rw [hcur]; simp⟩
      rintro ⟨t, cur2⟩ ⟨ht, hcur2⟩
      show AC _ _ _ _ _ (FS [10] _ [(13, i64 ((pre.length : Int) + ((t : Nat) : Int))), (0, .ref LT 0 0 (dsP cur2).length)]) [some ⟨⟨35, some (o 0)⟩, LT, (dsP cur2).map V.d⟩]
      refine AC_seq fun K12 hK12 => ?_
      refine AC_seq fun K13 hK13 => ?_
      refine AC_region ?_
      refine AL_ev (Ev_move) rfl ?_
      refine AL_ev (Ev_move) rfl ?_
      first | refine AL_ev (Ev_sub rfl rfl _ (wrap_id (by first | omega | (simp; omega)) (by first | omega | (simp; omega)))) rfl ?_ | refine AL_ev (Ev_sub rfl rfl _ rfl) rfl ?_
      refine AL_ev (Ev_lss rfl rfl) rfl ?_
      refine AL_nil ?_
      refine hK13 _ _ _ ?_
      refine AC_cond rfl (fun hc4 => ?_) (fun hc4 => ?_)
      · skip
        have htl : t < lo := by have := of_decide_eq_true hc4; omega
        obtain ⟨z, hz⟩ : ∃ z, B[t]? = some z := ⟨_, List.getElem?_eq_getElem (by omega)⟩
        have hpz : PL pool z := hel z (List.mem_append_right _ (List.mem_of_getElem? hz))
        have hzl : (V.d z.2).len? = Lay.len LT := hpz.len
        have hza : (V.d z.2).isAgg = true := hpz.ag
        have hcl : cur2.length = pre.length + 1 + B.length + post.length := by rw [hcur2]; simp; omega
        have hform : cur2 = (pre ++ B.take t) ++ x :: [] ++ z :: (B.drop (t + 1) ++ post) := by rw [hcur2, drop_get hz]; simp
        have hesX : ((dsP cur2).map V.d)[0 + ((pre.length : Int) + ((t : Nat) : Int)).toNat]? = some (.d x.2) := by rw [show 0 + ((pre.length : Int) + ((t : Nat) : Int)).toNat = pre.length + t by omega]; exact dsP_get (by rw [hform, List.append_assoc, List.cons_append]; exact getL_at _ _ _ (by simp; omega))
        have hesZ : ((dsP cur2).map V.d)[0 + ((pre.length : Int) + ((t : Nat) : Int) + 1).toNat]? = some (.d z.2) := by rw [show 0 + ((pre.length : Int) + ((t : Nat) : Int) + 1).toNat = pre.length + t + 1 by omega]; exact dsP_get (by rw [hform]; exact getL_at _ _ _ (by simp; omega))
        have hesZ2 : (((dsP cur2).map V.d).set (0 + ((pre.length : Int) + ((t : Nat) : Int)).toNat) (.d z.2))[0 + ((pre.length : Int) + ((t : Nat) : Int) + 1).toNat]? = some (.d z.2) := by rw [List.getElem?_set_ne (by omega)]; exact hesZ
        refine AC_skip ?_
        refine hK12 _ _ _ ?_
        refine AC_seq fun K14 hK14 => ?_
        refine AC_block ?_
        refine AC_draw hT follows [0, 1, 2, 3, 4, 5, 6, 7, 8, 9, 10, 11, 12, 13, 14, 15, 16, 17] (by kernel_rfl) ?_
        refine DT_ev rfl (EA_move) rfl ?_
        refine DT_ev rfl (EA_move) rfl ?_
        refine DT_ev rfl (EA_move) rfl ?_
        refine DT_ev rfl (EA_move) rfl ?_
        first | refine DT_ev rfl (EA_add rfl rfl _ (wrap_id (by first | omega | (simp; omega)) (by first | omega | (simp; omega)))) rfl ?_ | refine DT_ev rfl (EA_add rfl rfl _ rfl) rfl ?_
        refine DT_ev rfl (EA_move) rfl ?_
        refine DT_ev rfl (EA_move) rfl ?_
        first | refine DT_ev rfl (EA_add rfl rfl _ (wrap_id (by first | omega | (simp; omega)) (by first | omega | (simp; omega)))) rfl ?_ | refine DT_ev rfl (EA_add rfl rfl _ rfl) rfl ?_
        first | refine DT_ev rfl (EA_ix_sl rfl rfl te24 ts35 (by omega) (by assumption)) rfl ?_ | refine DT_ev rfl (EA_ix_ref rfl rfl te24 ts35 (by omega) (by first | omega | (simp; omega))) rfl ?_
        first | refine DT_ev rfl (EA_load_ptr rfl rfl rfl hesZ2 rfl rfl ts35 ta35 (by first | rfl | assumption | simp) (by intro h; cases h)) rfl ?_ | refine DT_ev rfl (EA_load_ptr rfl rfl rfl hesZ rfl rfl ts35 ta35 (by first | rfl | assumption | simp) (by intro h; cases h)) rfl ?_ | refine DT_ev rfl (EA_load_ptr rfl rfl rfl hesY rfl rfl ts35 ta35 (by first | rfl | assumption | simp) (by intro h; cases h)) rfl ?_ | refine DT_ev rfl (EA_load_ptr rfl rfl rfl hesX rfl rfl ts35 ta35 (by first | rfl | assumption | simp) (by intro h; cases h)) rfl ?_ | refine DT_ev rfl (EA_load_ptr rfl rfl rfl rfl rfl rfl ts35 ta35 (by first | rfl | assumption | simp) (by intro h; cases h)) rfl ?_ | refine DT_ev rfl (EA_load_rp rfl rfl rfl ts35 ta35 (by first | rfl | assumption | simp) (by intro h; cases h)) rfl ?_
        refine DT_ev rfl (EA_move) rfl ?_
        refine DT_ev rfl (EA_move) rfl ?_
        first | refine DT_ev rfl (EA_ix_sl rfl rfl te24 ts35 (by omega) (by assumption)) rfl ?_ | refine DT_ev rfl (EA_ix_ref rfl rfl te24 ts35 (by omega) (by first | omega | (simp; omega))) rfl ?_
        first | refine DT_ev rfl (EA_load_ptr rfl rfl rfl hesZ2 rfl rfl ts35 ta35 (by first | rfl | assumption | simp) (by intro h; cases h)) rfl ?_ | refine DT_ev rfl (EA_load_ptr rfl rfl rfl hesZ rfl rfl ts35 ta35 (by first | rfl | assumption | simp) (by intro h; cases h)) rfl ?_ | refine DT_ev rfl (EA_load_ptr rfl rfl rfl hesY rfl rfl ts35 ta35 (by first | rfl | assumption | simp) (by intro h; cases h)) rfl ?_ | refine DT_ev rfl (EA_load_ptr rfl rfl rfl hesX rfl rfl ts35 ta35 (by first | rfl | assumption | simp) (by intro h; cases h)) rfl ?_ | refine DT_ev rfl (EA_load_ptr rfl rfl rfl rfl rfl rfl ts35 ta35 (by first | rfl | assumption | simp) (by intro h; cases h)) rfl ?_ | refine DT_ev rfl (EA_load_rp rfl rfl rfl ts35 ta35 (by first | rfl | assumption | simp) (by intro h; cases h)) rfl ?_
        first | refine DT_ev rfl (EA_ix_sl rfl rfl te24 ts35 (by omega) (by assumption)) rfl ?_ | refine DT_ev rfl (EA_ix_ref rfl rfl te24 ts35 (by omega) (by first | omega | (simp; omega))) rfl ?_
        first | refine DT_store rfl rfl (nf rfl) rfl rfl rfl rfl rfl rfl (by first | rfl | assumption | simp [Lay.len, Lay.lens]) ts35 rfl rfl ?_ | refine DT_store rfl rfl (nf rfl) rfl rfl rfl hesX rfl rfl (by first | rfl | assumption | simp [Lay.len, Lay.lens]) ts35 rfl rfl ?_ | refine DT_store rfl rfl (nf rfl) rfl rfl rfl hesY rfl rfl (by first | rfl | assumption | simp [Lay.len, Lay.lens]) ts35 rfl rfl ?_ | refine DT_store rfl rfl (nf rfl) rfl rfl rfl hesZ rfl rfl (by first | rfl | assumption | simp [Lay.len, Lay.lens]) ts35 rfl rfl ?_ | refine DT_store rfl rfl (nf rfl) rfl rfl rfl hesZ2 rfl rfl (by first | rfl | assumption | simp [Lay.len, Lay.lens]) ts35 rfl rfl ?_
        first | refine DT_ev rfl (EA_ix_sl rfl rfl te24 ts35 (by omega) (by assumption)) rfl ?_ | refine DT_ev rfl (EA_ix_ref rfl rfl te24 ts35 (by omega) (by first | omega | (simp; omega))) rfl ?_
        first | refine DT_store rfl rfl (nf rfl) rfl rfl rfl rfl rfl rfl (by first | rfl | assumption | simp [Lay.len, Lay.lens]) ts35 rfl rfl ?_ | refine DT_store rfl rfl (nf rfl) rfl rfl rfl hesX rfl rfl (by first | rfl | assumption | simp [Lay.len, Lay.lens]) ts35 rfl rfl ?_ | refine DT_store rfl rfl (nf rfl) rfl rfl rfl hesY rfl rfl (by first | rfl | assumption | simp [Lay.len, Lay.lens]) ts35 rfl rfl ?_ | refine DT_store rfl rfl (nf rfl) rfl rfl rfl hesZ rfl rfl (by first | rfl | assumption | simp [Lay.len, Lay.lens]) ts35 rfl rfl ?_ | refine DT_store rfl rfl (nf rfl) rfl rfl rfl hesZ2 rfl rfl (by first | rfl | assumption | simp [Lay.len, Lay.lens]) ts35 rfl rfl ?_
        refine DTi.nil ?_
        refine hK14 _ _ _ ?_
        refine AC_region ?_
        refine AL_ev (Ev_move) rfl ?_
        first | refine AL_ev (Ev_add rfl rfl _ (wrap_id (by first | omega | (simp; omega)) (by first | omega | (simp; omega)))) rfl ?_ | refine AL_ev (Ev_add rfl rfl _ rfl) rfl ?_
        refine AL_ev (Ev_assign) rfl ?_
        refine AL_nil ?_
        refine closeS (t + 1, (cur2.set (pre.length + t) z).set (pre.length + t + 1) x) [some 0] rfl rfl (by show lo - (t + 1) < lo - t; omega) ?_ (BxTo_some rfl rfl rfl rfl (by first | exact VwL_app (by rw [show 0 + ((pre.length : Int) + ((t : Nat) : Int)).toNat = pre.length + t by omega, show 0 + ((pre.length : Int) + ((t : Nat) : Int) + 1).toNat = pre.length + t + 1 by omega]; exact dsP_set2 _ _ _ _ _) | exact VwL_dd (by rw [show 0 + ((pre.length : Int) + ((t : Nat) : Int)).toNat = pre.length + t by omega, show 0 + ((pre.length : Int) + ((t : Nat) : Int) + 1).toNat = pre.length + t + 1 by omega]; exact dsP_set2 _ _ _ _ _) | exact VwL_of (by rw [show 0 + ((pre.length : Int) + ((t : Nat) : Int)).toNat = pre.length + t by omega, show 0 + ((pre.length : Int) + ((t : Nat) : Int) + 1).toNat = pre.length + t + 1 by omega]; exact dsP_set2 _ _ _ _ _)) BxTo_nil) (SlTo_cons (by first | exact .rd .d | exact Vw_int (by first | rfl | assumption | omega | (simp; done) | (simp; omega)) | exact Vw_c (by first | rfl | (simp; done) | simp_all) | exact .any) (SlTo_cons (Vw_refe rfl (by first | rfl | (simp [dsP_length]; done))) (SlTo_cons (by first | exact .rd .d | exact .any) SlTo_nil)))
        refine ⟨by omega, ?_⟩
        rw [hform, swapL_at _ _ _ _ _ (by simp; omega) (by simp; omega), take_succ_get hz]
        simp
      · skip
        have htl : t = lo := by have := of_decide_eq_false hc4; omega
        subst htl
        refine AC_exit ?_
        refine hK10 _ _ _ ?_
        refine AC_ret ?_
        exact rete_ok (cur2) (⟨B.take t ++ x :: B.drop t, by rw [hcur2]; simp, by
          have := List.perm_middle (a := x) (l₁ := B.take t) (l₂ := B.drop t)
          simpa using this, srt_mid hpx.rt (fun p hp => (hel p (List.mem_append_right _ (by simpa using hp))).rt) (by simpa using sB) (fun s h => by obtain ⟨h0, h1⟩ := last_take (by omega) h; have := hlo s h0 h1; omega) (fun s h => by rw [List.head?_drop] at h; have h1 := hhi s h; have h2 := cmp_neg x.1 hpx.rt s.1 (hel s (List.mem_append_right _ (List.mem_of_getElem? h))).rt; omega)⟩) [0] (CExt.refl _) rfl rfl rfl (BxF_stay rfl rfl rfl rfl rfl (VxL_d _) rfl BxF_nil) (Nat.le_refl _)
  · skip
    refine AC_skip ?_
    refine hK1 _ _ _ ?_
    refine AC_seq fun K15 hK15 => ?_
    refine AC_seq fun K16 hK16 => ?_
    refine AC_region ?_
    refine AL_ev (Ev_move) rfl ?_
    refine AL_ev (Ev_move) rfl ?_
    first | refine AL_ev (Ev_sub rfl rfl _ (wrap_id (by first | omega | (simp; omega)) (by first | omega | (simp; omega)))) rfl ?_ | refine AL_ev (Ev_sub rfl rfl _ rfl) rfl ?_
    refine AL_ev (Ev_eql rfl rfl) rfl ?_
    refine AL_nil ?_
    refine hK16 _ _ _ ?_
    refine AC_cond rfl (fun hc5 => ?_) (fun hc5 => ?_)
    · skip
      have h1 : B.length = 1 := by have := of_decide_eq_true hc5; omega
      obtain ⟨y, rfl⟩ := len1 h1
      have hpy : PL pool y := hel y (by simp)
      have hyl : (V.d y.2).len? = Lay.len LT := hpy.len
      have hya : (V.d y.2).isAgg = true := hpy.ag
      have hy1 : ([y] : List TD).length = 1 := rfl
      refine AC_seq fun K17 hK17 => ?_
      refine AC_region ?_
      refine AL_ev (Ev_move) rfl ?_
      refine AL_ev (Ev_assign) rfl ?_
      refine AL_nil ?_
      refine hK17 _ _ _ ?_
      refine AC_seq fun K18 hK18 => ?_
      refine AC_region ?_
      refine AL_ev (Ev_move) rfl ?_
      refine AL_ev (Ev_assign) rfl ?_
      refine AL_nil ?_
      refine hK18 _ _ _ ?_
      refine AC_seq fun K19 hK19 => ?_
      refine AC_block ?_
      refine AC_loopS [2, 4] (Nat × Nat × List TD) (fun ⟨lo, hi, cur⟩ => [(14, i64 ((pre.length : Int) + ((lo : Nat) : Int))), (15, i64 ((pre.length : Int) + ((hi : Nat) : Int))), (0, .ref LT 0 0 (dsP cur).length)]) (fun ⟨lo, hi, cur⟩ => [some ⟨⟨35, some (o 0)⟩, LT, (dsP cur).map V.d⟩]) (fun st => st.2.1 - st.1) (fun ⟨lo, hi, cur⟩ => (cur = pre ++ A ++ [y] ++ post ∧ lo ≤ hi ∧ hi ≤ A.length ∧ (∀ x, 0 < lo → A[lo - 1]? = some x → 0 ≤ cmpT y.1 x.1) ∧ (∀ x, A[hi]? = some x → cmpT y.1 x.1 < 0))) ((0, A.length, pre ++ A ++ [y] ++ post)) ?_ ?_ ?_
      · skip
        exact enterS [some 0] rfl rfl (BxTo_some rfl rfl rfl rfl (by first | exact .nil | exact VwL_dd (by first | rfl | simp) | exact VwL_app (by first | rfl | simp) | exact VwL_of (by first | rfl | simp)) BxTo_nil) (SlTo_cons (by first | exact .rd .d | exact Vw_int (by first | rfl | assumption | omega | (simp; done) | (simp; omega)) | exact Vw_c (by first | rfl | (simp; done) | simp_all) | exact .any) (SlTo_cons (by first | exact .rd .d | exact Vw_int (by first | rfl | assumption | omega | (simp; done) | (simp; omega)) | exact Vw_c (by first | rfl | (simp; done) | simp_all) | exact .any) (SlTo_cons (Vw_refe rfl (by first | rfl | simp)) (SlTo_cons (by first | exact .rd .d | exact .any) (SlTo_cons (by first | exact .rd .d | exact .any) SlTo_nil)))))
      · skip
        exact ⟨rfl, Nat.zero_le _, Nat.le_refl _, fun y h => absurd h (by omega), fun y h => by rw [List.getElem?_eq_none (Nat.le_refl _)] at h; cases h⟩
      rintro ⟨lo, hi, cur⟩ ⟨hcur, hlh, hhB, hlo, hhi⟩
      show AC _ _ _ _ _ (FS [2, 4] _ [(14, i64 ((pre.length : Int) + ((lo : Nat) : Int))), (15, i64 ((pre.length : Int) + ((hi : Nat) : Int))), (0, .ref LT 0 0 (dsP cur).length)]) [some ⟨⟨35, some (o 0)⟩, LT, (dsP cur).map V.d⟩]
      refine AC_seq fun K20 hK20 => ?_
      refine AC_seq fun K21 hK21 => ?_
      refine AC_region ?_
      refine AL_ev (Ev_move) rfl ?_
      refine AL_ev (Ev_move) rfl ?_
      refine AL_ev (Ev_lss rfl rfl) rfl ?_
      refine AL_nil ?_
      refine hK21 _ _ _ ?_
      refine AC_cond rfl (fun hc6 => ?_) (fun hc6 => ?_)
      · skip
        have hlt : lo < hi := by have := of_decide_eq_true hc6; omega
        obtain ⟨q, hq, hq1, hq2⟩ : ∃ q : Nat, (((pre.length : Int) + ((lo : Nat) : Int)) + ((pre.length : Int) + ((hi : Nat) : Int))) / 2 = ((pre.length : Int) + ((q : Nat) : Int)) ∧ lo ≤ q ∧ q < hi := ⟨(lo + hi) / 2, by omega, by omega, by omega⟩
        obtain ⟨x, hx⟩ : ∃ x, A[q]? = some x := ⟨_, List.getElem?_eq_getElem (by omega)⟩
        have hpx : PL pool x := hel x (List.mem_append_left _ (List.mem_of_getElem? hx))
        have hxl : (V.d x.2).len? = Lay.len LT := hpx.len
        have hxa : (V.d x.2).isAgg = true := hpx.ag
        have hcl : cur.length = pre.length + A.length + 1 + post.length := by rw [hcur]; simp; omega
        have hesY : ((dsP cur).map V.d)[0 + ((pre.length : Int) + (A.length : Int)).toNat]? = some (.d y.2) := by rw [show 0 + ((pre.length : Int) + (A.length : Int)).toNat = pre.length + A.length by omega]; exact dsP_get (by rw [hcur, List.append_assoc (pre ++ A)]; exact getL_at _ _ _ (by simp))
        have hesX : ((dsP cur).map V.d)[0 + ((((pre.length : Int) + ((lo : Nat) : Int)) + ((pre.length : Int) + ((hi : Nat) : Int))) / 2).toNat]? = some (.d x.2) := by rw [hq, show 0 + (((pre.length : Int) + ((q : Nat) : Int))).toNat = pre.length + q by omega]; exact dsP_get (by rw [hcur, List.append_assoc, List.append_assoc, List.getElem?_append_right (by omega), List.getElem?_append_left (by omega)]; simpa [show pre.length + q - pre.length = q by omega] using hx)
        refine AC_skip ?_
        refine hK20 _ _ _ ?_
        refine AC_block ?_
        refine AC_seq fun K22 hK22 => ?_
        refine AC_region ?_
        refine AL_ev (Ev_move) rfl ?_
        refine AL_ev (Ev_move) rfl ?_
        first | refine AL_ev (Ev_add rfl rfl _ (wrap_id (by first | omega | (simp; omega)) (by first | omega | (simp; omega)))) rfl ?_ | refine AL_ev (Ev_add rfl rfl _ rfl) rfl ?_
        refine AL_ev (Ev_conv_int tund3 tint93 rfl _ (wrapU (by first | omega | (simp; omega)) (by first | omega | (simp; omega)))) rfl ?_
        refine AL_ev (Ev_shr rfl rfl (by decide)) rfl ?_
        refine AL_ev (Ev_conv_int tund93 tint3 rfl _ (halfU (by first | omega | (simp; omega)) (by first | omega | (simp; omega)))) rfl ?_
        refine AL_ev (Ev_assign) rfl ?_
        refine AL_nil ?_
        refine hK22 _ _ _ ?_
        refine AC_seq fun K23 hK23 => ?_
        refine AC_draw hT follows [0, 1, 2, 3, 4, 5, 6, 7, 8, 9, 10, 11] (by kernel_rfl) ?_
        refine DT_ev rfl (EA_move) rfl ?_
        refine DT_ev rfl (EA_move) rfl ?_
        refine DT_ev rfl (EA_move) rfl ?_
        first | refine DT_ev rfl (EA_ix_sl rfl rfl te24 ts35 (by omega) (by assumption)) rfl ?_ | refine DT_ev rfl (EA_ix_ref rfl rfl te24 ts35 (by omega) (by first | omega | (simp; omega))) rfl ?_
        first | refine DT_ev rfl (EA_load_ptr rfl rfl rfl hesZ2 rfl rfl ts35 ta35 (by first | rfl | assumption | simp) (by intro h; cases h)) rfl ?_ | refine DT_ev rfl (EA_load_ptr rfl rfl rfl hesZ rfl rfl ts35 ta35 (by first | rfl | assumption | simp) (by intro h; cases h)) rfl ?_ | refine DT_ev rfl (EA_load_ptr rfl rfl rfl hesY rfl rfl ts35 ta35 (by first | rfl | assumption | simp) (by intro h; cases h)) rfl ?_ | refine DT_ev rfl (EA_load_ptr rfl rfl rfl hesX rfl rfl ts35 ta35 (by first | rfl | assumption | simp) (by intro h; cases h)) rfl ?_ | refine DT_ev rfl (EA_load_ptr rfl rfl rfl rfl rfl rfl ts35 ta35 (by first | rfl | assumption | simp) (by intro h; cases h)) rfl ?_ | refine DT_ev rfl (EA_load_rp rfl rfl rfl ts35 ta35 (by first | rfl | assumption | simp) (by intro h; cases h)) rfl ?_
        refine DT_ev rfl (EA_move) rfl ?_
        refine DT_ev rfl (EA_move) rfl ?_
        first | refine DT_ev rfl (EA_ix_sl rfl rfl te24 ts35 (by omega) (by assumption)) rfl ?_ | refine DT_ev rfl (EA_ix_ref rfl rfl te24 ts35 (by omega) (by first | omega | (simp; omega))) rfl ?_
        first | refine DT_ev rfl (EA_load_ptr rfl rfl rfl hesZ2 rfl rfl ts35 ta35 (by first | rfl | assumption | simp) (by intro h; cases h)) rfl ?_ | refine DT_ev rfl (EA_load_ptr rfl rfl rfl hesZ rfl rfl ts35 ta35 (by first | rfl | assumption | simp) (by intro h; cases h)) rfl ?_ | refine DT_ev rfl (EA_load_ptr rfl rfl rfl hesY rfl rfl ts35 ta35 (by first | rfl | assumption | simp) (by intro h; cases h)) rfl ?_ | refine DT_ev rfl (EA_load_ptr rfl rfl rfl hesX rfl rfl ts35 ta35 (by first | rfl | assumption | simp) (by intro h; cases h)) rfl ?_ | refine DT_ev rfl (EA_load_ptr rfl rfl rfl rfl rfl rfl ts35 ta35 (by first | rfl | assumption | simp) (by intro h; cases h)) rfl ?_ | refine DT_ev rfl (EA_load_rp rfl rfl rfl ts35 ta35 (by first | rfl | assumption | simp) (by intro h; cases h)) rfl ?_
        refine DT_ccall hT hP rfl rfl cl43 (c_compare y.1 x.1 rfl) (.cons hpy.v (.cons hpx.v .nil)) rfl (by kernel_rfl) ?_
        refine DT_ev rfl (EA_lss rfl rfl) rfl ?_
        refine DT_ev rfl (EA_not rfl) rfl ?_
        refine DTi.nil ?_
        refine hK23 _ _ _ ?_
        refine AC_cond rfl (fun hc7 => ?_) (fun hc7 => ?_)
        · skip
          refine AC_region ?_
          refine AL_ev (Ev_move) rfl ?_
          first | refine AL_ev (Ev_add rfl rfl _ (wrap_id (by first | omega | (simp; omega)) (by first | omega | (simp; omega)))) rfl ?_ | refine AL_ev (Ev_add rfl rfl _ rfl) rfl ?_
          refine AL_ev (Ev_assign) rfl ?_
          refine AL_nil ?_
          refine closeS (q + 1, hi, cur) [some 0] rfl rfl (by show hi - (q + 1) < hi - lo; omega) ?_ (BxTo_some rfl rfl rfl rfl (by first | exact VwL_app (by first | rfl | simp [ints, strs] | simp [ints, strs, injs_map]) | exact VwL_dd (by first | rfl | simp [ints, strs] | simp [ints, strs, injs_map]) | exact VwL_of (by first | rfl | simp [ints, strs] | simp [ints, strs, injs_map])) BxTo_nil) (SlTo_cons (by first | exact .rd .d | exact Vw_int (by first | rfl | assumption | omega | (simp; done) | (simp; omega)) | exact Vw_c (by first | rfl | (simp; done) | simp_all) | exact .any) (SlTo_cons (by first | exact .rd .d | exact Vw_int (by first | rfl | assumption | omega | (simp; done) | (simp; omega)) | exact Vw_c (by first | rfl | (simp; done) | simp_all) | exact .any) (SlTo_cons (Vw_refe rfl (by first | rfl | simp | (simp; omega))) (SlTo_cons (by first | exact .rd .d | exact .any) (SlTo_cons (by first | exact .rd .d | exact .any) SlTo_nil)))))
          exact ⟨hcur, by omega, hhB, fun x2 _ h => by rw [Nat.add_sub_cancel, hx] at h; injection h with h; subst h; have h9 : ¬ cmpT y.1 x.1 < 0 := (by simpa using hc7); omega, hhi⟩
        · skip
          refine AC_region ?_
          refine AL_ev (Ev_move) rfl ?_
          refine AL_ev (Ev_assign) rfl ?_
          refine AL_nil ?_
          refine closeS (lo, q, cur) [some 0] rfl rfl (by show q - lo < hi - lo; omega) ?_ (BxTo_some rfl rfl rfl rfl (by first | exact VwL_app (by first | rfl | simp [ints, strs] | simp [ints, strs, injs_map]) | exact VwL_dd (by first | rfl | simp [ints, strs] | simp [ints, strs, injs_map]) | exact VwL_of (by first | rfl | simp [ints, strs] | simp [ints, strs, injs_map])) BxTo_nil) (SlTo_cons (by first | exact .rd .d | exact Vw_int (by first | rfl | assumption | omega | (simp; done) | (simp; omega)) | exact Vw_c (by first | rfl | (simp; done) | simp_all) | exact .any) (SlTo_cons (by first | exact .rd .d | exact Vw_int (by first | rfl | assumption | omega | (simp; done) | (simp; omega)) | exact Vw_c (by first | rfl | (simp; done) | simp_all) | exact .any) (SlTo_cons (Vw_refe rfl (by first | rfl | simp | (simp; omega))) (SlTo_cons (by first | exact .rd .d | exact .any) (SlTo_cons (by first | exact .rd .d | exact .any) SlTo_nil)))))
          exact ⟨hcur, by omega, by omega, hlo, fun x2 h => by rw [hx] at h; injection h with h; subst h; simpa using hc7⟩
      · skip
        have hlh2 : lo = hi := by have := of_decide_eq_false hc6; omega
        subst hlh2
        refine AC_exit ?_
        refine hK19 _ _ _ ?_
        refine AC_seq fun K24 hK24 => ?_
        refine AC_seq fun K25 hK25 => ?_
        refine AC_region ?_
        refine AL_ev (Ev_move) rfl ?_
        refine AL_ev (Ev_assign) rfl ?_
        refine AL_nil ?_
        refine hK25 _ _ _ ?_
        refine AC_block ?_
        refine AC_loopS [14] (Nat × List TD) (fun ⟨t, cur2⟩ => [(17, i64 ((pre.length : Int) + ((t : Nat) : Int))), (0, .ref LT 0 0 (dsP cur2).length)]) (fun ⟨t, cur2⟩ => [some ⟨⟨35, some (o 0)⟩, LT, (dsP cur2).map V.d⟩]) (fun st => st.1) (fun ⟨t, cur2⟩ => (lo ≤ t ∧ t ≤ A.length ∧ cur2 = pre ++ A.take t ++ y :: A.drop t ++ post)) ((A.length, cur)) ?_ ?_ ?_
        · skip
          exact enterS [some 0] rfl rfl (BxTo_some rfl rfl rfl rfl (by first | exact .nil | exact VwL_dd (by first | rfl | simp) | exact VwL_app (by first | rfl | simp) | exact VwL_of (by first | rfl | simp)) BxTo_nil) (SlTo_cons (by first | exact .rd .d | exact Vw_int (by first | rfl | assumption | omega | (simp; done) | (simp; omega)) | exact Vw_c (by first | rfl | (simp; done) | simp_all) | exact .any) (SlTo_cons (Vw_refe rfl (by first | rfl | simp)) (SlTo_cons (by first | exact .rd .d | exact .any) SlTo_nil)))
        · skip
          exact ⟨hhB, Nat.le_refl _, by rw [hcur]; simp⟩
        rintro ⟨t, cur2⟩ ⟨ht, ht2, hcur2⟩
        show AC _ _ _ _ _ (FS [14] _ [(17, i64 ((pre.length : Int) + ((t : Nat) : Int))), (0, .ref LT 0 0 (dsP cur2).length)]) [some ⟨⟨35, some (o 0)⟩, LT, (dsP cur2).map V.d⟩]
        refine AC_seq fun K26 hK26 => ?_
        refine AC_seq fun K27 hK27 => ?_
        refine AC_region ?_
        refine AL_ev (Ev_move) rfl ?_
        refine AL_ev (Ev_move) rfl ?_
        refine AL_ev (Ev_gtr rfl rfl) rfl ?_
        refine AL_nil ?_
        refine hK27 _ _ _ ?_
        refine AC_cond rfl (fun hc8 => ?_) (fun hc8 => ?_)
        · skip
          have htl : lo < t := by have := of_decide_eq_true hc8; omega
          obtain ⟨z, hz⟩ : ∃ z, A[t - 1]? = some z := ⟨_, List.getElem?_eq_getElem (by omega)⟩
          have hpz : PL pool z := hel z (List.mem_append_left _ (List.mem_of_getElem? hz))
          have hzl : (V.d z.2).len? = Lay.len LT := hpz.len
          have hza : (V.d z.2).isAgg = true := hpz.ag
          have hcl : cur2.length = pre.length + A.length + 1 + post.length := by rw [hcur2]; simp; omega
          have htk : A.take t = A.take (t - 1) ++ [z] := by have := take_succ_get hz; rw [show t - 1 + 1 = t by omega] at this; exact this
          have hform : cur2 = (pre ++ A.take (t - 1)) ++ z :: [] ++ y :: (A.drop t ++ post) := by rw [hcur2, htk]; simp
          have hesX : ((dsP cur2).map V.d)[0 + ((pre.length : Int) + ((t : Nat) : Int)).toNat]? = some (.d y.2) := by rw [show 0 + ((pre.length : Int) + ((t : Nat) : Int)).toNat = pre.length + t by omega]; exact dsP_get (by rw [hform]; exact getL_at _ _ _ (by simp; omega))
          have hesZ : ((dsP cur2).map V.d)[0 + ((pre.length : Int) + ((t : Nat) : Int) - 1).toNat]? = some (.d z.2) := by rw [show 0 + ((pre.length : Int) + ((t : Nat) : Int) - 1).toNat = pre.length + t - 1 by omega]; exact dsP_get (by rw [hform, List.append_assoc, List.cons_append]; exact getL_at _ _ _ (by simp; omega))
          have hesZ2 : (((dsP cur2).map V.d).set (0 + ((pre.length : Int) + ((t : Nat) : Int)).toNat) (.d z.2))[0 + ((pre.length : Int) + ((t : Nat) : Int) - 1).toNat]? = some (.d z.2) := by rw [List.getElem?_set_ne (by omega)]; exact hesZ
          refine AC_skip ?_
          refine hK26 _ _ _ ?_
          refine AC_seq fun K28 hK28 => ?_
          refine AC_block ?_
          refine AC_draw hT follows [0, 1, 2, 3, 4, 5, 6, 7, 8, 9, 10, 11, 12, 13, 14, 15, 16, 17] (by kernel_rfl) ?_
          refine DT_ev rfl (EA_move) rfl ?_
          refine DT_ev rfl (EA_move) rfl ?_
          refine DT_ev rfl (EA_move) rfl ?_
          refine DT_ev rfl (EA_move) rfl ?_
          first | refine DT_ev rfl (EA_sub rfl rfl _ (wrap_id (by first | omega | (simp; omega)) (by first | omega | (simp; omega)))) rfl ?_ | refine DT_ev rfl (EA_sub rfl rfl _ rfl) rfl ?_
          refine DT_ev rfl (EA_move) rfl ?_
          refine DT_ev rfl (EA_move) rfl ?_
          first | refine DT_ev rfl (EA_sub rfl rfl _ (wrap_id (by first | omega | (simp; omega)) (by first | omega | (simp; omega)))) rfl ?_ | refine DT_ev rfl (EA_sub rfl rfl _ rfl) rfl ?_
          first | refine DT_ev rfl (EA_ix_sl rfl rfl te24 ts35 (by omega) (by assumption)) rfl ?_ | refine DT_ev rfl (EA_ix_ref rfl rfl te24 ts35 (by omega) (by first | omega | (simp; omega))) rfl ?_
          first | refine DT_ev rfl (EA_load_ptr rfl rfl rfl hesZ2 rfl rfl ts35 ta35 (by first | rfl | assumption | simp) (by intro h; cases h)) rfl ?_ | refine DT_ev rfl (EA_load_ptr rfl rfl rfl hesZ rfl rfl ts35 ta35 (by first | rfl | assumption | simp) (by intro h; cases h)) rfl ?_ | refine DT_ev rfl (EA_load_ptr rfl rfl rfl hesY rfl rfl ts35 ta35 (by first | rfl | assumption | simp) (by intro h; cases h)) rfl ?_ | refine DT_ev rfl (EA_load_ptr rfl rfl rfl hesX rfl rfl ts35 ta35 (by first | rfl | assumption | simp) (by intro h; cases h)) rfl ?_ | refine DT_ev rfl (EA_load_ptr rfl rfl rfl rfl rfl rfl ts35 ta35 (by first | rfl | assumption | simp) (by intro h; cases h)) rfl ?_ | refine DT_ev rfl (EA_load_rp rfl rfl rfl ts35 ta35 (by first | rfl | assumption | simp) (by intro h; cases h)) rfl ?_
          refine DT_ev rfl (EA_move) rfl ?_
          refine DT_ev rfl (EA_move) rfl ?_
          first | refine DT_ev rfl (EA_ix_sl rfl rfl te24 ts35 (by omega) (by assumption)) rfl ?_ | refine DT_ev rfl (EA_ix_ref rfl rfl te24 ts35 (by omega) (by first | omega | (simp; omega))) rfl ?_
          first | refine DT_ev rfl (EA_load_ptr rfl rfl rfl hesZ2 rfl rfl ts35 ta35 (by first | rfl | assumption | simp) (by intro h; cases h)) rfl ?_ | refine DT_ev rfl (EA_load_ptr rfl rfl rfl hesZ rfl rfl ts35 ta35 (by first | rfl | assumption | simp) (by intro h; cases h)) rfl ?_ | refine DT_ev rfl (EA_load_ptr rfl rfl rfl hesY rfl rfl ts35 ta35 (by first | rfl | assumption | simp) (by intro h; cases h)) rfl ?_ | refine DT_ev rfl (EA_load_ptr rfl rfl rfl hesX rfl rfl ts35 ta35 (by first | rfl | assumption | simp) (by intro h; cases h)) rfl ?_ | refine DT_ev rfl (EA_load_ptr rfl rfl rfl rfl rfl rfl ts35 ta35 (by first | rfl | assumption | simp) (by intro h; cases h)) rfl ?_ | refine DT_ev rfl (EA_load_rp rfl rfl rfl ts35 ta35 (by first | rfl | assumption | simp) (by intro h; cases h)) rfl ?_
          first | refine DT_ev rfl (EA_ix_sl rfl rfl te24 ts35 (by omega) (by assumption)) rfl ?_ | refine DT_ev rfl (EA_ix_ref rfl rfl te24 ts35 (by omega) (by first | omega | (simp; omega))) rfl ?_
          first | refine DT_store rfl rfl (nf rfl) rfl rfl rfl rfl rfl rfl (by first | rfl | assumption | simp [Lay.len, Lay.lens]) ts35 rfl rfl ?_ | refine DT_store rfl rfl (nf rfl) rfl rfl rfl hesX rfl rfl (by first | rfl | assumption | simp [Lay.len, Lay.lens]) ts35 rfl rfl ?_ | refine DT_store rfl rfl (nf rfl) rfl rfl rfl hesY rfl rfl (by first | rfl | assumption | simp [Lay.len, Lay.lens]) ts35 rfl rfl ?_ | refine DT_store rfl rfl (nf rfl) rfl rfl rfl hesZ rfl rfl (by first | rfl | assumption | simp [Lay.len, Lay.lens]) ts35 rfl rfl ?_ | refine DT_store rfl rfl (nf rfl) rfl rfl rfl hesZ2 rfl rfl (by first | rfl | assumption | simp [Lay.len, Lay.lens]) ts35 rfl rfl ?_
          first | refine DT_ev rfl (EA_ix_sl rfl rfl te24 ts35 (by omega) (by assumption)) rfl ?_ | refine DT_ev rfl (EA_ix_ref rfl rfl te24 ts35 (by omega) (by first | omega | (simp; omega))) rfl ?_
          first | refine DT_store rfl rfl (nf rfl) rfl rfl rfl rfl rfl rfl (by first | rfl | assumption | simp [Lay.len, Lay.lens]) ts35 rfl rfl ?_ | refine DT_store rfl rfl (nf rfl) rfl rfl rfl hesX rfl rfl (by first | rfl | assumption | simp [Lay.len, Lay.lens]) ts35 rfl rfl ?_ | refine DT_store rfl rfl (nf rfl) rfl rfl rfl hesY rfl rfl (by first | rfl | assumption | simp [Lay.len, Lay.lens]) ts35 rfl rfl ?_ | refine DT_store rfl rfl (nf rfl) rfl rfl rfl hesZ rfl rfl (by first | rfl | assumption | simp [Lay.len, Lay.lens]) ts35 rfl rfl ?_ | refine DT_store rfl rfl (nf rfl) rfl rfl rfl hesZ2 rfl rfl (by first | rfl | assumption | simp [Lay.len, Lay.lens]) ts35 rfl rfl ?_
          refine DTi.nil ?_
          refine hK28 _ _ _ ?_
          refine AC_region ?_
          refine AL_ev (Ev_move) rfl ?_
          first | refine AL_ev (Ev_sub rfl rfl _ (wrap_id (by first | omega | (simp; omega)) (by first | omega | (simp; omega)))) rfl ?_ | refine AL_ev (Ev_sub rfl rfl _ rfl) rfl ?_
          refine AL_ev (Ev_assign) rfl ?_
          refine AL_nil ?_
          refine closeS (t - 1, (cur2.set (pre.length + t) z).set (pre.length + t - 1) y) [some 0] rfl rfl (by show t - 1 < t; omega) ?_ (BxTo_some rfl rfl rfl rfl (by first | exact VwL_app (by rw [show 0 + ((pre.length : Int) + ((t : Nat) : Int)).toNat = pre.length + t by omega, show 0 + ((pre.length : Int) + ((t : Nat) : Int) - 1).toNat = pre.length + t - 1 by omega]; exact dsP_set2 _ _ _ _ _) | exact VwL_dd (by rw [show 0 + ((pre.length : Int) + ((t : Nat) : Int)).toNat = pre.length + t by omega, show 0 + ((pre.length : Int) + ((t : Nat) : Int) - 1).toNat = pre.length + t - 1 by omega]; exact dsP_set2 _ _ _ _ _) | exact VwL_of (by rw [show 0 + ((pre.length : Int) + ((t : Nat) : Int)).toNat = pre.length + t by omega, show 0 + ((pre.length : Int) + ((t : Nat) : Int) - 1).toNat = pre.length + t - 1 by omega]; exact dsP_set2 _ _ _ _ _)) BxTo_nil) (SlTo_cons (by first | exact .rd .d | exact Vw_int (by first | rfl | assumption | omega | (simp; done) | (simp; omega)) | exact Vw_c (by first | rfl | (simp; done) | simp_all) | exact .any) (SlTo_cons (Vw_refe rfl (by first | rfl | (simp [dsP_length]; done))) (SlTo_cons (by first | exact .rd .d | exact .any) SlTo_nil)))
          refine ⟨by omega, by omega, ?_⟩
          have hdz : A.drop (t - 1) = z :: A.drop t := by have := drop_get hz; rw [show t - 1 + 1 = t by omega] at this; exact this
          rw [hform, swapR_at _ _ _ _ _ (by simp; omega) (by simp; omega), hdz]
          simp
        · skip
          have htl : t = lo := by have := of_decide_eq_false hc8; omega
          subst htl
          refine AC_exit ?_
          refine hK24 _ _ _ ?_
          refine AC_ret ?_
          exact rete_ok (cur2) (⟨A.take t ++ y :: A.drop t, by rw [hcur2]; simp, by
            have := List.perm_middle (a := y) (l₁ := A.take t) (l₂ := A.drop t)
            exact this.trans (by simpa using (List.perm_append_singleton y A).symm), srt_mid hpy.rt (fun p hp => (hel p (List.mem_append_left _ (by simpa using hp))).rt) (by simpa using sA) (fun s h => by obtain ⟨h0, h1⟩ := last_take (by omega) h; have h3 := hlo s h0 h1; have h2 := cmp_neg y.1 hpy.rt s.1 (hel s (List.mem_append_left _ (List.mem_of_getElem? h1))).rt; omega) (fun s h => by rw [List.head?_drop] at h; have h1 := hhi s h; omega)⟩) [0] (CExt.refl _) rfl rfl rfl (BxF_stay rfl rfl rfl rfl rfl (VxL_d _) rfl BxF_nil) (Nat.le_refl _)
    · skip
      have hA1 : A.length ≠ 1 := by have := of_decide_eq_false hc1; omega
      have hB1 : B.length ≠ 1 := by have := of_decide_eq_false hc5; omega
      obtain ⟨M, hM, hM2⟩ : ∃ M : Nat, ((pre.length : Int) + ((pre.length : Int) + (A.length : Int) + (B.length : Int))) / 2 = (pre.length : Int) + ((M : Nat) : Int) ∧ M = (A.length + B.length) / 2 := ⟨(A.length + B.length) / 2, by omega, rfl⟩
      refine AC_skip ?_
      refine hK15 _ _ _ ?_
      refine AC_seq fun K29 hK29 => ?_
      refine AC_region ?_
      refine AL_ev (Ev_move) rfl ?_
      refine AL_ev (Ev_move) rfl ?_
      first | refine AL_ev (Ev_add rfl rfl _ (wrap_id (by first | omega | (simp; omega)) (by first | omega | (simp; omega)))) rfl ?_ | refine AL_ev (Ev_add rfl rfl _ rfl) rfl ?_
      refine AL_ev (Ev_conv_int tund3 tint93 rfl _ (wrapU (by first | omega | (simp; omega)) (by first | omega | (simp; omega)))) rfl ?_
      refine AL_ev (Ev_shr rfl rfl (by decide)) rfl ?_
      refine AL_ev (Ev_conv_int tund93 tint3 rfl _ (halfU (by first | omega | (simp; omega)) (by first | omega | (simp; omega)))) rfl ?_
      refine AL_ev (Ev_assign) rfl ?_
      refine AL_nil ?_
      refine hK29 _ _ _ ?_
      refine AC_seq fun K30 hK30 => ?_
      refine AC_region ?_
      refine AL_ev (Ev_move) rfl ?_
      refine AL_ev (Ev_move) rfl ?_
      first | refine AL_ev (Ev_add rfl rfl _ (wrap_id (by first | omega | (simp; omega)) (by first | omega | (simp; omega)))) rfl ?_ | refine AL_ev (Ev_add rfl rfl _ rfl) rfl ?_
      refine AL_ev (Ev_assign) rfl ?_
      refine AL_nil ?_
      refine hK30 _ _ _ ?_
      refine AC_seq fun K31 hK31 => ?_
      refine AC_region ?_
      refine AL_ev (Ev_assign) rfl ?_
      refine AL_ev (Ev_assign) rfl ?_
      refine AL_nil ?_
      refine hK31 _ _ _ ?_
      refine AC_seqJ (fun f L => (True) ∧ f = frOf [(1, i64 (pre.length : Int)), (2, i64 ((pre.length : Int) + (A.length : Int))), (3, i64 ((pre.length : Int) + (A.length : Int) + (B.length : Int))), (4, .d (.fn 43 [])), (18, i64 ((pre.length : Int) + ((M : Nat) : Int))), (19, i64 (((pre.length : Int) + ((M : Nat) : Int)) + ((pre.length : Int) + (A.length : Int)))), (20, i64 ((pre.length : Int) + ((M - B.length : Nat) : Int))), (21, i64 ((pre.length : Int) + ((min A.length M : Nat) : Int))), (0, .ref LT 0 0 (dsP (pre ++ A ++ B ++ post)).length)] ∧ L = [some ⟨⟨35, some (o 0)⟩, LT, (dsP (pre ++ A ++ B ++ post)).map V.d⟩]) ?_ ?_
      · skip
        refine AC_seq fun K33 hK33 => ?_
        refine AC_region ?_
        refine AL_ev (Ev_move) rfl ?_
        refine AL_ev (Ev_move) rfl ?_
        refine AL_ev (Ev_gtr rfl rfl) rfl ?_
        refine AL_nil ?_
        refine hK33 _ _ _ ?_
        refine AC_cond rfl (fun hc9 => ?_) (fun hc9 => ?_)
        · skip
          have h9 := of_decide_eq_true hc9
          refine AC_seq fun K34 hK34 => ?_
          refine AC_region ?_
          refine AL_ev (Ev_move) rfl ?_
          refine AL_ev (Ev_move) rfl ?_
          first | refine AL_ev (Ev_sub rfl rfl _ (wrap_id (by first | omega | (simp; omega)) (by first | omega | (simp; omega)))) rfl ?_ | refine AL_ev (Ev_sub rfl rfl _ rfl) rfl ?_
          refine AL_ev (Ev_assign) rfl ?_
          refine AL_nil ?_
          refine hK34 _ _ _ ?_
          refine AC_region ?_
          refine AL_ev (Ev_move) rfl ?_
          refine AL_ev (Ev_assign) rfl ?_
          refine AL_nil ?_
          refine joinF [some 0] rfl rfl ?_ (BxTo_some rfl rfl rfl rfl (by first | exact .nil | exact VwL_app (by first | rfl | simp [ints, strs] | simp_all [ints, strs]) | exact VwL_dd (by first | rfl | simp [ints, strs] | simp_all [ints, strs])) BxTo_nil) (SlTo_cons (by first | exact .rd .d | exact Vw_int (by first | rfl | assumption | omega | (simp; done) | (simp; omega) | (simp_all []; done) | (simp_all []; omega)) | exact Vw_c (by first | rfl | (simp; done) | (simp_all []; done)) | exact .any) (SlTo_cons (by first | exact .rd .d | exact Vw_int (by first | rfl | assumption | omega | (simp; done) | (simp; omega) | (simp_all []; done) | (simp_all []; omega)) | exact Vw_c (by first | rfl | (simp; done) | (simp_all []; done)) | exact .any) (SlTo_cons (by first | exact .rd .d | exact Vw_int (by first | rfl | assumption | omega | (simp; done) | (simp; omega) | (simp_all []; done) | (simp_all []; omega)) | exact Vw_c (by first | rfl | (simp; done) | (simp_all []; done)) | exact .any) (SlTo_cons (by first | exact .rd .d | exact Vw_int (by first | rfl | assumption | omega | (simp; done) | (simp; omega) | (simp_all []; done) | (simp_all []; omega)) | exact Vw_c (by first | rfl | (simp; done) | (simp_all []; done)) | exact .any) (SlTo_cons (by first | exact .rd .d | exact Vw_int (by first | rfl | assumption | omega | (simp; done) | (simp; omega) | (simp_all []; done) | (simp_all []; omega)) | exact Vw_c (by first | rfl | (simp; done) | (simp_all []; done)) | exact .any) (SlTo_cons (by first | exact .rd .d | exact Vw_int (by first | rfl | assumption | omega | (simp; done) | (simp; omega) | (simp_all []; done) | (simp_all []; omega)) | exact Vw_c (by first | rfl | (simp; done) | (simp_all []; done)) | exact .any) (SlTo_cons (by first | exact .rd .d | exact Vw_int (by first | rfl | assumption | omega | (simp; done) | (simp; omega) | (simp_all []; done) | (simp_all []; omega)) | exact Vw_c (by first | rfl | (simp; done) | (simp_all []; done)) | exact .any) (SlTo_cons (by first | exact .rd .d | exact Vw_int (by first | rfl | assumption | omega | (simp; done) | (simp; omega) | (simp_all []; done) | (simp_all []; omega)) | exact Vw_c (by first | rfl | (simp; done) | (simp_all []; done)) | exact .any) (SlTo_cons (Vw_refe rfl (by first | rfl | assumption | simp | (simp; omega) | simp_all)) SlTo_nil)))))))))
          trivial
        · skip
          have h9 := of_decide_eq_false hc9
          refine AC_seq fun K35 hK35 => ?_
          refine AC_region ?_
          refine AL_ev (Ev_move) rfl ?_
          refine AL_ev (Ev_assign) rfl ?_
          refine AL_nil ?_
          refine hK35 _ _ _ ?_
          refine AC_region ?_
          refine AL_ev (Ev_move) rfl ?_
          refine AL_ev (Ev_assign) rfl ?_
          refine AL_nil ?_
          refine joinF [some 0] rfl rfl ?_ (BxTo_some rfl rfl rfl rfl (by first | exact .nil | exact VwL_app (by first | rfl | simp [ints, strs] | simp_all [ints, strs]) | exact VwL_dd (by first | rfl | simp [ints, strs] | simp_all [ints, strs])) BxTo_nil) (SlTo_cons (by first | exact .rd .d | exact Vw_int (by first | rfl | assumption | omega | (simp; done) | (simp; omega) | (simp_all []; done) | (simp_all []; omega)) | exact Vw_c (by first | rfl | (simp; done) | (simp_all []; done)) | exact .any) (SlTo_cons (by first | exact .rd .d | exact Vw_int (by first | rfl | assumption | omega | (simp; done) | (simp; omega) | (simp_all []; done) | (simp_all []; omega)) | exact Vw_c (by first | rfl | (simp; done) | (simp_all []; done)) | exact .any) (SlTo_cons (by first | exact .rd .d | exact Vw_int (by first | rfl | assumption | omega | (simp; done) | (simp; omega) | (simp_all []; done) | (simp_all []; omega)) | exact Vw_c (by first | rfl | (simp; done) | (simp_all []; done)) | exact .any) (SlTo_cons (by first | exact .rd .d | exact Vw_int (by first | rfl | assumption | omega | (simp; done) | (simp; omega) | (simp_all []; done) | (simp_all []; omega)) | exact Vw_c (by first | rfl | (simp; done) | (simp_all []; done)) | exact .any) (SlTo_cons (by first | exact .rd .d | exact Vw_int (by first | rfl | assumption | omega | (simp; done) | (simp; omega) | (simp_all []; done) | (simp_all []; omega)) | exact Vw_c (by first | rfl | (simp; done) | (simp_all []; done)) | exact .any) (SlTo_cons (by first | exact .rd .d | exact Vw_int (by first | rfl | assumption | omega | (simp; done) | (simp; omega) | (simp_all []; done) | (simp_all []; omega)) | exact Vw_c (by first | rfl | (simp; done) | (simp_all []; done)) | exact .any) (SlTo_cons (by first | exact .rd .d | exact Vw_int (by first | rfl | assumption | omega | (simp; done) | (simp; omega) | (simp_all []; done) | (simp_all []; omega)) | exact Vw_c (by first | rfl | (simp; done) | (simp_all []; done)) | exact .any) (SlTo_cons (by first | exact .rd .d | exact Vw_int (by first | rfl | assumption | omega | (simp; done) | (simp; omega) | (simp_all []; done) | (simp_all []; omega)) | exact Vw_c (by first | rfl | (simp; done) | (simp_all []; done)) | exact .any) (SlTo_cons (Vw_refe rfl (by first | rfl | assumption | simp | (simp; omega) | simp_all)) SlTo_nil)))))))))
          trivial
      · skip
        rintro f L ⟨hF, rfl, rfl⟩
        refine AC_seq fun K36 hK36 => ?_
        refine AC_region ?_
        refine AL_ev (Ev_move) rfl ?_
        first | refine AL_ev (Ev_sub rfl rfl _ (wrap_id (by first | omega | (simp; omega)) (by first | omega | (simp; omega)))) rfl ?_ | refine AL_ev (Ev_sub rfl rfl _ rfl) rfl ?_
        refine AL_ev (Ev_assign) rfl ?_
        refine AL_nil ?_
        refine hK36 _ _ _ ?_
        refine AC_seq fun K37 hK37 => ?_
        refine AC_block ?_
        refine AC_loopS [1, 2, 3, 4, 18, 19, 22] (Nat × Nat × List TD) (fun ⟨lo, hi, cur⟩ => [(20, i64 ((pre.length : Int) + ((lo : Nat) : Int))), (21, i64 ((pre.length : Int) + ((hi : Nat) : Int))), (0, .ref LT 0 0 (dsP cur).length)]) (fun ⟨lo, hi, cur⟩ => [some ⟨⟨35, some (o 0)⟩, LT, (dsP cur).map V.d⟩]) (fun st => st.2.1 - st.1) (fun ⟨lo, hi, cur⟩ => (cur = pre ++ A ++ B ++ post ∧ M - B.length ≤ lo ∧ lo ≤ hi ∧ hi ≤ min A.length M ∧ (∀ x y, M - B.length < lo → A[lo - 1]? = some x → B[M - lo]? = some y → 0 ≤ cmpT y.1 x.1) ∧ (∀ x y, hi < min A.length M → A[hi]? = some x → B[M - 1 - hi]? = some y → cmpT y.1 x.1 < 0))) ((M - B.length, min A.length M, pre ++ A ++ B ++ post)) ?_ ?_ ?_
        · skip
          exact enterS [some 0] rfl rfl (BxTo_some rfl rfl rfl rfl (by first | exact .nil | exact VwL_dd (by first | rfl | simp) | exact VwL_app (by first | rfl | simp) | exact VwL_of (by first | rfl | simp)) BxTo_nil) (SlTo_cons (by first | exact .rd .d | exact Vw_int (by first | rfl | assumption | omega | (simp; done) | (simp; omega)) | exact Vw_c (by first | rfl | (simp; done) | simp_all) | exact .any) (SlTo_cons (by first | exact .rd .d | exact Vw_int (by first | rfl | assumption | omega | (simp; done) | (simp; omega)) | exact Vw_c (by first | rfl | (simp; done) | simp_all) | exact .any) (SlTo_cons (Vw_refe rfl (by first | rfl | simp)) (SlTo_cons (by first | exact .rd .d | exact .any) (SlTo_cons (by first | exact .rd .d | exact .any) (SlTo_cons (by first | exact .rd .d | exact .any) (SlTo_cons (by first | exact .rd .d | exact .any) (SlTo_cons (by first | exact .rd .d | exact .any) (SlTo_cons (by first | exact .rd .d | exact .any) (SlTo_cons (by first | exact .rd .d | exact .any) SlTo_nil))))))))))
        · skip
          exact ⟨rfl, Nat.le_refl _, by omega, Nat.le_refl _, fun x y h => absurd h (by omega), fun x y h => absurd h (by omega)⟩
        rintro ⟨lo, hi, cur⟩ ⟨hcur, hlM, hlh, hhB, hlo, hhi⟩
        show AC _ _ _ _ _ (FS [1, 2, 3, 4, 18, 19, 22] _ [(20, i64 ((pre.length : Int) + ((lo : Nat) : Int))), (21, i64 ((pre.length : Int) + ((hi : Nat) : Int))), (0, .ref LT 0 0 (dsP cur).length)]) [some ⟨⟨35, some (o 0)⟩, LT, (dsP cur).map V.d⟩]
        refine AC_seq fun K38 hK38 => ?_
        refine AC_seq fun K39 hK39 => ?_
        refine AC_region ?_
        refine AL_ev (Ev_move) rfl ?_
        refine AL_ev (Ev_move) rfl ?_
        refine AL_ev (Ev_lss rfl rfl) rfl ?_
        refine AL_nil ?_
        refine hK39 _ _ _ ?_
        refine AC_cond rfl (fun hc10 => ?_) (fun hc10 => ?_)
        · skip
          have hlt : lo < hi := by have := of_decide_eq_true hc10; omega
          obtain ⟨q, hq, hq1, hq2⟩ : ∃ q : Nat, (((((pre.length : Int) + ((lo : Nat) : Int)) + ((pre.length : Int) + ((hi : Nat) : Int))) / 2)) = ((pre.length : Int) + ((q : Nat) : Int)) ∧ lo ≤ q ∧ q < hi := ⟨(lo + hi) / 2, by omega, by omega, by omega⟩
          obtain ⟨x, hx⟩ : ∃ x, A[q]? = some x := ⟨_, List.getElem?_eq_getElem (by omega)⟩
          obtain ⟨y, hy⟩ : ∃ y, B[M - 1 - q]? = some y := ⟨_, List.getElem?_eq_getElem (by omega)⟩
          have hpx : PL pool x := hel x (List.mem_append_left _ (List.mem_of_getElem? hx))
          have hpy : PL pool y := hel y (List.mem_append_right _ (List.mem_of_getElem? hy))
          have hxl : (V.d x.2).len? = Lay.len LT := hpx.len
          have hxa : (V.d x.2).isAgg = true := hpx.ag
          have hyl : (V.d y.2).len? = Lay.len LT := hpy.len
          have hya : (V.d y.2).isAgg = true := hpy.ag
          have hcl : cur.length = pre.length + A.length + B.length + post.length := by rw [hcur]; exact hll
          have hesX : ((dsP cur).map V.d)[0 + (((((pre.length : Int) + ((lo : Nat) : Int)) + ((pre.length : Int) + ((hi : Nat) : Int))) / 2)).toNat]? = some (.d x.2) := by rw [hq, show 0 + (((pre.length : Int) + ((q : Nat) : Int))).toNat = pre.length + q by omega]; exact dsP_get (by rw [hcur, List.append_assoc, List.append_assoc, List.getElem?_append_right (by omega), List.getElem?_append_left (by omega)]; simpa [show pre.length + q - pre.length = q by omega] using hx)
          have hesY : ((dsP cur).map V.d)[0 + (((pre.length : Int) + ((M : Nat) : Int) + ((pre.length : Int) + (A.length : Int)) - 1) - (((((pre.length : Int) + ((lo : Nat) : Int)) + ((pre.length : Int) + ((hi : Nat) : Int))) / 2))).toNat]? = some (.d y.2) := by rw [hq, show 0 + (((pre.length : Int) + ((M : Nat) : Int) + ((pre.length : Int) + (A.length : Int)) - 1) - ((pre.length : Int) + ((q : Nat) : Int))).toNat = (pre ++ A).length + (M - 1 - q) by simp; omega]; exact dsP_get (by rw [hcur, List.append_assoc (pre ++ A), List.getElem?_append_right (by omega), List.getElem?_append_left (by omega)]; simpa using hy)
          refine AC_skip ?_
          refine hK38 _ _ _ ?_
          refine AC_block ?_
          refine AC_seq fun K40 hK40 => ?_
          refine AC_region ?_
          refine AL_ev (Ev_move) rfl ?_
          refine AL_ev (Ev_move) rfl ?_
          first | refine AL_ev (Ev_add rfl rfl _ (wrap_id (by first | omega | (simp; omega)) (by first | omega | (simp; omega)))) rfl ?_ | refine AL_ev (Ev_add rfl rfl _ rfl) rfl ?_
          refine AL_ev (Ev_conv_int tund3 tint93 rfl _ (wrapU (by first | omega | (simp; omega)) (by first | omega | (simp; omega)))) rfl ?_
          refine AL_ev (Ev_shr rfl rfl (by decide)) rfl ?_
          refine AL_ev (Ev_conv_int tund93 tint3 rfl _ (halfU (by first | omega | (simp; omega)) (by first | omega | (simp; omega)))) rfl ?_
          refine AL_ev (Ev_assign) rfl ?_
          refine AL_nil ?_
          refine hK40 _ _ _ ?_
          refine AC_seq fun K41 hK41 => ?_
          refine AC_draw hT follows [0, 1, 2, 3, 4, 5, 6, 7, 8, 9, 10, 11, 12, 13] (by kernel_rfl) ?_
          refine DT_ev rfl (EA_move) rfl ?_
          refine DT_ev rfl (EA_move) rfl ?_
          refine DT_ev rfl (EA_move) rfl ?_
          refine DT_ev rfl (EA_move) rfl ?_
          first | refine DT_ev rfl (EA_sub rfl rfl _ (wrap_id (by first | omega | (simp; omega)) (by first | omega | (simp; omega)))) rfl ?_ | refine DT_ev rfl (EA_sub rfl rfl _ rfl) rfl ?_
          first | refine DT_ev rfl (EA_ix_sl rfl rfl te24 ts35 (by omega) (by assumption)) rfl ?_ | refine DT_ev rfl (EA_ix_ref rfl rfl te24 ts35 (by omega) (by first | omega | (simp; omega))) rfl ?_
          first | refine DT_ev rfl (EA_load_ptr rfl rfl rfl hesZ2 rfl rfl ts35 ta35 (by first | rfl | assumption | simp) (by intro h; cases h)) rfl ?_ | refine DT_ev rfl (EA_load_ptr rfl rfl rfl hesZ rfl rfl ts35 ta35 (by first | rfl | assumption | simp) (by intro h; cases h)) rfl ?_ | refine DT_ev rfl (EA_load_ptr rfl rfl rfl hesY rfl rfl ts35 ta35 (by first | rfl | assumption | simp) (by intro h; cases h)) rfl ?_ | refine DT_ev rfl (EA_load_ptr rfl rfl rfl hesX rfl rfl ts35 ta35 (by first | rfl | assumption | simp) (by intro h; cases h)) rfl ?_ | refine DT_ev rfl (EA_load_ptr rfl rfl rfl rfl rfl rfl ts35 ta35 (by first | rfl | assumption | simp) (by intro h; cases h)) rfl ?_ | refine DT_ev rfl (EA_load_rp rfl rfl rfl ts35 ta35 (by first | rfl | assumption | simp) (by intro h; cases h)) rfl ?_
          refine DT_ev rfl (EA_move) rfl ?_
          refine DT_ev rfl (EA_move) rfl ?_
          first | refine DT_ev rfl (EA_ix_sl rfl rfl te24 ts35 (by omega) (by assumption)) rfl ?_ | refine DT_ev rfl (EA_ix_ref rfl rfl te24 ts35 (by omega) (by first | omega | (simp; omega))) rfl ?_
          first | refine DT_ev rfl (EA_load_ptr rfl rfl rfl hesZ2 rfl rfl ts35 ta35 (by first | rfl | assumption | simp) (by intro h; cases h)) rfl ?_ | refine DT_ev rfl (EA_load_ptr rfl rfl rfl hesZ rfl rfl ts35 ta35 (by first | rfl | assumption | simp) (by intro h; cases h)) rfl ?_ | refine DT_ev rfl (EA_load_ptr rfl rfl rfl hesY rfl rfl ts35 ta35 (by first | rfl | assumption | simp) (by intro h; cases h)) rfl ?_ | refine DT_ev rfl (EA_load_ptr rfl rfl rfl hesX rfl rfl ts35 ta35 (by first | rfl | assumption | simp) (by intro h; cases h)) rfl ?_ | refine DT_ev rfl (EA_load_ptr rfl rfl rfl rfl rfl rfl ts35 ta35 (by first | rfl | assumption | simp) (by intro h; cases h)) rfl ?_ | refine DT_ev rfl (EA_load_rp rfl rfl rfl ts35 ta35 (by first | rfl | assumption | simp) (by intro h; cases h)) rfl ?_
          refine DT_ccall hT hP rfl rfl cl43 (c_compare y.1 x.1 rfl) (.cons hpy.v (.cons hpx.v .nil)) rfl (by kernel_rfl) ?_
          refine DT_ev rfl (EA_lss rfl rfl) rfl ?_
          refine DT_ev rfl (EA_not rfl) rfl ?_
          refine DTi.nil ?_
          refine hK41 _ _ _ ?_
          refine AC_cond rfl (fun hc11 => ?_) (fun hc11 => ?_)
          · skip
            refine AC_region ?_
            refine AL_ev (Ev_move) rfl ?_
            first | refine AL_ev (Ev_add rfl rfl _ (wrap_id (by first | omega | (simp; omega)) (by first | omega | (simp; omega)))) rfl ?_ | refine AL_ev (Ev_add rfl rfl _ rfl) rfl ?_
            refine AL_ev (Ev_assign) rfl ?_
            refine AL_nil ?_
            refine closeS (q + 1, hi, cur) [some 0] rfl rfl (by show hi - (q + 1) < hi - lo; omega) ?_ (BxTo_some rfl rfl rfl rfl (by first | exact VwL_app (by first | rfl | simp [ints, strs] | simp [ints, strs, injs_map]) | exact VwL_dd (by first | rfl | simp [ints, strs] | simp [ints, strs, injs_map]) | exact VwL_of (by first | rfl | simp [ints, strs] | simp [ints, strs, injs_map])) BxTo_nil) (SlTo_cons (by first | exact .rd .d | exact Vw_int (by first | rfl | assumption | omega | (simp; done) | (simp; omega)) | exact Vw_c (by first | rfl | (simp; done) | simp_all) | exact .any) (SlTo_cons (by first | exact .rd .d | exact Vw_int (by first | rfl | assumption | omega | (simp; done) | (simp; omega)) | exact Vw_c (by first | rfl | (simp; done) | simp_all) | exact .any) (SlTo_cons (Vw_refe rfl (by first | rfl | simp | (simp; omega))) (SlTo_cons (by first | exact .rd .d | exact .any) (SlTo_cons (by first | exact .rd .d | exact .any) (SlTo_cons (by first | exact .rd .d | exact .any) (SlTo_cons (by first | exact .rd .d | exact .any) (SlTo_cons (by first | exact .rd .d | exact .any) (SlTo_cons (by first | exact .rd .d | exact .any) (SlTo_cons (by first | exact .rd .d | exact .any) SlTo_nil))))))))))
            exact ⟨hcur, by omega, by omega, hhB, fun x2 y2 _ h h2 => by rw [Nat.add_sub_cancel, hx] at h; rw [show M - (q + 1) = M - 1 - q by omega, hy] at h2; injection h with h; injection h2 with h2; subst h; subst h2; have h9 : ¬ cmpT y.1 x.1 < 0 := (by simpa using hc11); omega, hhi⟩
          · skip
            refine AC_region ?_
            refine AL_ev (Ev_move) rfl ?_
            refine AL_ev (Ev_assign) rfl ?_
            refine AL_nil ?_
            refine closeS (lo, q, cur) [some 0] rfl rfl (by show q - lo < hi - lo; omega) ?_ (BxTo_some rfl rfl rfl rfl (by first | exact VwL_app (by first | rfl | simp [ints, strs] | simp [ints, strs, injs_map]) | exact VwL_dd (by first | rfl | simp [ints, strs] | simp [ints, strs, injs_map]) | exact VwL_of (by first | rfl | simp [ints, strs] | simp [ints, strs, injs_map])) BxTo_nil) (SlTo_cons (by first | exact .rd .d | exact Vw_int (by first | rfl | assumption | omega | (simp; done) | (simp; omega)) | exact Vw_c (by first | rfl | (simp; done) | simp_all) | exact .any) (SlTo_cons (by first | exact .rd .d | exact Vw_int (by first | rfl | assumption | omega | (simp; done) | (simp; omega)) | exact Vw_c (by first | rfl | (simp; done) | simp_all) | exact .any) (SlTo_cons (Vw_refe rfl (by first | rfl | simp | (simp; omega))) (SlTo_cons (by first | exact .rd .d | exact .any) (SlTo_cons (by first | exact .rd .d | exact .any) (SlTo_cons (by first | exact .rd .d | exact .any) (SlTo_cons (by first | exact .rd .d | exact .any) (SlTo_cons (by first | exact .rd .d | exact .any) (SlTo_cons (by first | exact .rd .d | exact .any) (SlTo_cons (by first | exact .rd .d | exact .any) SlTo_nil))))))))))
            exact ⟨hcur, hlM, by omega, by omega, hlo, fun x2 y2 _ h h2 => by rw [hx] at h; rw [hy] at h2; injection h with h; injection h2 with h2; subst h; subst h2; simpa using hc11⟩
        · skip
          have hlh2 : lo = hi := by have := of_decide_eq_false hc10; omega
          subst hlh2
          have hcl : cur.length = pre.length + A.length + B.length + post.length := by rw [hcur]; exact hll
          refine AC_exit ?_
          refine hK37 _ _ _ ?_
          refine AC_seq fun K42 hK42 => ?_
          refine AC_region ?_
          refine AL_ev (Ev_move) rfl ?_
          refine AL_ev (Ev_move) rfl ?_
          first | refine AL_ev (Ev_sub rfl rfl _ (wrap_id (by first | omega | (simp; omega)) (by first | omega | (simp; omega)))) rfl ?_ | refine AL_ev (Ev_sub rfl rfl _ rfl) rfl ?_
          refine AL_ev (Ev_assign) rfl ?_
          refine AL_nil ?_
          refine hK42 _ _ _ ?_
          refine AC_seqJ (fun f L => (True) ∧ f = frOf [(1, i64 (pre.length : Int)), (3, i64 ((pre.length : Int) + (A.length : Int) + (B.length : Int))), (4, .d (.fn 43 [])), (18, i64 ((pre.length : Int) + ((M : Nat) : Int))), (20, i64 ((pre.length : Int) + ((lo : Nat) : Int))), (24, i64 (((pre.length : Int) + ((M : Nat) : Int)) + ((pre.length : Int) + (A.length : Int)) - ((pre.length : Int) + ((lo : Nat) : Int)))), (0, .ref LT 0 0 (dsP (pre ++ A.take lo ++ B.take (M - lo) ++ A.drop lo ++ B.drop (M - lo) ++ post)).length)] ∧ L = [some ⟨⟨35, some (o 0)⟩, LT, (dsP (pre ++ A.take lo ++ B.take (M - lo) ++ A.drop lo ++ B.drop (M - lo) ++ post)).map V.d⟩]) ?_ ?_
          · skip
            refine AC_seq fun K44 hK44 => ?_
            refine AC_region ?_
            refine AL_ev (Ev_move) rfl ?_
            refine AL_ev (Ev_move) rfl ?_
            refine AL_ev (Ev_lss rfl rfl) rfl ?_
            refine AL_ev (Ev_move) rfl ?_
            refine AL_bool 181 rfl (fun hg12 => ?_) (fun hg12 => ?_)
            · skip
              have h12 := of_decide_eq_true hg12
              refine AL_guard_t rfl rfl rfl ?_
              refine AL_ev (Ev_move) rfl ?_
              refine AL_guard_t rfl rfl rfl ?_
              refine AL_ev (Ev_move) rfl ?_
              refine AL_guard_t rfl rfl rfl ?_
              refine AL_ev (Ev_lss rfl rfl) rfl ?_
              refine AL_ev (Ev_pick rfl) rfl ?_
              refine AL_nil ?_
              refine hK44 _ _ _ ?_
              refine AC_cond rfl (fun hc13 => ?_) (fun hc13 => ?_)
              · skip
                have h13 := of_decide_eq_true hc13
                have hfr : dsP cur = dsP (pre ++ A.take lo) ++ dsP (A.drop lo) ++ dsP (B.take (M - lo)) ++ dsP (B.drop (M - lo) ++ post) := by
                  rw [hcur]
                  have e1 := List.take_append_drop lo A
                  have e2 := List.take_append_drop (M - lo) B
                  conv => lhs; rw [← e1, ← e2]
                  simp only [dsP, List.map_append, List.append_assoc]
                have hfl : (dsP (pre ++ A.take lo) ++ dsP (A.drop lo) ++ dsP (B.take (M - lo)) ++ dsP (B.drop (M - lo) ++ post)).length ≤ 1099511627776 := by rw [← hfr, dsP_length]; omega
                have helr : ∀ x ∈ dsP (A.drop lo) ++ dsP (B.take (M - lo)), x.len? = 4 ∧ x.isAgg = true := by
                  intro x hx
                  simp only [dsP, List.mem_append, List.mem_map] at hx
                  rcases hx with ⟨p, hp, rfl⟩ | ⟨p, hp, rfl⟩
                  · have := hel p (List.mem_append_left _ (List.mem_of_mem_drop hp)); exact ⟨this.len, this.ag⟩
                  · have := hel p (List.mem_append_right _ (List.mem_of_mem_take hp)); exact ⟨this.len, this.ag⟩
                refine AC_region ?_
                refine AL_ev (Ev_move) rfl ?_
                refine AL_ev (Ev_move) rfl ?_
                refine AL_ev (Ev_move) rfl ?_
                refine AL_ev (Ev_move) rfl ?_
                refine AL_ev (Ev_move) rfl ?_
                refine AL_hstE hT hP [0] (fun ys => [⟨⟨35, some (o 0)⟩, LT, ys.map V.d⟩]) rfl cl104 (c_rotate pool 43 (dsP (pre ++ A.take lo)) (dsP (A.drop lo)) (dsP (B.take (M - lo))) (dsP (B.drop (M - lo) ++ post)) (by intro e; have := congrArg List.length e; simp only [dsP_length, List.length_drop, List.length_nil] at this; omega) (by intro e; have := congrArg List.length e; simp only [dsP_length, List.length_take, List.length_nil] at this; omega) helr hfl) ?_ rfl rfl rfl ?_ (fun _ _ => rfl) ?_ rfl fun nx hnx => ?_
                · exact .cons (Vx_refe rfl (by rw [hfr])) (.cons (Vx_int (by first | omega | (simp; omega))) (.cons (Vx_int (by first | omega | (simp; omega))) (.cons (Vx_int (by first | omega | (simp; omega))) (.cons .d .nil))))
                · exact BxI_cons rfl rfl rfl rfl rfl (VxL_ds (by rw [hfr])) BxI_nil
                · exact fun _ _ => BxP_keep rfl rfl (VxL_d _) rfl rfl BxP_nil
                have hcd : nx = dsP (pre ++ A.take lo ++ B.take (M - lo) ++ A.drop lo ++ B.drop (M - lo) ++ post) := by
                  rw [show nx = _ from hnx]
                  simp [dsP]
                have hcdl : (dsP cur).length = (dsP (pre ++ A.take lo ++ B.take (M - lo) ++ A.drop lo ++ B.drop (M - lo) ++ post)).length := by rw [← hcd, hfr, show nx = _ from hnx]; simp; omega
                refine AL_nil ?_
                refine joinF [some 0] rfl rfl ?_ (BxTo_some rfl rfl rfl rfl (by first | exact .nil | exact VwL_app (by exact hcd) | exact VwL_dd (by exact hcd)) BxTo_nil) (SlTo_cons (by first | exact .rd .d | exact Vw_int (by first | rfl | assumption | omega | (simp; done) | (simp; omega) | (simp_all []; done) | (simp_all []; omega)) | exact Vw_c (by first | rfl | (simp; done) | (simp_all []; done)) | exact .any) (SlTo_cons (by first | exact .rd .d | exact Vw_int (by first | rfl | assumption | omega | (simp; done) | (simp; omega) | (simp_all []; done) | (simp_all []; omega)) | exact Vw_c (by first | rfl | (simp; done) | (simp_all []; done)) | exact .any) (SlTo_cons (by first | exact .rd .d | exact Vw_int (by first | rfl | assumption | omega | (simp; done) | (simp; omega) | (simp_all []; done) | (simp_all []; omega)) | exact Vw_c (by first | rfl | (simp; done) | (simp_all []; done)) | exact .any) (SlTo_cons (by first | exact .rd .d | exact Vw_int (by first | rfl | assumption | omega | (simp; done) | (simp; omega) | (simp_all []; done) | (simp_all []; omega)) | exact Vw_c (by first | rfl | (simp; done) | (simp_all []; done)) | exact .any) (SlTo_cons (by first | exact .rd .d | exact Vw_int (by first | rfl | assumption | omega | (simp; done) | (simp; omega) | (simp_all []; done) | (simp_all []; omega)) | exact Vw_c (by first | rfl | (simp; done) | (simp_all []; done)) | exact .any) (SlTo_cons (by first | exact .rd .d | exact Vw_int (by first | rfl | assumption | omega | (simp; done) | (simp; omega) | (simp_all []; done) | (simp_all []; omega)) | exact Vw_c (by first | rfl | (simp; done) | (simp_all []; done)) | exact .any) (SlTo_cons (Vw_refe rfl (by first | rfl | assumption | simp | (simp; omega) | simp_all)) SlTo_nil)))))))
                trivial
              · skip
                have h13 := of_decide_eq_false hc13
                have hcd : dsP cur = dsP (pre ++ A.take lo ++ B.take (M - lo) ++ A.drop lo ++ B.drop (M - lo) ++ post) := by
                  rw [hcur]
                  rw [show M - lo = 0 by omega]
                  simp
                have hcdl : (dsP cur).length = (dsP (pre ++ A.take lo ++ B.take (M - lo) ++ A.drop lo ++ B.drop (M - lo) ++ post)).length := by rw [hcd]
                refine AC_skip ?_
                refine joinF [some 0] rfl rfl ?_ (BxTo_some rfl rfl rfl rfl (by first | exact .nil | exact VwL_app (by exact hcd) | exact VwL_dd (by exact hcd)) BxTo_nil) (SlTo_cons (by first | exact .rd .d | exact Vw_int (by first | rfl | assumption | omega | (simp; done) | (simp; omega) | (simp_all []; done) | (simp_all []; omega)) | exact Vw_c (by first | rfl | (simp; done) | (simp_all []; done)) | exact .any) (SlTo_cons (by first | exact .rd .d | exact Vw_int (by first | rfl | assumption | omega | (simp; done) | (simp; omega) | (simp_all []; done) | (simp_all []; omega)) | exact Vw_c (by first | rfl | (simp; done) | (simp_all []; done)) | exact .any) (SlTo_cons (by first | exact .rd .d | exact Vw_int (by first | rfl | assumption | omega | (simp; done) | (simp; omega) | (simp_all []; done) | (simp_all []; omega)) | exact Vw_c (by first | rfl | (simp; done) | (simp_all []; done)) | exact .any) (SlTo_cons (by first | exact .rd .d | exact Vw_int (by first | rfl | assumption | omega | (simp; done) | (simp; omega) | (simp_all []; done) | (simp_all []; omega)) | exact Vw_c (by first | rfl | (simp; done) | (simp_all []; done)) | exact .any) (SlTo_cons (by first | exact .rd .d | exact Vw_int (by first | rfl | assumption | omega | (simp; done) | (simp; omega) | (simp_all []; done) | (simp_all []; omega)) | exact Vw_c (by first | rfl | (simp; done) | (simp_all []; done)) | exact .any) (SlTo_cons (by first | exact .rd .d | exact Vw_int (by first | rfl | assumption | omega | (simp; done) | (simp; omega) | (simp_all []; done) | (simp_all []; omega)) | exact Vw_c (by first | rfl | (simp; done) | (simp_all []; done)) | exact .any) (SlTo_cons (Vw_refe rfl (by first | rfl | assumption | simp | (simp; omega) | simp_all)) SlTo_nil)))))))
                trivial
            · skip
              have h12 := of_decide_eq_false hg12
              have hcd : dsP cur = dsP (pre ++ A.take lo ++ B.take (M - lo) ++ A.drop lo ++ B.drop (M - lo) ++ post) := by
                rw [hcur]
                rw [List.take_of_length_le (show A.length ≤ lo by omega), List.drop_eq_nil_of_le (show A.length ≤ lo by omega)]
                simp
              have hcdl : (dsP cur).length = (dsP (pre ++ A.take lo ++ B.take (M - lo) ++ A.drop lo ++ B.drop (M - lo) ++ post)).length := by rw [hcd]
              refine AL_guard_f rfl rfl rfl rfl ?_
              refine AL_guard_f rfl rfl rfl rfl ?_
              refine AL_guard_f rfl rfl rfl rfl ?_
              refine AL_ev (Ev_pick rfl) rfl ?_
              refine AL_nil ?_
              refine hK44 _ _ _ ?_
              first | refine AC_cond_f rfl ?_ | refine AC_cond_f (congrArg bl hc13) ?_
              refine AC_skip ?_
              refine joinF [some 0] rfl rfl ?_ (BxTo_some rfl rfl rfl rfl (by first | exact .nil | exact VwL_app (by exact hcd) | exact VwL_dd (by exact hcd)) BxTo_nil) (SlTo_cons (by first | exact .rd .d | exact Vw_int (by first | rfl | assumption | omega | (simp; done) | (simp; omega) | (simp_all []; done) | (simp_all []; omega)) | exact Vw_c (by first | rfl | (simp; done) | (simp_all []; done)) | exact .any) (SlTo_cons (by first | exact .rd .d | exact Vw_int (by first | rfl | assumption | omega | (simp; done) | (simp; omega) | (simp_all []; done) | (simp_all []; omega)) | exact Vw_c (by first | rfl | (simp; done) | (simp_all []; done)) | exact .any) (SlTo_cons (by first | exact .rd .d | exact Vw_int (by first | rfl | assumption | omega | (simp; done) | (simp; omega) | (simp_all []; done) | (simp_all []; omega)) | exact Vw_c (by first | rfl | (simp; done) | (simp_all []; done)) | exact .any) (SlTo_cons (by first | exact .rd .d | exact Vw_int (by first | rfl | assumption | omega | (simp; done) | (simp; omega) | (simp_all []; done) | (simp_all []; omega)) | exact Vw_c (by first | rfl | (simp; done) | (simp_all []; done)) | exact .any) (SlTo_cons (by first | exact .rd .d | exact Vw_int (by first | rfl | assumption | omega | (simp; done) | (simp; omega) | (simp_all []; done) | (simp_all []; omega)) | exact Vw_c (by first | rfl | (simp; done) | (simp_all []; done)) | exact .any) (SlTo_cons (by first | exact .rd .d | exact Vw_int (by first | rfl | assumption | omega | (simp; done) | (simp; omega) | (simp_all []; done) | (simp_all []; omega)) | exact Vw_c (by first | rfl | (simp; done) | (simp_all []; done)) | exact .any) (SlTo_cons (Vw_refe rfl (by first | rfl | assumption | simp | (simp; omega) | simp_all)) SlTo_nil)))))))
              trivial
          · skip
            rintro f L ⟨hF, rfl, rfl⟩
            refine AC_seqJ (fun f L => ∃ C1 : List TD, (C1.Perm (A.take lo ++ B.take (M - lo)) ∧ SrtP C1) ∧ f = frOf [(3, i64 ((pre.length : Int) + (A.length : Int) + (B.length : Int))), (4, .d (.fn 43 [])), (18, i64 ((pre.length : Int) + ((M : Nat) : Int))), (24, i64 (((pre.length : Int) + ((M : Nat) : Int)) + ((pre.length : Int) + (A.length : Int)) - ((pre.length : Int) + ((lo : Nat) : Int)))), (0, .ref LT 0 0 (dsP (pre ++ C1 ++ A.drop lo ++ B.drop (M - lo) ++ post)).length)] ∧ L = [some ⟨⟨35, some (o 0)⟩, LT, (dsP (pre ++ C1 ++ A.drop lo ++ B.drop (M - lo) ++ post)).map V.d⟩]) ?_ ?_
            · skip
              refine AC_seq fun K46 hK46 => ?_
              refine AC_region ?_
              refine AL_ev (Ev_move) rfl ?_
              refine AL_ev (Ev_move) rfl ?_
              refine AL_ev (Ev_lss rfl rfl) rfl ?_
              refine AL_ev (Ev_move) rfl ?_
              refine AL_bool 195 rfl (fun hg14 => ?_) (fun hg14 => ?_)
              · skip
                have h14 := of_decide_eq_true hg14
                refine AL_guard_t rfl rfl rfl ?_
                refine AL_ev (Ev_move) rfl ?_
                refine AL_guard_t rfl rfl rfl ?_
                refine AL_ev (Ev_move) rfl ?_
                refine AL_guard_t rfl rfl rfl ?_
                refine AL_ev (Ev_lss rfl rfl) rfl ?_
                refine AL_ev (Ev_pick rfl) rfl ?_
                refine AL_nil ?_
                refine hK46 _ _ _ ?_
                refine AC_cond rfl (fun hc15 => ?_) (fun hc15 => ?_)
                · skip
                  have h15 := of_decide_eq_true hc15
                  have q1 : (A.take lo).length + (B.take (M - lo)).length = M := by first | (simp; done) | (simp; omega)
                  have q2 : A.take lo ≠ [] := by intro e; have := congrArg List.length e; simp only [List.length_take, List.length_drop, List.length_nil] at this; omega
                  have q3 : B.take (M - lo) ≠ [] := by intro e; have := congrArg List.length e; simp only [List.length_take, List.length_drop, List.length_nil] at this; omega
                  have q4 : SrtP (A.take lo) := SrtP.take sA _
                  have q5 : SrtP (B.take (M - lo)) := SrtP.take sB _
                  have q6 : ∀ p ∈ A.take lo ++ B.take (M - lo), PL pool p := fun p hp => hel p (by
                    rcases List.mem_append.1 hp with h | h
                    · exact List.mem_append_left _ (List.mem_of_mem_take h)
                    · exact List.mem_append_right _ (List.mem_of_mem_take h))
                  have hf1 : (pre ++ A.take lo ++ B.take (M - lo) ++ A.drop lo ++ B.drop (M - lo) ++ post) = pre ++ A.take lo ++ B.take (M - lo) ++ (A.drop lo ++ B.drop (M - lo) ++ post) := by simp
                  have q7 : (pre ++ A.take lo ++ B.take (M - lo) ++ (A.drop lo ++ B.drop (M - lo) ++ post)).length ≤ 1099511627776 := by simp; omega
                  refine AC_region ?_
                  refine AL_ev (Ev_move) rfl ?_
                  refine AL_ev (Ev_move) rfl ?_
                  refine AL_ev (Ev_move) rfl ?_
                  refine AL_ev (Ev_move) rfl ?_
                  refine AL_ev (Ev_move) rfl ?_
                  refine AL_hstE hT hP [0] (fun ys => [⟨⟨35, some (o 0)⟩, LT, (dsP ys).map V.d⟩]) rfl cl95 (ih M (by omega) pre (A.take lo) (B.take (M - lo)) (A.drop lo ++ B.drop (M - lo) ++ post) q1 q2 q3 q4 q5 q6 q7) ?_ rfl rfl rfl ?_ (fun _ _ => rfl) ?_ rfl fun nx hnx => ?_
                  · exact .cons (Vx_refe rfl (by rw [hf1])) (.cons (Vx_int (by first | omega | (simp; omega))) (.cons (Vx_int (by first | omega | (simp; omega))) (.cons (Vx_int (by first | omega | (simp; omega))) (.cons .d .nil))))
                  · exact BxI_cons rfl rfl rfl rfl rfl (VxL_ds (by rw [hf1])) BxI_nil
                  · exact fun _ _ => BxP_keep rfl rfl (VxL_d _) rfl rfl BxP_nil
                  obtain ⟨C1, rfl, hC1, sC1⟩ := hnx
                  have hC1l : C1.length = M := by rw [hC1.length_eq]; simp; omega
                  refine AL_nil ?_
                  refine joinFE (C1) [some 0] rfl rfl ?_ (BxTo_some rfl rfl rfl rfl (by first | exact .nil | exact VwL_app (by simp [dsP]) | exact VwL_dd (by simp [dsP])) BxTo_nil) (SlTo_cons (by first | exact .rd .d | exact Vw_int (by first | rfl | assumption | omega | (simp; done) | (simp; omega) | (simp_all []; done) | (simp_all []; omega)) | exact Vw_c (by first | rfl | (simp; done) | (simp_all []; done)) | exact .any) (SlTo_cons (by first | exact .rd .d | exact Vw_int (by first | rfl | assumption | omega | (simp; done) | (simp; omega) | (simp_all []; done) | (simp_all []; omega)) | exact Vw_c (by first | rfl | (simp; done) | (simp_all []; done)) | exact .any) (SlTo_cons (by first | exact .rd .d | exact Vw_int (by first | rfl | assumption | omega | (simp; done) | (simp; omega) | (simp_all []; done) | (simp_all []; omega)) | exact Vw_c (by first | rfl | (simp; done) | (simp_all []; done)) | exact .any) (SlTo_cons (by first | exact .rd .d | exact Vw_int (by first | rfl | assumption | omega | (simp; done) | (simp; omega) | (simp_all []; done) | (simp_all []; omega)) | exact Vw_c (by first | rfl | (simp; done) | (simp_all []; done)) | exact .any) (SlTo_cons (Vw_refe rfl (by first | rfl | (simp; omega) | (simp; done))) SlTo_nil)))))
                  exact ⟨hC1, sC1⟩
                · skip
                  have h15 := of_decide_eq_false hc15
                  have s1 : SrtP (A.take lo ++ B.take (M - lo)) := by
                    rw [show M - lo = 0 by omega]
                    simpa using SrtP.take sA _
                  refine AC_skip ?_
                  refine joinFE (A.take lo ++ B.take (M - lo)) [some 0] rfl rfl ?_ (BxTo_some rfl rfl rfl rfl (by first | exact .nil | exact VwL_app (by simp [dsP]) | exact VwL_dd (by simp [dsP])) BxTo_nil) (SlTo_cons (by first | exact .rd .d | exact Vw_int (by first | rfl | assumption | omega | (simp; done) | (simp; omega) | (simp_all []; done) | (simp_all []; omega)) | exact Vw_c (by first | rfl | (simp; done) | (simp_all []; done)) | exact .any) (SlTo_cons (by first | exact .rd .d | exact Vw_int (by first | rfl | assumption | omega | (simp; done) | (simp; omega) | (simp_all []; done) | (simp_all []; omega)) | exact Vw_c (by first | rfl | (simp; done) | (simp_all []; done)) | exact .any) (SlTo_cons (by first | exact .rd .d | exact Vw_int (by first | rfl | assumption | omega | (simp; done) | (simp; omega) | (simp_all []; done) | (simp_all []; omega)) | exact Vw_c (by first | rfl | (simp; done) | (simp_all []; done)) | exact .any) (SlTo_cons (by first | exact .rd .d | exact Vw_int (by first | rfl | assumption | omega | (simp; done) | (simp; omega) | (simp_all []; done) | (simp_all []; omega)) | exact Vw_c (by first | rfl | (simp; done) | (simp_all []; done)) | exact .any) (SlTo_cons (Vw_refe rfl (by first | rfl | (simp; omega) | (simp; done))) SlTo_nil)))))
                  exact ⟨.refl _, s1⟩
              · skip
                have h14 := of_decide_eq_false hg14
                have s1 : SrtP (A.take lo ++ B.take (M - lo)) := by
                  rw [show lo = 0 by omega]
                  simpa using SrtP.take sB _
                refine AL_guard_f rfl rfl rfl rfl ?_
                refine AL_guard_f rfl rfl rfl rfl ?_
                refine AL_guard_f rfl rfl rfl rfl ?_
                refine AL_ev (Ev_pick rfl) rfl ?_
                refine AL_nil ?_
                refine hK46 _ _ _ ?_
                first | refine AC_cond_f rfl ?_ | refine AC_cond_f (congrArg bl hc15) ?_
                refine AC_skip ?_
                refine joinFE (A.take lo ++ B.take (M - lo)) [some 0] rfl rfl ?_ (BxTo_some rfl rfl rfl rfl (by first | exact .nil | exact VwL_app (by simp [dsP]) | exact VwL_dd (by simp [dsP])) BxTo_nil) (SlTo_cons (by first | exact .rd .d | exact Vw_int (by first | rfl | assumption | omega | (simp; done) | (simp; omega) | (simp_all []; done) | (simp_all []; omega)) | exact Vw_c (by first | rfl | (simp; done) | (simp_all []; done)) | exact .any) (SlTo_cons (by first | exact .rd .d | exact Vw_int (by first | rfl | assumption | omega | (simp; done) | (simp; omega) | (simp_all []; done) | (simp_all []; omega)) | exact Vw_c (by first | rfl | (simp; done) | (simp_all []; done)) | exact .any) (SlTo_cons (by first | exact .rd .d | exact Vw_int (by first | rfl | assumption | omega | (simp; done) | (simp; omega) | (simp_all []; done) | (simp_all []; omega)) | exact Vw_c (by first | rfl | (simp; done) | (simp_all []; done)) | exact .any) (SlTo_cons (by first | exact .rd .d | exact Vw_int (by first | rfl | assumption | omega | (simp; done) | (simp; omega) | (simp_all []; done) | (simp_all []; omega)) | exact Vw_c (by first | rfl | (simp; done) | (simp_all []; done)) | exact .any) (SlTo_cons (Vw_refe rfl (by first | rfl | (simp; omega) | (simp; done))) SlTo_nil)))))
                exact ⟨.refl _, s1⟩
            · skip
              rintro f L ⟨C1, ⟨hC1, sC1⟩, rfl, rfl⟩
              refine AC_seq fun K47 hK47 => ?_
              refine AC_region ?_
              refine AL_ev (Ev_move) rfl ?_
              refine AL_ev (Ev_move) rfl ?_
              refine AL_ev (Ev_lss rfl rfl) rfl ?_
              refine AL_ev (Ev_move) rfl ?_
              refine AL_bool 209 rfl (fun hg16 => ?_) (fun hg16 => ?_)
              · skip
                have h16 := of_decide_eq_true hg16
                have hC1l : C1.length = M := by rw [hC1.length_eq]; simp; omega
                refine AL_guard_t rfl rfl rfl ?_
                refine AL_ev (Ev_move) rfl ?_
                refine AL_guard_t rfl rfl rfl ?_
                refine AL_ev (Ev_move) rfl ?_
                refine AL_guard_t rfl rfl rfl ?_
                refine AL_ev (Ev_lss rfl rfl) rfl ?_
                refine AL_ev (Ev_pick rfl) rfl ?_
                refine AL_nil ?_
                refine hK47 _ _ _ ?_
                refine AC_cond rfl (fun hc17 => ?_) (fun hc17 => ?_)
                · skip
                  have h17 := of_decide_eq_true hc17
                  have q1 : (A.drop lo).length + (B.drop (M - lo)).length = A.length - lo + (B.length - (M - lo)) := by first | (simp; done) | (simp; omega)
                  have q2 : A.drop lo ≠ [] := by intro e; have := congrArg List.length e; simp only [List.length_take, List.length_drop, List.length_nil] at this; omega
                  have q3 : B.drop (M - lo) ≠ [] := by intro e; have := congrArg List.length e; simp only [List.length_take, List.length_drop, List.length_nil] at this; omega
                  have q4 : SrtP (A.drop lo) := SrtP.drop sA _
                  have q5 : SrtP (B.drop (M - lo)) := SrtP.drop sB _
                  have q6 : ∀ p ∈ A.drop lo ++ B.drop (M - lo), PL pool p := fun p hp => hel p (by
                    rcases List.mem_append.1 hp with h | h
                    · exact List.mem_append_left _ (List.mem_of_mem_drop h)
                    · exact List.mem_append_right _ (List.mem_of_mem_drop h))
                  have hf2 : (pre ++ C1 ++ A.drop lo ++ B.drop (M - lo) ++ post) = (pre ++ C1) ++ A.drop lo ++ B.drop (M - lo) ++ post := rfl
                  have q7 : ((pre ++ C1) ++ A.drop lo ++ B.drop (M - lo) ++ post).length ≤ 1099511627776 := by simp; omega
                  refine AC_region ?_
                  refine AL_ev (Ev_move) rfl ?_
                  refine AL_ev (Ev_move) rfl ?_
                  refine AL_ev (Ev_move) rfl ?_
                  refine AL_ev (Ev_move) rfl ?_
                  refine AL_ev (Ev_move) rfl ?_
                  refine AL_hstE hT hP [0] (fun ys => [⟨⟨35, some (o 0)⟩, LT, (dsP ys).map V.d⟩]) rfl cl95 (ih (A.length - lo + (B.length - (M - lo))) (by omega) (pre ++ C1) (A.drop lo) (B.drop (M - lo)) post q1 q2 q3 q4 q5 q6 q7) ?_ rfl rfl rfl ?_ (fun _ _ => rfl) ?_ rfl fun nx hnx => ?_
                  · exact .cons (Vx_refe rfl (by rw [hf2])) (.cons (Vx_int (by first | omega | (simp; omega))) (.cons (Vx_int (by first | omega | (simp; omega))) (.cons (Vx_int (by first | omega | (simp; omega))) (.cons .d .nil))))
                  · exact BxI_cons rfl rfl rfl rfl rfl (VxL_ds (by rw [hf2])) BxI_nil
                  · exact fun _ _ => BxP_keep rfl rfl (VxL_d _) rfl rfl BxP_nil
                  obtain ⟨C2, rfl, hC2, sC2⟩ := hnx
                  refine AL_nil ?_
                  have mf := merge_fin (lo := lo) (k := M - lo) (C1 := C1) (C2 := C2) (fun p hp => (hel p hp).rt) sA sB (fun x y k0 k1 k2 => by have k3 := lt_of_get k2; have k4 := hlo x y (by omega) k1 k2; have k5 := cmp_neg y.1 (hel y (List.mem_append_right _ (List.mem_of_getElem? k2))).rt x.1 (hel x (List.mem_append_left _ (List.mem_of_getElem? k1))).rt; omega) (fun x y k0 k1 k2 => by have k3 := lt_of_get k2; have k4 := hhi y x (by omega) k2 (by rw [← k1]; congr 1; omega); omega) (by omega) (by omega) hC1 hC2 sC1 sC2
                  exact rete_ok (pre ++ C1 ++ C2 ++ post) (⟨C1 ++ C2, by simp, mf.1, mf.2⟩) [0] (CExt.refl _) rfl rfl rfl (BxF_stay rfl rfl rfl rfl rfl (VxL_d _) rfl BxF_nil) (Nat.le_refl _)
                · skip
                  have h17 := of_decide_eq_false hc17
                  have s2 : SrtP (A.drop lo ++ B.drop (M - lo)) := by
                    rw [List.drop_eq_nil_of_le (show B.length ≤ M - lo by omega)]
                    simpa using SrtP.drop sA _
                  refine AC_skip ?_
                  have mf := merge_fin (lo := lo) (k := M - lo) (C1 := C1) (C2 := A.drop lo ++ B.drop (M - lo)) (fun p hp => (hel p hp).rt) sA sB (fun x y k0 k1 k2 => by have k3 := lt_of_get k2; have k4 := hlo x y (by omega) k1 k2; have k5 := cmp_neg y.1 (hel y (List.mem_append_right _ (List.mem_of_getElem? k2))).rt x.1 (hel x (List.mem_append_left _ (List.mem_of_getElem? k1))).rt; omega) (fun x y k0 k1 k2 => by have k3 := lt_of_get k2; have k4 := hhi y x (by omega) k2 (by rw [← k1]; congr 1; omega); omega) (by omega) (by omega) hC1 (.refl _) sC1 s2
                  exact rete_ok (pre ++ C1 ++ A.drop lo ++ B.drop (M - lo) ++ post) (⟨C1 ++ (A.drop lo ++ B.drop (M - lo)), by simp, mf.1, mf.2⟩) [0] (CExt.refl _) rfl rfl rfl (BxF_stay rfl rfl rfl rfl rfl (VxL_d _) rfl BxF_nil) (Nat.le_refl _)
              · skip
                have hC1l : C1.length = M := by rw [hC1.length_eq]; simp; omega
                have h16 := of_decide_eq_false hg16
                have s2 : SrtP (A.drop lo ++ B.drop (M - lo)) := by
                  rw [List.drop_eq_nil_of_le (show A.length ≤ lo by omega)]
                  simpa using SrtP.drop sB _
                refine AL_guard_f rfl rfl rfl rfl ?_
                refine AL_guard_f rfl rfl rfl rfl ?_
                refine AL_guard_f rfl rfl rfl rfl ?_
                refine AL_ev (Ev_pick rfl) rfl ?_
                refine AL_nil ?_
                refine hK47 _ _ _ ?_
                first | refine AC_cond_f rfl ?_ | refine AC_cond_f (congrArg bl hc17) ?_
                refine AC_skip ?_
                have mf := merge_fin (lo := lo) (k := M - lo) (C1 := C1) (C2 := A.drop lo ++ B.drop (M - lo)) (fun p hp => (hel p hp).rt) sA sB (fun x y k0 k1 k2 => by have k3 := lt_of_get k2; have k4 := hlo x y (by omega) k1 k2; have k5 := cmp_neg y.1 (hel y (List.mem_append_right _ (List.mem_of_getElem? k2))).rt x.1 (hel x (List.mem_append_left _ (List.mem_of_getElem? k1))).rt; omega) (fun x y k0 k1 k2 => by have k3 := lt_of_get k2; have k4 := hhi y x (by omega) k2 (by rw [← k1]; congr 1; omega); omega) (by omega) (by omega) hC1 (.refl _) sC1 s2
                exact rete_ok (pre ++ C1 ++ A.drop lo ++ B.drop (M - lo) ++ post) (⟨C1 ++ (A.drop lo ++ B.drop (M - lo)), by simp, mf.1, mf.2⟩) [0] (CExt.refl _) rfl rfl rfl (BxF_stay rfl rfl rfl rfl rfl (VxL_d _) rfl BxF_nil) (Nat.le_refl _)

end Go.Proofs.Ytjhdkjacfclipaa
