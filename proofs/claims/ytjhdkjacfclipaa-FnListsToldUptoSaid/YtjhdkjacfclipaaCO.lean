/- Contracts of functions. -/
import Derived.Test.YtjhdkjacfclipaaMt
import Derived.Test.YtjhdkjacfclipaaOk
import Derived.Test.YtjhdkjacfclipaaWn
import Derived.Test.YtjhdkjacfclipaaEng27
import Derived.Test.YtjhdkjacfclipaaOw
import Derived.Test.YtjhdkjacfclipaaGd
import Derived.Test.YtjhdkjacfclipaaProg
import Derived.KernelRfl
import Derived.Test.YtjhdkjacfclipaaCA
set_option linter.unusedVariables false
set_option linter.unusedSimpArgs false
namespace Go.Proofs.Ytjhdkjacfclipaa
open Go.Eng



set_option maxHeartbeats 1000000 in
set_option maxRecDepth 4000 in
theorem c_renamedO (g : Int → Int) (kk : FuncId) (caps : List D) (hcl : Callable Try.prog kk) (hna : caps.all (fun d => !d.isAgg) = true) (hto : ∀ m, PCall Try.prog kk ([.c (.int .i64 m)] ++ caps) (· = [.c (.int .i64 (g m))])) (t : T) : OCall Try.prog 71 [inj t, .fn kk caps] (inj (rn g t)) := by
  induction t using T.ind with | h k s m ks ih => ?_
  generalize hm2 : (if k = 1 then g m else m) = m2
  refine OCall_of (n := 35) Try.func71 rfl rfl (Nat.le_of_ble_eq_true rfl) fun C0 hdm hT0 => ?_
  have hX0 := CExt.refl C0
  have hT := hT0
  refine AC_seq fun K1 hK1 => ?_
  refine AC_region ?_
  refine AL_box (Lay.st [.one, .one, .one, .one]) (nf rfl) rfl (by first | rfl | simp [Lay.len, Lay.lens]) _ rfl rfl ?_
  refine AL_alloc zo35 _ rfl rfl ?_
  refine AL_nil ?_
  refine hK1 _ _ _ ?_
  refine AC_seq fun K2 hK2 => ?_
  refine AC_region ?_
  first | refine AL_ev (Ev_load_ptr rfl rfl rfl rfl rfl rfl ts35 ta35 (by first | rfl | assumption | simp) (by intro h; cases h)) rfl ?_ | refine AL_ev (Ev_load_rp rfl rfl rfl ts35 ta35 (by first | rfl | assumption | simp) (by intro h; cases h)) rfl ?_
  refine AL_alloc zo35 _ rfl rfl ?_
  first | refine AL_store rfl (nf rfl) rfl rfl rfl rfl rfl rfl (by first | rfl | assumption | simp [Lay.len, Lay.lens]) ts35 rfl rfl ?_ | refine AL_store rfl (nf rfl) rfl rfl rfl hes rfl rfl (by first | rfl | assumption | simp [Lay.len, Lay.lens]) ts35 rfl rfl ?_
  refine AL_nil ?_
  refine hK2 _ _ _ ?_
  refine AC_seq fun K3 hK3 => ?_
  refine AC_region ?_
  first | refine AL_ev (Ev_fa_ptr rfl fa35_3 rfl rfl) rfl ?_ | refine AL_ev (Ev_fa_rp rfl fa35_3 rfl rfl) rfl ?_
  first | refine AL_store rfl (nf rfl) rfl rfl rfl rfl rfl rfl (by first | rfl | assumption | simp [Lay.len, Lay.lens]) ts24 rfl rfl ?_ | refine AL_store rfl (nf rfl) rfl rfl rfl hes rfl rfl (by first | rfl | assumption | simp [Lay.len, Lay.lens]) ts24 rfl rfl ?_
  refine AL_nil ?_
  refine hK3 _ _ _ ?_
  refine AC_seqJ (fun f L => f = frOf [(1, .d (.fn kk caps)), (2, .ptr LT 0 0 []), (4, .ptr LT 1 0 []), (5, .ptr LT 2 0 [])] ∧ L = [some ⟨35, LT, [.d (inj (.mk k s m ks))]⟩, some ⟨35, LT, [.d zT]⟩, some ⟨35, LT, [.agg [.one, .one, .one, .one] [i64 k, st s, i64 m2, nilsl]]⟩]) ?_ ?_
  · skip
    refine AC_seq fun K5 hK5 => ?_
    refine AC_region ?_
    first | refine AL_ev (Ev_fa_ptr rfl fa35_0 rfl rfl) rfl ?_ | refine AL_ev (Ev_fa_rp rfl fa35_0 rfl rfl) rfl ?_
    first | refine AL_ev (Ev_load_ptr rfl rfl rfl rfl rfl rfl ts3 ta3 rfl (fun _ => rfl)) rfl ?_ | refine AL_ev (Ev_load_rp rfl rfl rfl ts3 ta3 rfl (fun _ => rfl)) rfl ?_
    refine AL_ev (Ev_eql rfl rfl) rfl ?_
    refine AL_nil ?_
    refine hK5 _ _ _ ?_
    refine AC_cond rfl (fun hc1 => ?_) (fun hc1 => ?_)
    · skip
      refine AC_region ?_
      refine AL_ev (Ev_move) rfl ?_
      first | refine AL_ev (Ev_fa_ptr rfl fa35_2 rfl rfl) rfl ?_ | refine AL_ev (Ev_fa_rp rfl fa35_2 rfl rfl) rfl ?_
      first | refine AL_ev (Ev_load_ptr rfl rfl rfl rfl rfl rfl ts3 ta3 rfl (fun _ => rfl)) rfl ?_ | refine AL_ev (Ev_load_rp rfl rfl rfl ts3 ta3 rfl (fun _ => rfl)) rfl ?_
      refine AL_fcall hT rfl hna hcl (hto m) rfl rfl ?_
      first | refine AL_ev (Ev_fa_ptr rfl fa35_2 rfl rfl) rfl ?_ | refine AL_ev (Ev_fa_rp rfl fa35_2 rfl rfl) rfl ?_
      first | refine AL_store rfl (nf rfl) rfl rfl rfl rfl rfl rfl (by first | rfl | assumption | simp [Lay.len, Lay.lens]) ts3 rfl rfl ?_ | refine AL_store rfl (nf rfl) rfl rfl rfl hes rfl rfl (by first | rfl | assumption | simp [Lay.len, Lay.lens]) ts3 rfl rfl ?_
      refine AL_nil ?_
      simp only [decide_eq_true_eq, decide_eq_false_iff_not] at hc1
      refine joinS [some 0, some 1, some 2] rfl rfl (BxTo_some rfl rfl rfl rfl (.cons (.rd .d) .nil) (BxTo_some rfl rfl rfl rfl (.cons (.rd .d) .nil) (BxTo_some rfl rfl rfl rfl (.cons (.agg (.cons (.rd .d) (.cons (.rd .d) (.cons (Vw_int (by subst hm2; first | rw [if_pos hc1] | rw [if_neg hc1])) (.cons (.rd .d) .nil))))) .nil) BxTo_nil))) (SlTo_cons (by first | exact .rd .d | exact .ptr rfl | exact .ref rfl | exact .any | exact Vw_int (by omega)) (SlTo_cons (by first | exact .rd .d | exact .ptr rfl | exact .ref rfl | exact .any | exact Vw_int (by omega)) (SlTo_cons (by first | exact .rd .d | exact .ptr rfl | exact .ref rfl | exact .any | exact Vw_int (by omega)) (SlTo_cons (by first | exact .rd .d | exact .ptr rfl | exact .ref rfl | exact .any | exact Vw_int (by omega)) SlTo_nil))))
    · skip
      refine AC_skip ?_
      simp only [decide_eq_true_eq, decide_eq_false_iff_not] at hc1
      refine joinS [some 0, some 1, some 2] rfl rfl (BxTo_some rfl rfl rfl rfl (.cons (.rd .d) .nil) (BxTo_some rfl rfl rfl rfl (.cons (.rd .d) .nil) (BxTo_some rfl rfl rfl rfl (.cons (.agg (.cons (.rd .d) (.cons (.rd .d) (.cons (Vw_int (by subst hm2; first | rw [if_pos hc1] | rw [if_neg hc1])) (.cons (.rd .d) .nil))))) .nil) BxTo_nil))) (SlTo_cons (by first | exact .rd .d | exact .ptr rfl | exact .ref rfl | exact .any | exact Vw_int (by omega)) (SlTo_cons (by first | exact .rd .d | exact .ptr rfl | exact .ref rfl | exact .any | exact Vw_int (by omega)) (SlTo_cons (by first | exact .rd .d | exact .ptr rfl | exact .ref rfl | exact .any | exact Vw_int (by omega)) (SlTo_cons (by first | exact .rd .d | exact .ptr rfl | exact .ref rfl | exact .any | exact Vw_int (by omega)) SlTo_nil))))
  · skip
    rintro f L ⟨rfl, rfl⟩
    refine AC_seq fun K6 hK6 => ?_
    refine AC_seq fun K7 hK7 => ?_
    refine AC_region ?_
    first | refine AL_ev (Ev_fa_ptr rfl fa35_3 rfl rfl) rfl ?_ | refine AL_ev (Ev_fa_rp rfl fa35_3 rfl rfl) rfl ?_
    first | refine AL_ev (Ev_load_ptr rfl rfl rfl rfl rfl rfl ts24 ta24 rfl (fun _ => rfl)) rfl ?_ | refine AL_ev (Ev_load_rp rfl rfl rfl ts24 ta24 rfl (fun _ => rfl)) rfl ?_
    first | refine AL_lim (x := (Operand.tmp 19)) rfl fun hl1 => ?_ | refine AL_limB (x := (Operand.tmp 19)) rfl rfl (by first | rfl | (simp; done) | (simp; omega)) fun hl1 => ?_ | have hl1 := True.intro
    try simp only [injs_length, ints_length, strs_length, injCs_length, u8s_length, List.length_map] at hl1
    first | refine AL_ev (Ev_len_injs te24 rfl) rfl ?_ | refine AL_ev (Ev_len_sl te24 rfl) rfl ?_ | refine AL_ev (Ev_len_ref te24 rfl) rfl ?_ | refine AL_ev (Ev_len_nil te24 rfl) rfl ?_ | refine AL_ev (Ev_len_c te24 rfl) rfl ?_
    refine AL_ev (Ev_move) rfl ?_
    refine AL_nil ?_
    refine hK7 _ _ _ ?_
    refine AC_block ?_
    refine AC_loopX (List (List Value) × List Nat) (fun q => [(21, i64 q.1.length)]) (fun q => [some ⟨35, LT, [.d (inj (.mk k s m ks))]⟩, some ⟨35, LT, [.d zT]⟩, some ⟨35, LT, [.agg [.one, .one, .one, .one] [i64 k, st s, i64 m2, .ref LT 3 0 q.1.length]]⟩, some ⟨35, LT, (q.1.map (rawD LT)).map V.d⟩]) (fun q => ks.length - q.1.length) (fun C q => q.1.length ≤ ks.length ∧ CExt C0 C ∧ HasL C0.w0.heap.size C LT q.1 (injs (rnL g (ks.take q.1.length))) q.2) [1, 2, 4, 5, 19, 20] ?_ ?_
    · skip
      refine Fin_wk (Wk_nil_box 2 0 [3] 35 LT rfl rfl rfl rfl 3 rfl rfl ?_)
      exact enterX ([], []) [some 0, some 1, some 2, some 3] rfl rfl ⟨Nat.zero_le _, hX0, HasL.nil⟩ (BxTo_some rfl rfl rfl rfl (.cons (.rd .d) .nil) (BxTo_some rfl rfl rfl rfl (.cons (.rd .d) .nil) (BxTo_some rfl rfl rfl rfl (.cons (.agg (.cons (.rd .d) (.cons (.rd .d) (.cons (.rd .d) (.cons (.ref rfl) .nil))))) .nil) (BxTo_some rfl rfl rfl rfl .nil BxTo_nil)))) (SlTo_cons (by first | exact .rd .d | exact .ptr rfl | exact .ref rfl | exact .any | exact Vw_int (by omega)) (SlTo_cons (by first | exact .rd .d | exact .ptr rfl | exact .ref rfl | exact .any | exact Vw_int (by omega)) (SlTo_cons (by first | exact .rd .d | exact .ptr rfl | exact .ref rfl | exact .any | exact Vw_int (by omega)) (SlTo_cons (by first | exact .rd .d | exact .ptr rfl | exact .ref rfl | exact .any | exact Vw_int (by omega)) (SlTo_cons (by first | exact .rd .d | exact .ptr rfl | exact .ref rfl | exact .any | exact Vw_int (by omega)) (SlTo_cons (by first | exact .rd .d | exact .ptr rfl | exact .ref rfl | exact .any | exact Vw_int (by omega)) (SlTo_cons (by first | exact .rd .d | exact .ptr rfl | exact .ref rfl | exact .any | exact Vw_int (by omega)) SlTo_nil)))))))
    rintro CL q ⟨hj, hX, hL⟩
    have hT := hT0.ext hX
    refine AC_seq fun K8 hK8 => ?_
    refine AC_region ?_
    refine AL_ev (Ev_lss rfl rfl) rfl ?_
    refine AL_nil ?_
    refine hK8 _ _ _ ?_
    refine AC_seq fun K9 hK9 => ?_
    refine AC_cond rfl (fun hc2 => ?_) (fun hc2 => ?_)
    · skip
      have hlt : q.1.length < ks.length := by simpa [injs_length] using hc2
      obtain ⟨u, hu⟩ : ∃ u, ks[q.1.length]? = some u := ⟨_, List.getElem?_eq_getElem hlt⟩
      have hu2 := injs_get hu
      refine AC_skip ?_
      refine hK9 _ _ _ ?_
      refine AC_seq fun K10 hK10 => ?_
      refine AC_block ?_
      refine AC_seq fun K11 hK11 => ?_
      refine AC_region ?_
      first | refine AL_ev (Ev_ix_sl rfl rfl te24 ts35 (by omega) (by assumption)) rfl ?_ | refine AL_ev (Ev_ix_ref rfl rfl te24 ts35 (by omega) (by first | omega | (simp; omega))) rfl ?_
      first | refine AL_ev (Ev_load_ptr rfl rfl rfl rfl rfl rfl ts35 ta35 (by first | rfl | assumption | simp) (by intro h; cases h)) rfl ?_ | refine AL_ev (Ev_load_rp rfl rfl rfl ts35 ta35 (by first | rfl | assumption | simp) (by intro h; cases h)) rfl ?_
      refine AL_alloc zo35 _ rfl rfl ?_
      first | refine AL_store rfl (nf rfl) rfl rfl rfl rfl rfl rfl (by first | rfl | assumption | simp [Lay.len, Lay.lens]) ts35 rfl rfl ?_ | refine AL_store rfl (nf rfl) rfl rfl rfl hes rfl rfl (by first | rfl | assumption | simp [Lay.len, Lay.lens]) ts35 rfl rfl ?_
      refine AL_nil ?_
      refine hK11 _ _ _ ?_
      refine AC_draw hT follows [0, 1, 2, 3, 4, 5, 6, 7, 8] (by kernel_rfl) ?_
      first | refine DT_ev rfl (EA_fa_ptr rfl fa35_3 rfl rfl) rfl ?_ | refine DT_ev rfl (EA_fa_rp rfl fa35_3 rfl rfl) rfl ?_
      first | refine DT_ev rfl (EA_load_ptr rfl rfl rfl rfl rfl rfl ts24 ta24 rfl (fun _ => rfl)) rfl ?_ | refine DT_ev rfl (EA_load_rp rfl rfl rfl ts24 ta24 rfl (fun _ => rfl)) rfl ?_
      first | refine DT_ev rfl (EA_load_ptr rfl rfl rfl rfl rfl rfl ts35 ta35 (by first | rfl | assumption | simp) (by intro h; cases h)) rfl ?_ | refine DT_ev rfl (EA_load_rp rfl rfl rfl ts35 ta35 (by first | rfl | assumption | simp) (by intro h; cases h)) rfl ?_
      refine DT_ev rfl (EA_move) rfl ?_
      refine DT_ocall0d hT LT rfl rfl cl71 (ih u (List.mem_of_getElem? hu)) rfl (inj_lenL _) (inj_agL _) rfl (by kernel_rfl) fun C1 cs1 K1 hg1 => ?_
      have hX1 := hX.trans hg1.ext
      have hT := hT.ext hg1.ext
      refine DT_bD (Lay.st [.one, .one, .one, .one]) rfl rfl te24 ts35 tz35 rfl rfl (by decide) (by decide) (by first | rfl | simp [lenDs, goodVs, goodV, V.known, Lay.len, Lay.lens]) rfl ?_
      first | refine DT_append_sl rfl rfl rfl rfl rfl te24 ts35 tz35 rfl tb35 (by decide) (by decide) rfl (by first | rfl | (simp; done) | (simp; omega)) (by simp only [lim]; first | omega | (simp; done) | (simp; omega)) _ rfl rfl ?_ | refine DT_append_nil rfl rfl rfl rfl rfl te24 ts35 tz35 rfl tb35 (by decide) (by decide) rfl (by first | rfl | (simp; done) | (simp; omega)) (by simp only [lim]; first | omega | (simp; done) | (simp; omega)) _ rfl rfl ?_
      first | refine DT_ev rfl (EA_fa_ptr rfl fa35_3 rfl rfl) rfl ?_ | refine DT_ev rfl (EA_fa_rp rfl fa35_3 rfl rfl) rfl ?_
      first | refine DT_store rfl rfl (nf rfl) rfl rfl rfl rfl rfl rfl (by first | rfl | assumption | simp [Lay.len, Lay.lens]) ts24 rfl rfl ?_ | refine DT_store rfl rfl (nf rfl) rfl rfl rfl hes rfl rfl (by first | rfl | assumption | simp [Lay.len, Lay.lens]) ts24 rfl rfl ?_
      refine DTi.nil ?_
      refine hK10 _ _ _ ?_
      refine AC_region ?_
      first | refine AL_ev (Ev_add rfl rfl _ (wrap_id (by first | omega | (simp; omega)) (by first | omega | (simp; omega)))) rfl ?_ | refine AL_ev (Ev_add rfl rfl _ rfl) rfl ?_
      refine AL_ev (Ev_move) rfl ?_
      refine AL_nil ?_
      have hst2 : (q.1 ++ [cs1]).length = q.1.length + 1 := by simp
      refine closeX (q.1 ++ [cs1], q.2 ++ K1) [some 0, some 1, some 2, some 5] rfl rfl (by show ks.length - (q.1 ++ [cs1]).length < ks.length - q.1.length; omega) ⟨by show (q.1 ++ [cs1]).length ≤ _; omega, hX1, ?_⟩ (BxTo_some rfl rfl rfl rfl (.cons (.rd .d) .nil) (BxTo_some rfl rfl rfl rfl (.cons (.rd .d) .nil) (BxTo_some rfl rfl rfl rfl (.cons (.agg (.cons (.rd .d) (.cons (.rd .d) (.cons (.rd .d) (.cons (Vw_refe rfl (by first | rfl | simp)) .nil))))) .nil) (BxTo_some rfl rfl rfl rfl (VwL_app (by simp)) BxTo_nil)))) (SlTo_cons (Vw_int (by show _ = (((q.1 ++ [cs1]).length : Nat) : Int); rw [hst2]; omega)) (SlTo_cons (by first | exact .rd .d | exact .ptr rfl | exact .ref rfl | exact .any | exact Vw_int (by omega)) (SlTo_cons (by first | exact .rd .d | exact .ptr rfl | exact .ref rfl | exact .any | exact Vw_int (by omega)) (SlTo_cons (by first | exact .rd .d | exact .ptr rfl | exact .ref rfl | exact .any | exact Vw_int (by omega)) (SlTo_cons (by first | exact .rd .d | exact .ptr rfl | exact .ref rfl | exact .any | exact Vw_int (by omega)) (SlTo_cons (by first | exact .rd .d | exact .ptr rfl | exact .ref rfl | exact .any | exact Vw_int (by omega)) (SlTo_cons (by first | exact .rd .d | exact .ptr rfl | exact .ref rfl | exact .any | exact Vw_int (by omega)) SlTo_nil)))))))
      show HasL _ _ _ (q.1 ++ [cs1]) (injs (rnL g (ks.take (q.1 ++ [cs1]).length))) _
      rw [hst2, rnL_map, ← injs_take_map (rn g) hu, ← rnL_map]
      exact hL.snoc hg1.ext hg1.has hX.pres.size (inj_lenL _)
    · skip
      refine AC_exit ?_
      refine hK6 _ _ _ ?_
      refine AC_seq fun K12 hK12 => ?_
      refine AC_region ?_
      first | refine AL_ev (Ev_load_ptr rfl rfl rfl rfl rfl rfl ts35 ta35 (by first | rfl | assumption | simp) (by intro h; cases h)) rfl ?_ | refine AL_ev (Ev_load_rp rfl rfl rfl ts35 ta35 (by first | rfl | assumption | simp) (by intro h; cases h)) rfl ?_
      first | refine AL_store rfl (nf rfl) rfl rfl rfl rfl rfl rfl (by first | rfl | assumption | simp [Lay.len, Lay.lens]) ts35 rfl rfl ?_ | refine AL_store rfl (nf rfl) rfl rfl rfl hes rfl rfl (by first | rfl | assumption | simp [Lay.len, Lay.lens]) ts35 rfl rfl ?_
      refine AL_nil ?_
      refine hK12 _ _ _ ?_
      refine AC_ret ?_
      have hj2 : q.1.length = ks.length := by
        have : ¬ q.1.length < ks.length := by simpa [injs_length] using hc2
        omega
      rw [hj2, List.take_length] at hL
      rw [show rn g (.mk k s m ks) = .mk k s (if k = 1 then g m else m) (rnL g ks) from rfl, hm2]
      exact reto_ok hX hdm (.cell rfl rfl rfl rfl rfl rfl ts35 ta35 rfl (by intro h; cases h) .nil) (ow_T3 rfl rfl (by simp) (OwVs_rawds hL (by first | rfl | simp)) (by simp)) rfl rfl

set_option maxHeartbeats 1000000 in
set_option maxRecDepth 4000 in
theorem c_copyTermO (t : T) : OCall Try.prog 41 [inj t] (inj t) := by
  have hrn := c_renamedO id 72 [] cl72 rfl (fun m => c_id m) t
  rw [rn_id] at hrn
  refine OCall_of (n := 5) Try.func41 rfl rfl (Nat.le_of_ble_eq_true rfl) fun C0 hdm hT0 => ?_
  have hX0 := CExt.refl C0
  have hT := hT0
  refine AC_seq fun K1 hK1 => ?_
  refine AC_region ?_
  refine AL_box (Lay.st [.one, .one, .one, .one]) (nf rfl) rfl (by first | rfl | simp [Lay.len, Lay.lens]) _ rfl rfl ?_
  refine AL_alloc zo35 _ rfl rfl ?_
  refine AL_nil ?_
  refine hK1 _ _ _ ?_
  refine AC_seq fun K2 hK2 => ?_
  refine AC_region ?_
  first | refine AL_ev (Ev_load_ptr rfl rfl rfl rfl rfl rfl ts35 ta35 (by first | rfl | assumption | simp) (by intro h; cases h)) rfl ?_ | refine AL_ev (Ev_load_rp rfl rfl rfl ts35 ta35 (by first | rfl | assumption | simp) (by intro h; cases h)) rfl ?_
  refine AL_ocall0 hT LT rfl cl71 (hrn) rfl (inj_lenL _) (inj_agL _) rfl fun C1 cs1 K1 hg1 => ?_
  have hX1 := hX0.trans hg1.ext
  have hT := hT.ext hg1.ext
  first | refine AL_store rfl (nf rfl) rfl rfl rfl rfl rfl rfl (by first | rfl | assumption | simp [Lay.len, Lay.lens]) ts35 rfl rfl ?_ | refine AL_store rfl (nf rfl) rfl rfl rfl hes rfl rfl (by first | rfl | assumption | simp [Lay.len, Lay.lens]) ts35 rfl rfl ?_
  refine AL_nil ?_
  refine hK2 _ _ _ ?_
  refine AC_ret ?_
  exact reto_ok hX1 hdm (.cell rfl rfl rfl rfl rfl rfl ts35 ta35 rfl (by intro h; cases h) .nil) (.raw (hg1.has.le hX0.pres.size) hg1.len) (by rw [inj_agg]; rfl) rfl

end Go.Proofs.Ytjhdkjacfclipaa
