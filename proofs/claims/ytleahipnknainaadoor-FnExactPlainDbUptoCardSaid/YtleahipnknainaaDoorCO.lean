/- Contracts of functions. -/
import Derived.Test.YtleahipnknainaaDoorMt
import Derived.Test.YtleahipnknainaaDoorOk
import Derived.Test.YtleahipnknainaaDoorWn
import Derived.Test.YtleahipnknainaaDoorEng27
import Derived.Test.YtleahipnknainaaDoorOw
import Derived.Test.YtleahipnknainaaDoorGd
import Derived.Test.YtleahipnknainaaDoorProg
import Derived.KernelRfl
import Derived.Test.YtleahipnknainaaDoorCA
import Derived.Test.YtleahipnknainaaDoorCB
import Derived.Test.YtleahipnknainaaDoorCC
import Derived.Test.YtleahipnknainaaDoorCG
import Derived.Test.YtleahipnknainaaDoorCH
import Derived.Test.YtleahipnknainaaDoorCI
set_option linter.unusedVariables false
set_option linter.unusedSimpArgs false
namespace Go.Proofs.YtleahipnknainaaDoor
open Go.Eng

theorem cl105 : Callable Tryd.prog 105 := Callable_of Tryd.func105 (by kernel_rfl) (by kernel_rfl)
theorem cl27 : Callable Tryd.prog 27 := Callable_of Tryd.func27 (by kernel_rfl) (by kernel_rfl)
theorem cl60 : Callable Tryd.prog 60 := Callable_of Tryd.func60 (by kernel_rfl) (by kernel_rfl)
theorem cl68 : Callable Tryd.prog 68 := Callable_of Tryd.func68 (by kernel_rfl) (by kernel_rfl)
theorem cl71 : Callable Tryd.prog 71 := Callable_of Tryd.func71 (by kernel_rfl) (by kernel_rfl)
theorem cl72 : Callable Tryd.prog 72 := Callable_of Tryd.func72 (by kernel_rfl) (by kernel_rfl)
theorem cl74 : Callable Tryd.prog 74 := Callable_of Tryd.func74 (by kernel_rfl) (by kernel_rfl)
theorem cl98 : Callable Tryd.prog 98 := Callable_of Tryd.func98 (by kernel_rfl) (by kernel_rfl)

set_option maxHeartbeats 1000000 in
set_option maxRecDepth 4000 in
theorem c_renamedO (g : Int → Int) (kk : FuncId) (caps : List D) (hcl : Callable Tryd.prog kk) (hna : caps.all (fun d => !d.isAgg) = true) (hto : ∀ m, PCall Tryd.prog kk ([.c (.int .i64 m)] ++ caps) (· = [.c (.int .i64 (g m))])) (t : T) : OCall Tryd.prog 101 [inj t, .fn kk caps] (inj (rn g t)) := by
  induction t using T.ind with | h k s m ks ih => ?_
  generalize hm2 : (if k = 1 then g m else m) = m2
  refine OCall_of (n := 35) Tryd.func101 rfl rfl (Nat.le_of_ble_eq_true rfl) fun C0 hdm hT0 => ?_
  have hX0 := CExt.refl C0
  have hT := hT0
  refine AC_seq fun K1 hK1 => ?_
  refine AC_region ?_
  refine AL_box (Lay.st [.one, .one, .one, .one]) (nf rfl) rfl (by first | rfl | simp [Lay.len, Lay.lens]) _ rfl rfl ?_
  refine AL_alloc zo45 _ rfl rfl ?_
  refine AL_nil ?_
  refine hK1 _ _ _ ?_
  refine AC_seq fun K2 hK2 => ?_
  refine AC_region ?_
  first | refine AL_ev (Ev_load_ptr rfl rfl rfl rfl rfl rfl ts45 ta45 (by first | rfl | simp) (by intro h; cases h)) rfl ?_ | refine AL_ev (Ev_load_rp rfl rfl rfl ts45 ta45 (by first | rfl | simp) (by intro h; cases h)) rfl ?_
  refine AL_alloc zo45 _ rfl rfl ?_
  first | refine AL_store rfl (nf rfl) rfl rfl rfl rfl rfl rfl (by first | rfl | simp [Lay.len, Lay.lens]) ts45 rfl rfl ?_ | refine AL_store rfl (nf rfl) rfl rfl rfl hes rfl rfl (by first | rfl | simp [Lay.len, Lay.lens]) ts45 rfl rfl ?_
  refine AL_nil ?_
  refine hK2 _ _ _ ?_
  refine AC_seq fun K3 hK3 => ?_
  refine AC_region ?_
  first | refine AL_ev (Ev_fa_ptr rfl fa45_3 rfl rfl) rfl ?_ | refine AL_ev (Ev_fa_rp rfl fa45_3 rfl rfl) rfl ?_
  first | refine AL_store rfl (nf rfl) rfl rfl rfl rfl rfl rfl (by first | rfl | simp [Lay.len, Lay.lens]) ts41 rfl rfl ?_ | refine AL_store rfl (nf rfl) rfl rfl rfl hes rfl rfl (by first | rfl | simp [Lay.len, Lay.lens]) ts41 rfl rfl ?_
  refine AL_nil ?_
  refine hK3 _ _ _ ?_
  refine AC_seqJ (fun f L => f = frOf [(1, .d (.fn kk caps)), (2, .ptr LT 0 0 []), (4, .ptr LT 1 0 []), (5, .ptr LT 2 0 [])] ∧ L = [some ⟨45, LT, [.d (inj (.mk k s m ks))]⟩, some ⟨45, LT, [.d zT]⟩, some ⟨45, LT, [.agg [.one, .one, .one, .one] [i64 k, st s, i64 m2, nilsl]]⟩]) ?_ ?_
  · skip
    refine AC_seq fun K5 hK5 => ?_
    refine AC_region ?_
    first | refine AL_ev (Ev_fa_ptr rfl fa45_0 rfl rfl) rfl ?_ | refine AL_ev (Ev_fa_rp rfl fa45_0 rfl rfl) rfl ?_
    first | refine AL_ev (Ev_load_ptr rfl rfl rfl rfl rfl rfl ts3 ta3 rfl (fun _ => rfl)) rfl ?_ | refine AL_ev (Ev_load_rp rfl rfl rfl ts3 ta3 rfl (fun _ => rfl)) rfl ?_
    refine AL_ev (Ev_eql rfl rfl) rfl ?_
    refine AL_nil ?_
    refine hK5 _ _ _ ?_
    refine AC_cond rfl (fun hc1 => ?_) (fun hc1 => ?_)
    · skip
      refine AC_region ?_
      refine AL_ev (Ev_move) rfl ?_
      first | refine AL_ev (Ev_fa_ptr rfl fa45_2 rfl rfl) rfl ?_ | refine AL_ev (Ev_fa_rp rfl fa45_2 rfl rfl) rfl ?_
      first | refine AL_ev (Ev_load_ptr rfl rfl rfl rfl rfl rfl ts3 ta3 rfl (fun _ => rfl)) rfl ?_ | refine AL_ev (Ev_load_rp rfl rfl rfl ts3 ta3 rfl (fun _ => rfl)) rfl ?_
      refine AL_fcall hT rfl hna hcl (hto m) rfl rfl ?_
      first | refine AL_ev (Ev_fa_ptr rfl fa45_2 rfl rfl) rfl ?_ | refine AL_ev (Ev_fa_rp rfl fa45_2 rfl rfl) rfl ?_
      first | refine AL_store rfl (nf rfl) rfl rfl rfl rfl rfl rfl (by first | rfl | simp [Lay.len, Lay.lens]) ts3 rfl rfl ?_ | refine AL_store rfl (nf rfl) rfl rfl rfl hes rfl rfl (by first | rfl | simp [Lay.len, Lay.lens]) ts3 rfl rfl ?_
      refine AL_nil ?_
      simp only [decide_eq_true_eq, decide_eq_false_iff_not] at hc1
      refine joinS [some 0, some 1, some 2] rfl rfl (BxTo_some rfl rfl rfl rfl (.cons (.rd .d) .nil) (BxTo_some rfl rfl rfl rfl (.cons (.rd .d) .nil) (BxTo_some rfl rfl rfl rfl (.cons (.agg (.cons (.rd .d) (.cons (.rd .d) (.cons (Vw_int (by subst hm2; first | rw [if_pos hc1] | rw [if_neg hc1])) (.cons (.rd .d) .nil))))) .nil) BxTo_nil))) (SlTo_cons (by first | exact .rd .d | exact .ptr rfl | exact .ref rfl | exact .any | exact Vw_int (by omega)) (SlTo_cons (by first | exact .rd .d | exact .ptr rfl | exact .ref rfl | exact .any | exact Vw_int (by omega)) (SlTo_cons (by first | exact .rd .d | exact .ptr rfl | exact .ref rfl | exact .any | exact Vw_int (by omega)) (SlTo_cons (by first | exact .rd .d | exact .ptr rfl | exact .ref rfl | exact .any | exact Vw_int (by omega)) SlTo_nil))))
    · skip
      refine AC_skip ?_
      simp only [decide_eq_true_eq, decide_eq_false_iff_not] at hc1
      refine joinS [some 0, some 1, some 2] rfl rfl (BxTo_some rfl rfl rfl rfl (.cons (.rd .d) .nil) (BxTo_some rfl rfl rfl rfl (.cons (.rd .d) .nil) (BxTo_some rfl rfl rfl rfl (.cons (.agg (.cons (.rd .d) (.cons (.rd .d) (.cons (Vw_int (by subst hm2; first | rw [if_pos hc1] | rw [if_neg hc1])) (.cons (.rd .d) .nil))))) .nil) BxTo_nil))) (SlTo_cons (by first | exact .rd .d | exact .ptr rfl | exact .ref rfl | exact .any | exact Vw_int (by omega)) (SlTo_cons (by first | exact .rd .d | exact .ptr rfl | exact .ref rfl | exact .any | exact Vw_int (by omega)) (SlTo_cons (by first | exact .rd .d | exact .ptr rfl | exact .ref rfl | exact .any | exact Vw_int (by omega)) (SlTo_cons (by first | exact .rd .d | exact .ptr rfl | exact .ref rfl | exact .any | exact Vw_int (by omega)) SlTo_nil))))
  · skip
    rintro f L ⟨rfl, rfl⟩
    refine AC_seq fun K6 hK6 => ?_
    refine AC_seq fun K7 hK7 => ?_
    refine AC_region ?_
    first | refine AL_ev (Ev_fa_ptr rfl fa45_3 rfl rfl) rfl ?_ | refine AL_ev (Ev_fa_rp rfl fa45_3 rfl rfl) rfl ?_
    first | refine AL_ev (Ev_load_ptr rfl rfl rfl rfl rfl rfl ts41 ta41 rfl (fun _ => rfl)) rfl ?_ | refine AL_ev (Ev_load_rp rfl rfl rfl ts41 ta41 rfl (fun _ => rfl)) rfl ?_
    first | refine AL_lim (x := (Operand.tmp 19)) rfl fun hl1 => ?_ | refine AL_limB (x := (Operand.tmp 19)) rfl rfl (by first | rfl | (simp; done) | (simp; omega)) fun hl1 => ?_ | have hl1 := True.intro
    try simp only [injs_length, ints_length, strs_length, injCs_length, List.length_map] at hl1
    first | refine AL_ev (Ev_len_injs te41 rfl) rfl ?_ | refine AL_ev (Ev_len_sl te41 rfl) rfl ?_ | refine AL_ev (Ev_len_ref te41 rfl) rfl ?_ | refine AL_ev (Ev_len_nil te41 rfl) rfl ?_ | refine AL_ev (Ev_len_c te41 rfl) rfl ?_
    refine AL_ev (Ev_move) rfl ?_
    refine AL_nil ?_
    refine hK7 _ _ _ ?_
    refine AC_block ?_
    refine AC_loopX (List (List Value) × List Nat) (fun q => [(21, i64 q.1.length)]) (fun q => [some ⟨45, LT, [.d (inj (.mk k s m ks))]⟩, some ⟨45, LT, [.d zT]⟩, some ⟨45, LT, [.agg [.one, .one, .one, .one] [i64 k, st s, i64 m2, .ref LT 3 0 q.1.length]]⟩, some ⟨45, LT, (q.1.map (rawD LT)).map V.d⟩]) (fun q => ks.length - q.1.length) (fun C q => q.1.length ≤ ks.length ∧ CExt C0 C ∧ HasL C0.w0.heap.size C LT q.1 (injs (rnL g (ks.take q.1.length))) q.2) [1, 2, 4, 5, 19, 20] ?_ ?_
    · skip
      refine Fin_wk (Wk_nil_box 2 0 [3] 45 LT rfl rfl rfl rfl 3 rfl rfl ?_)
      exact enterX ([], []) [some 0, some 1, some 2, some 3] rfl rfl ⟨Nat.zero_le _, hX0, HasL.nil⟩ (BxTo_some rfl rfl rfl rfl (.cons (.rd .d) .nil) (BxTo_some rfl rfl rfl rfl (.cons (.rd .d) .nil) (BxTo_some rfl rfl rfl rfl (.cons (.agg (.cons (.rd .d) (.cons (.rd .d) (.cons (.rd .d) (.cons (.ref rfl) .nil))))) .nil) (BxTo_some rfl rfl rfl rfl .nil BxTo_nil)))) (SlTo_cons (by first | exact .rd .d | exact .ptr rfl | exact .ref rfl | exact .any | exact Vw_int (by omega)) (SlTo_cons (by first | exact .rd .d | exact .ptr rfl | exact .ref rfl | exact .any | exact Vw_int (by omega)) (SlTo_cons (by first | exact .rd .d | exact .ptr rfl | exact .ref rfl | exact .any | exact Vw_int (by omega)) (SlTo_cons (by first | exact .rd .d | exact .ptr rfl | exact .ref rfl | exact .any | exact Vw_int (by omega)) (SlTo_cons (by first | exact .rd .d | exact .ptr rfl | exact .ref rfl | exact .any | exact Vw_int (by omega)) (SlTo_cons (by first | exact .rd .d | exact .ptr rfl | exact .ref rfl | exact .any | exact Vw_int (by omega)) (SlTo_cons (by first | exact .rd .d | exact .ptr rfl | exact .ref rfl | exact .any | exact Vw_int (by omega)) SlTo_nil)))))))
    rintro CL q ⟨hj, hX, hL⟩
    have hT := hT0.ext hX
    refine AC_seq fun K8 hK8 => ?_
    refine AC_region ?_
    refine AL_ev (Ev_lss rfl rfl) rfl ?_
    refine AL_nil ?_
    refine hK8 _ _ _ ?_
    refine AC_seq fun K9 hK9 => ?_
    refine AC_cond rfl (fun hc2 => ?_) (fun hc2 => ?_)
    · skip
      have hlt : q.1.length < ks.length := by simpa [injs_length] using hc2
      obtain ⟨u, hu⟩ : ∃ u, ks[q.1.length]? = some u := ⟨_, List.getElem?_eq_getElem hlt⟩
      have hu2 := injs_get hu
      refine AC_skip ?_
      refine hK9 _ _ _ ?_
      refine AC_seq fun K10 hK10 => ?_
      refine AC_block ?_
      refine AC_seq fun K11 hK11 => ?_
      refine AC_region ?_
      first | refine AL_ev (Ev_ix_sl rfl rfl te41 ts45 (by omega) (by assumption)) rfl ?_ | refine AL_ev (Ev_ix_ref rfl rfl te41 ts45 (by omega) (by first | omega | (simp; omega))) rfl ?_
      first | refine AL_ev (Ev_load_ptr rfl rfl rfl rfl rfl rfl ts45 ta45 (by first | rfl | simp) (by intro h; cases h)) rfl ?_ | refine AL_ev (Ev_load_rp rfl rfl rfl ts45 ta45 (by first | rfl | simp) (by intro h; cases h)) rfl ?_
      refine AL_alloc zo45 _ rfl rfl ?_
      first | refine AL_store rfl (nf rfl) rfl rfl rfl rfl rfl rfl (by first | rfl | simp [Lay.len, Lay.lens]) ts45 rfl rfl ?_ | refine AL_store rfl (nf rfl) rfl rfl rfl hes rfl rfl (by first | rfl | simp [Lay.len, Lay.lens]) ts45 rfl rfl ?_
      refine AL_nil ?_
      refine hK11 _ _ _ ?_
      refine AC_draw hT follows [0, 1, 2, 3, 4, 5, 6, 7, 8] (by kernel_rfl) ?_
      first | refine DT_ev rfl (EA_fa_ptr rfl fa45_3 rfl rfl) rfl ?_ | refine DT_ev rfl (EA_fa_rp rfl fa45_3 rfl rfl) rfl ?_
      first | refine DT_ev rfl (EA_load_ptr rfl rfl rfl rfl rfl rfl ts41 ta41 rfl (fun _ => rfl)) rfl ?_ | refine DT_ev rfl (EA_load_rp rfl rfl rfl ts41 ta41 rfl (fun _ => rfl)) rfl ?_
      first | refine DT_ev rfl (EA_load_ptr rfl rfl rfl rfl rfl rfl ts45 ta45 (by first | rfl | simp) (by intro h; cases h)) rfl ?_ | refine DT_ev rfl (EA_load_rp rfl rfl rfl ts45 ta45 (by first | rfl | simp) (by intro h; cases h)) rfl ?_
      refine DT_ev rfl (EA_move) rfl ?_
      refine DT_ocall0d hT LT rfl rfl cl101 (ih u (List.mem_of_getElem? hu)) rfl (inj_lenL _) (inj_agL _) rfl (by kernel_rfl) fun C1 cs1 K1 hg1 => ?_
      have hX1 := hX.trans hg1.ext
      have hT := hT.ext hg1.ext
      refine DT_bD (Lay.st [.one, .one, .one, .one]) rfl rfl te41 ts45 tz45 rfl rfl (by decide) (by decide) (by first | rfl | simp [lenDs, goodVs, goodV, V.known, Lay.len, Lay.lens]) rfl ?_
      first | refine DT_append_sl rfl rfl rfl rfl rfl te41 ts45 tz45 rfl tb45 (by decide) (by decide) rfl (by first | rfl | (simp; done) | (simp; omega)) (by simp only [lim]; first | omega | (simp; done) | (simp; omega)) _ rfl rfl ?_ | refine DT_append_nil rfl rfl rfl rfl rfl te41 ts45 tz45 rfl tb45 (by decide) (by decide) rfl (by first | rfl | (simp; done) | (simp; omega)) (by simp only [lim]; first | omega | (simp; done) | (simp; omega)) _ rfl rfl ?_
      first | refine DT_ev rfl (EA_fa_ptr rfl fa45_3 rfl rfl) rfl ?_ | refine DT_ev rfl (EA_fa_rp rfl fa45_3 rfl rfl) rfl ?_
      first | refine DT_store rfl rfl (nf rfl) rfl rfl rfl rfl rfl rfl (by first | rfl | simp [Lay.len, Lay.lens]) ts41 rfl rfl ?_ | refine DT_store rfl rfl (nf rfl) rfl rfl rfl hes rfl rfl (by first | rfl | simp [Lay.len, Lay.lens]) ts41 rfl rfl ?_
      refine DTi.nil ?_
      refine hK10 _ _ _ ?_
      refine AC_region ?_
      first | refine AL_ev (Ev_add rfl rfl _ (wrap_id (by first | omega | (simp; omega)) (by first | omega | (simp; omega)))) rfl ?_ | refine AL_ev (Ev_add rfl rfl _ rfl) rfl ?_
      refine AL_ev (Ev_move) rfl ?_
      refine AL_nil ?_
      have hst2 : (q.1 ++ [cs1]).length = q.1.length + 1 := by simp
      refine closeX (q.1 ++ [cs1], q.2 ++ K1) [some 0, some 1, some 2, some 5] rfl rfl (by show ks.length - (q.1 ++ [cs1]).length < ks.length - q.1.length; omega) ⟨by show (q.1 ++ [cs1]).length ≤ _; omega, hX1, ?_⟩ (BxTo_some rfl rfl rfl rfl (.cons (.rd .d) .nil) (BxTo_some rfl rfl rfl rfl (.cons (.rd .d) .nil) (BxTo_some rfl rfl rfl rfl (.cons (.agg (.cons (.rd .d) (.cons (.rd .d) (.cons (.rd .d) (.cons (Vw_refe rfl (by first | rfl | simp)) .nil))))) .nil) (BxTo_some rfl rfl rfl rfl (VwL_app (by simp)) BxTo_nil)))) (SlTo_cons (Vw_int (by show _ = (((q.1 ++ [cs1]).length : Nat) : Int); rw [hst2]; omega)) (SlTo_cons (by first | exact .rd .d | exact .ptr rfl | exact .ref rfl | exact .any | exact Vw_int (by omega)) (SlTo_cons (by first | exact .rd .d | exact .ptr rfl | exact .ref rfl | exact .any | exact Vw_int (by omega)) (SlTo_cons (by first | exact .rd .d | exact .ptr rfl | exact .ref rfl | exact .any | exact Vw_int (by omega)) (SlTo_cons (by first | exact .rd .d | exact .ptr rfl | exact .ref rfl | exact .any | exact Vw_int (by omega)) (SlTo_cons (by first | exact .rd .d | exact .ptr rfl | exact .ref rfl | exact .any | exact Vw_int (by omega)) (SlTo_cons (by first | exact .rd .d | exact .ptr rfl | exact .ref rfl | exact .any | exact Vw_int (by omega)) SlTo_nil)))))))
      show HasL _ _ _ (q.1 ++ [cs1]) (injs (rnL g (ks.take (q.1 ++ [cs1]).length))) _
      rw [hst2, rnL_map, ← injs_take_map (rn g) hu, ← rnL_map]
      exact hL.snoc hg1.ext hg1.has hX.pres.size (inj_lenL _)
    · skip
      refine AC_exit ?_
      refine hK6 _ _ _ ?_
      refine AC_seq fun K12 hK12 => ?_
      refine AC_region ?_
      first | refine AL_ev (Ev_load_ptr rfl rfl rfl rfl rfl rfl ts45 ta45 (by first | rfl | simp) (by intro h; cases h)) rfl ?_ | refine AL_ev (Ev_load_rp rfl rfl rfl ts45 ta45 (by first | rfl | simp) (by intro h; cases h)) rfl ?_
      first | refine AL_store rfl (nf rfl) rfl rfl rfl rfl rfl rfl (by first | rfl | simp [Lay.len, Lay.lens]) ts45 rfl rfl ?_ | refine AL_store rfl (nf rfl) rfl rfl rfl hes rfl rfl (by first | rfl | simp [Lay.len, Lay.lens]) ts45 rfl rfl ?_
      refine AL_nil ?_
      refine hK12 _ _ _ ?_
      refine AC_ret ?_
      have hj2 : q.1.length = ks.length := by
        have : ¬ q.1.length < ks.length := by simpa [injs_length] using hc2
        omega
      rw [hj2, List.take_length] at hL
      rw [show rn g (.mk k s m ks) = .mk k s (if k = 1 then g m else m) (rnL g ks) from rfl, hm2]
      exact reto_ok hX hdm (.cell rfl rfl rfl rfl rfl rfl ts45 ta45 rfl (by intro h; cases h) .nil) (ow_T3 rfl rfl (by simp) (OwVs_rawds hL (by first | rfl | simp)) (by simp)) rfl rfl

set_option maxHeartbeats 1000000 in
set_option maxRecDepth 4000 in
theorem c_copyTermO (t : T) : OCall Tryd.prog 73 [inj t] (inj t) := by
  have hrn := c_renamedO id 102 [] cl102 rfl (fun m => c_id m) t
  rw [rn_id] at hrn
  refine OCall_of (n := 5) Tryd.func73 rfl rfl (Nat.le_of_ble_eq_true rfl) fun C0 hdm hT0 => ?_
  have hX0 := CExt.refl C0
  have hT := hT0
  refine AC_seq fun K1 hK1 => ?_
  refine AC_region ?_
  refine AL_box (Lay.st [.one, .one, .one, .one]) (nf rfl) rfl (by first | rfl | simp [Lay.len, Lay.lens]) _ rfl rfl ?_
  refine AL_alloc zo45 _ rfl rfl ?_
  refine AL_nil ?_
  refine hK1 _ _ _ ?_
  refine AC_seq fun K2 hK2 => ?_
  refine AC_region ?_
  first | refine AL_ev (Ev_load_ptr rfl rfl rfl rfl rfl rfl ts45 ta45 (by first | rfl | simp) (by intro h; cases h)) rfl ?_ | refine AL_ev (Ev_load_rp rfl rfl rfl ts45 ta45 (by first | rfl | simp) (by intro h; cases h)) rfl ?_
  refine AL_ocall0 hT LT rfl cl101 (hrn) rfl (inj_lenL _) (inj_agL _) rfl fun C1 cs1 K1 hg1 => ?_
  have hX1 := hX0.trans hg1.ext
  have hT := hT.ext hg1.ext
  first | refine AL_store rfl (nf rfl) rfl rfl rfl rfl rfl rfl (by first | rfl | simp [Lay.len, Lay.lens]) ts45 rfl rfl ?_ | refine AL_store rfl (nf rfl) rfl rfl rfl hes rfl rfl (by first | rfl | simp [Lay.len, Lay.lens]) ts45 rfl rfl ?_
  refine AL_nil ?_
  refine hK2 _ _ _ ?_
  refine AC_ret ?_
  exact reto_ok hX1 hdm (.cell rfl rfl rfl rfl rfl rfl ts45 ta45 rfl (by intro h; cases h) .nil) (.raw (hg1.has.le hX0.pres.size) hg1.len) (by rw [inj_agg]; rfl) rfl

set_option maxHeartbeats 4000000 in
set_option maxRecDepth 4000 in
theorem c_goalsIn (t : T) : bulk t ≤ 1099511627775 → OTCall Tryd.prog 27 [inj t] 45 LT (injs (goalsIn t).1) [.bool (goalsIn t).2] := by
  induction t using T.ind with | h k s m ks ih => ?_
  intro hb
  have hsb := sz_bulk (.mk k s m ks)
  refine OTCall_of (n := 60) Tryd.func27 rfl rfl (Nat.le_of_ble_eq_true rfl) fun C0 hdm hT0 => ?_
  have hX0 := CExt.refl C0
  have hT := hT0
  refine AC_seq fun K1 hK1 => ?_
  refine AC_region ?_
  refine AL_box (Lay.st [.one, .one, .one, .one]) (nf rfl) rfl (by first | rfl | simp [Lay.len, Lay.lens]) _ rfl rfl ?_
  refine AL_ev (Ev_assign) rfl ?_
  refine AL_ev (Ev_assign) rfl ?_
  refine AL_nil ?_
  refine hK1 _ _ _ ?_
  refine AC_seq fun K2 hK2 => ?_
  refine AC_region ?_
  first | refine AL_ev (Ev_load_ptr rfl rfl rfl rfl rfl rfl ts45 ta45 (by first | rfl | simp) (by intro h; cases h)) rfl ?_ | refine AL_ev (Ev_load_rp rfl rfl rfl ts45 ta45 (by first | rfl | simp) (by intro h; cases h)) rfl ?_
  refine AL_fcall0 hT rfl cl63 (c_predOf _ (by omega)) rfl rfl ?_
  refine AL_ev (Ev_assign) rfl ?_
  refine AL_nil ?_
  refine hK2 _ _ _ ?_
  refine AC_seq fun K3 hK3 => ?_
  refine AC_block ?_
  refine AC_seq fun K4 hK4 => ?_
  refine AC_region ?_
  first | refine AL_ev (Ev_load_ptr rfl rfl rfl rfl rfl rfl ts45 ta45 (by first | rfl | simp) (by intro h; cases h)) rfl ?_ | refine AL_ev (Ev_load_rp rfl rfl rfl ts45 ta45 (by first | rfl | simp) (by intro h; cases h)) rfl ?_
  refine AL_fcall0 hT rfl cl71 (c_termOk _ (by omega)) rfl rfl ?_
  refine AL_ev (Ev_not rfl) rfl ?_
  refine AL_ev (Ev_assign) rfl ?_
  refine AL_nil ?_
  refine hK4 _ _ _ ?_
  refine AC_cond rfl (fun hc1 => ?_) (fun hc1 => ?_)
  · skip
    refine AC_seq fun K5 hK5 => ?_
    refine AC_region ?_
    refine AL_ev (Ev_assign) rfl ?_
    refine AL_ev (Ev_assign) rfl ?_
    refine AL_nil ?_
    refine hK5 _ _ _ ?_
    refine AC_ret ?_
    have hq : goalsIn (.mk k s m ks) = ([], false) := by rw [goalsIn_bad (by simpa using hc1)]
    exact rett_eq [.bool false] hX0 hdm (.tmp rfl rfl (.tmp rfl rfl .nil)) .nil (congrArg (fun q => injs q.1) hq) (congrArg (fun q => [Value.bool q.2]) hq)
  · skip
    have hok : okT (.mk k s m ks) = true := by simpa using hc1
    refine AC_seq fun K6 hK6 => ?_
    refine AC_region ?_
    refine AL_ev (Ev_move) rfl ?_
    refine AL_ev (Ev_seql rfl rfl) rfl ?_
    refine AL_ev (Ev_assign) rfl ?_
    refine AL_nil ?_
    refine hK6 _ _ _ ?_
    refine AC_cond rfl (fun hc2 => ?_) (fun hc2 => ?_)
    · skip
      obtain ⟨x, y, rfl⟩ := comma_kids (of_decide_eq_true hc2)
      have hp := of_decide_eq_true hc2
      have hu0 : (injs [x, y])[(0 : Int).toNat]? = some (inj x) := rfl
      have hu1 : (injs [x, y])[(1 : Int).toNat]? = some (inj y) := rfl
      have hlx := goalsIn_len x
      have hly := goalsIn_len y
      simp only [sz, szs] at hsb
      refine AC_seq fun K7 hK7 => ?_
      refine AC_region ?_
      first | refine AL_ev (Ev_fa_ptr rfl fa45_3 rfl rfl) rfl ?_ | refine AL_ev (Ev_fa_rp rfl fa45_3 rfl rfl) rfl ?_
      first | refine AL_ev (Ev_load_ptr rfl rfl rfl rfl rfl rfl ts41 ta41 rfl (fun _ => rfl)) rfl ?_ | refine AL_ev (Ev_load_rp rfl rfl rfl ts41 ta41 rfl (fun _ => rfl)) rfl ?_
      first | refine AL_ev (Ev_ix_sl rfl rfl te41 ts45 (by omega) (by assumption)) rfl ?_ | refine AL_ev (Ev_ix_ref rfl rfl te41 ts45 (by omega) (by first | omega | (simp; omega))) rfl ?_
      first | refine AL_ev (Ev_load_ptr rfl rfl rfl rfl rfl rfl ts45 ta45 (by first | rfl | simp) (by intro h; cases h)) rfl ?_ | refine AL_ev (Ev_load_rp rfl rfl rfl ts45 ta45 (by first | rfl | simp) (by intro h; cases h)) rfl ?_
      refine AL_otcall hT rfl cl27 (ih x (by simp) (bulk_mem hb x (by simp))) rfl rfl _ rfl rfl fun C1 css1 K1 hgt1 hl1 hcl1 => ?_
      simp only [injs_length, ints_length, strs_length] at hcl1
      have hX1 := hX0.trans hgt1
      have hT := hT.ext hgt1
      refine AL_ev (Ev_move) rfl ?_
      refine AL_ev (Ev_extract rfl rfl) rfl ?_
      refine AL_ev (Ev_extract rfl rfl) rfl ?_
      refine AL_ev (Ev_assign) rfl ?_
      refine AL_ev (Ev_assign) rfl ?_
      refine AL_nil ?_
      refine hK7 _ _ _ ?_
      refine AC_seq fun K8 hK8 => ?_
      refine AC_region ?_
      first | refine AL_ev (Ev_fa_ptr rfl fa45_3 rfl rfl) rfl ?_ | refine AL_ev (Ev_fa_rp rfl fa45_3 rfl rfl) rfl ?_
      first | refine AL_ev (Ev_load_ptr rfl rfl rfl rfl rfl rfl ts41 ta41 rfl (fun _ => rfl)) rfl ?_ | refine AL_ev (Ev_load_rp rfl rfl rfl ts41 ta41 rfl (fun _ => rfl)) rfl ?_
      first | refine AL_ev (Ev_ix_sl rfl rfl te41 ts45 (by omega) (by assumption)) rfl ?_ | refine AL_ev (Ev_ix_ref rfl rfl te41 ts45 (by omega) (by first | omega | (simp; omega))) rfl ?_
      first | refine AL_ev (Ev_load_ptr rfl rfl rfl rfl rfl rfl ts45 ta45 (by first | rfl | simp) (by intro h; cases h)) rfl ?_ | refine AL_ev (Ev_load_rp rfl rfl rfl ts45 ta45 (by first | rfl | simp) (by intro h; cases h)) rfl ?_
      refine AL_otcall hT rfl cl27 (ih y (by simp) (bulk_mem hb y (by simp))) rfl rfl _ rfl rfl fun C2 css2 K2 hgt2 hl2 hcl2 => ?_
      simp only [injs_length, ints_length, strs_length] at hcl2
      have hX2 := hX1.trans hgt2
      have hT := hT.ext hgt2
      refine AL_ev (Ev_move) rfl ?_
      refine AL_ev (Ev_extract rfl rfl) rfl ?_
      refine AL_ev (Ev_extract rfl rfl) rfl ?_
      refine AL_ev (Ev_assign) rfl ?_
      refine AL_ev (Ev_assign) rfl ?_
      refine AL_nil ?_
      refine hK8 _ _ _ ?_
      refine AC_seq fun K9 hK9 => ?_
      refine AC_seq fun K10 hK10 => ?_
      refine AC_region ?_
      refine AL_ev (Ev_move) rfl ?_
      refine AL_ev (Ev_not rfl) rfl ?_
      refine AL_ev (Ev_move) rfl ?_
      refine AL_bool 36 rfl (fun hg3 => ?_) (fun hg3 => ?_)
      · skip
        refine AL_guard_f rfl rfl rfl rfl ?_
        refine AL_guard_f rfl rfl rfl rfl ?_
        refine AL_ev (Ev_pick rfl) rfl ?_
        refine AL_nil ?_
        refine hK10 _ _ _ ?_
        refine AC_cond_t rfl ?_
        refine AC_seq fun K11 hK11 => ?_
        refine AC_region ?_
        refine AL_ev (Ev_assign) rfl ?_
        refine AL_ev (Ev_assign) rfl ?_
        refine AL_nil ?_
        refine hK11 _ _ _ ?_
        refine AC_ret ?_
        have hq : goalsIn (.mk k s m [x, y]) = ([], false) := by rw [goalsIn_two hok hp, if_neg (fun h => by simp [h.1] at hg3)]
        exact rett_eq [.bool false] hX2 hdm (.tmp rfl rfl (.tmp rfl rfl .nil)) .nil (congrArg (fun q => injs q.1) hq) (congrArg (fun q => [Value.bool q.2]) hq)
      · skip
        refine AL_guard_t rfl rfl rfl ?_
        refine AL_ev (Ev_move) rfl ?_
        refine AL_guard_t rfl rfl rfl ?_
        refine AL_ev (Ev_not rfl) rfl ?_
        refine AL_ev (Ev_pick rfl) rfl ?_
        refine AL_nil ?_
        refine hK10 _ _ _ ?_
        refine AC_cond rfl (fun hc4 => ?_) (fun hc4 => ?_)
        · skip
          refine AC_seq fun K12 hK12 => ?_
          refine AC_region ?_
          refine AL_ev (Ev_assign) rfl ?_
          refine AL_ev (Ev_assign) rfl ?_
          refine AL_nil ?_
          refine hK12 _ _ _ ?_
          refine AC_ret ?_
          have hq : goalsIn (.mk k s m [x, y]) = ([], false) := by rw [goalsIn_two hok hp, if_neg (fun h => by simp [h.2] at hc4)]
          exact rett_eq [.bool false] hX2 hdm (.tmp rfl rfl (.tmp rfl rfl .nil)) .nil (congrArg (fun q => injs q.1) hq) (congrArg (fun q => [Value.bool q.2]) hq)
        · skip
          refine AC_skip ?_
          refine hK9 _ _ _ ?_
          refine AC_seq fun K13 hK13 => ?_
          refine AC_region ?_
          refine AL_ev (Ev_move) rfl ?_
          refine AL_ev (Ev_move) rfl ?_
          first | refine AL_append rfl rfl rfl te41 ts45 tz45 rfl tb45 (by decide) (by decide) rfl (by first | rfl | (simp; done) | (simp; omega)) (Src_sl rfl) (by simp only [lim]; first | omega | (simp; done) | (simp; omega)) _ rfl rfl ?_ | refine AL_append rfl rfl rfl te41 ts45 tz45 rfl tb45 (by decide) (by decide) rfl (by first | rfl | (simp; done) | (simp; omega)) (Src_ref rfl rfl rfl (by first | rfl | (simp; done) | (simp; omega))) (by simp only [lim]; first | omega | (simp; done) | (simp; omega)) _ rfl rfl ?_ | refine AL_append rfl rfl rfl te41 ts45 tz45 rfl tb45 (by decide) (by decide) rfl (by first | rfl | (simp; done) | (simp; omega)) (Src_nil rfl) (by simp only [lim]; first | omega | (simp; done) | (simp; omega)) _ rfl rfl ?_
          refine AL_ev (Ev_assign) rfl ?_
          refine AL_ev (Ev_assign) rfl ?_
          refine AL_nil ?_
          refine hK13 _ _ _ ?_
          refine AC_ret ?_
          have hap := (hl1.ext hgt2).app hl2 hX1.pres.size hl1.lt
          rw [← injs_app] at hap
          have hq : goalsIn (.mk k s m [x, y]) = ((goalsIn x).1 ++ (goalsIn y).1, true) := by rw [goalsIn_two hok hp, if_pos ⟨by simpa using hg3, by simpa using hc4⟩]
          exact rett_eq [.bool true] hX2 hdm (.tmp rfl rfl (.tmp rfl rfl .nil)) (.ref rfl rfl rfl (by first | (simp; done) | (simp; omega)) (OwVs_rawds2 hap (by first | rfl | (simp; omega))) (by simp)) (congrArg (fun q => injs q.1) hq) (congrArg (fun q => [Value.bool q.2]) hq)
    · skip
      have hn2 := of_decide_eq_false hc2
      refine AC_seq fun K14 hK14 => ?_
      refine AC_region ?_
      refine AL_ev (Ev_move) rfl ?_
      refine AL_ev (Ev_seql rfl rfl) rfl ?_
      refine AL_ev (Ev_assign) rfl ?_
      refine AL_nil ?_
      refine hK14 _ _ _ ?_
      refine AC_cond rfl (fun hc5 => ?_) (fun hc5 => ?_)
      · skip
        refine AC_seq fun K15 hK15 => ?_
        refine AC_region ?_
        refine AL_ev (Ev_assign) rfl ?_
        refine AL_ev (Ev_assign) rfl ?_
        refine AL_nil ?_
        refine hK15 _ _ _ ?_
        refine AC_ret ?_
        have hq : goalsIn (.mk k s m ks) = ([], true) := by rw [goalsIn_true hok (of_decide_eq_true hc5)]
        exact rett_eq [.bool true] hX0 hdm (.tmp rfl rfl (.tmp rfl rfl .nil)) .nil (congrArg (fun q => injs q.1) hq) (congrArg (fun q => [Value.bool q.2]) hq)
      · skip
        have hn4 := of_decide_eq_false hc5
        refine AC_seq fun K16 hK16 => ?_
        refine AC_region ?_
        refine AL_ev (Ev_move) rfl ?_
        refine AL_ev (Ev_seql rfl rfl) rfl ?_
        refine AL_ev (Ev_move) rfl ?_
        refine AL_bool 49 rfl (fun hg6 => ?_) (fun hg6 => ?_)
        · skip
          refine AL_guard_f rfl rfl rfl rfl ?_
          refine AL_guard_f rfl rfl rfl rfl ?_
          refine AL_guard_f rfl rfl rfl rfl ?_
          refine AL_guard_u rfl rfl rfl rfl ?_
          refine AL_guard_u rfl rfl rfl rfl ?_
          refine AL_guard_f rfl rfl rfl rfl ?_
          refine AL_ev (Ev_pick rfl) rfl ?_
          refine AL_ev (Ev_assign) rfl ?_
          refine AL_nil ?_
          refine hK16 _ _ _ ?_
          refine AC_cond_t rfl ?_
          refine AC_seq fun K17 hK17 => ?_
          refine AC_region ?_
          refine AL_ev (Ev_assign) rfl ?_
          refine AL_ev (Ev_assign) rfl ?_
          refine AL_nil ?_
          refine hK17 _ _ _ ?_
          refine AC_ret ?_
          have hq : goalsIn (.mk k s m ks) = ([], false) := by rw [goalsIn_end hok hn2 hn4, if_pos (.inl (of_decide_eq_true hg6))]
          exact rett_eq [.bool false] hX0 hdm (.tmp rfl rfl (.tmp rfl rfl .nil)) .nil (congrArg (fun q => injs q.1) hq) (congrArg (fun q => [Value.bool q.2]) hq)
        · skip
          have hpe := of_decide_eq_false hg6
          refine AL_guard_t rfl rfl rfl ?_
          refine AL_ev (Ev_move) rfl ?_
          refine AL_guard_t rfl rfl rfl ?_
          refine AL_fcall0 hT rfl cl72 (c_control (predS (.mk k s m ks))) rfl rfl ?_
          refine AL_guard_t rfl rfl rfl ?_
          refine AL_ev (Ev_move) rfl ?_
          refine AL_bool 52 rfl (fun hg7 => ?_) (fun hg7 => ?_)
          · skip
            have hctl := hg7
            refine AL_guard_t rfl rfl rfl ?_
            refine AL_ev (Ev_move) rfl ?_
            refine AL_guard_t rfl rfl rfl ?_
            refine AL_ev (Ev_sneq rfl rfl) rfl ?_
            refine AL_guard_t rfl rfl rfl ?_
            refine AL_ev (Ev_pick rfl) rfl ?_
            refine AL_ev (Ev_pick rfl) rfl ?_
            refine AL_ev (Ev_assign) rfl ?_
            refine AL_nil ?_
            refine hK16 _ _ _ ?_
            refine AC_cond rfl (fun hc8 => ?_) (fun hc8 => ?_)
            · skip
              refine AC_seq fun K18 hK18 => ?_
              refine AC_region ?_
              refine AL_ev (Ev_assign) rfl ?_
              refine AL_ev (Ev_assign) rfl ?_
              refine AL_nil ?_
              refine hK18 _ _ _ ?_
              refine AC_ret ?_
              have hq : goalsIn (.mk k s m ks) = ([], false) := by rw [goalsIn_end hok hn2 hn4, if_pos (.inr ⟨hctl, by simpa using hc8⟩)]
              exact rett_eq [.bool false] hX0 hdm (.tmp rfl rfl (.tmp rfl rfl .nil)) .nil (congrArg (fun q => injs q.1) hq) (congrArg (fun q => [Value.bool q.2]) hq)
            · skip
              refine AC_skip ?_
              refine hK3 _ _ _ ?_
              refine AC_seq fun K19 hK19 => ?_
              refine AC_region ?_
              first | refine AL_ev (Ev_load_ptr rfl rfl rfl rfl rfl rfl ts45 ta45 (by first | rfl | simp) (by intro h; cases h)) rfl ?_ | refine AL_ev (Ev_load_rp rfl rfl rfl ts45 ta45 (by first | rfl | simp) (by intro h; cases h)) rfl ?_
              refine AL_ocall0d hT LT rfl cl73 (c_copyTermO (.mk k s m ks)) rfl (inj_lenL _) (inj_agL _) rfl fun C3 cs3 K3 hg3 => ?_
              have hX3 := hX0.trans hg3.ext
              have hT := hT.ext hg3.ext
              refine AL_bV (Lay.st [.one, .one, .one, .one]) rfl te41 ts45 tz45 rfl rfl (by decide) (by decide) (by first | rfl | simp [lenDs, goodVs, goodV, V.known, Lay.len, Lay.lens]) _ rfl rfl ?_
              refine AL_ev (Ev_assign) rfl ?_
              refine AL_ev (Ev_assign) rfl ?_
              refine AL_nil ?_
              refine hK19 _ _ _ ?_
              refine AC_ret ?_
              have hq : goalsIn (.mk k s m ks) = ([.mk k s m ks], true) := by rw [goalsIn_end hok hn2 hn4, if_neg (by simp_all)]
              exact rett_eq [.bool true] hX3 hdm (.tmp rfl rfl (.tmp rfl rfl .nil)) (.ref rfl rfl rfl rfl (OwVs_rawds (css := [cs3]) (HasL.one hg3 (Nat.le_refl _) (inj_lenL _)) rfl) (by simp)) (congrArg (fun q => injs q.1) hq) (congrArg (fun q => [Value.bool q.2]) hq)
          · skip
            have hctl := hg7
            refine AL_guard_f rfl rfl rfl rfl ?_
            refine AL_guard_f rfl rfl rfl rfl ?_
            refine AL_guard_t rfl rfl rfl ?_
            refine AL_ev (Ev_pick rfl) rfl ?_
            refine AL_ev (Ev_pick rfl) rfl ?_
            refine AL_ev (Ev_assign) rfl ?_
            refine AL_nil ?_
            refine hK16 _ _ _ ?_
            refine AC_cond_f rfl ?_
            refine AC_skip ?_
            refine hK3 _ _ _ ?_
            refine AC_seq fun K20 hK20 => ?_
            refine AC_region ?_
            first | refine AL_ev (Ev_load_ptr rfl rfl rfl rfl rfl rfl ts45 ta45 (by first | rfl | simp) (by intro h; cases h)) rfl ?_ | refine AL_ev (Ev_load_rp rfl rfl rfl ts45 ta45 (by first | rfl | simp) (by intro h; cases h)) rfl ?_
            refine AL_ocall0d hT LT rfl cl73 (c_copyTermO (.mk k s m ks)) rfl (inj_lenL _) (inj_agL _) rfl fun C4 cs4 K4 hg4 => ?_
            have hX4 := hX0.trans hg4.ext
            have hT := hT.ext hg4.ext
            refine AL_bV (Lay.st [.one, .one, .one, .one]) rfl te41 ts45 tz45 rfl rfl (by decide) (by decide) (by first | rfl | simp [lenDs, goodVs, goodV, V.known, Lay.len, Lay.lens]) _ rfl rfl ?_
            refine AL_ev (Ev_assign) rfl ?_
            refine AL_ev (Ev_assign) rfl ?_
            refine AL_nil ?_
            refine hK20 _ _ _ ?_
            refine AC_ret ?_
            have hq : goalsIn (.mk k s m ks) = ([.mk k s m ks], true) := by rw [goalsIn_end hok hn2 hn4, if_neg (by simp_all)]
            exact rett_eq [.bool true] hX4 hdm (.tmp rfl rfl (.tmp rfl rfl .nil)) (.ref rfl rfl rfl rfl (OwVs_rawds (css := [cs4]) (HasL.one hg4 (Nat.le_refl _) (inj_lenL _)) rfl) (by simp)) (congrArg (fun q => injs q.1) hq) (congrArg (fun q => [Value.bool q.2]) hq)

set_option maxHeartbeats 1000000 in
set_option maxRecDepth 4000 in
theorem c_l25Goals (t : T) : ∀ out : List T, bulk t ≤ 1099511627776 → out.length + sz t ≤ 1099511627776 → BTCall Tryd.prog 98 [inj t] 45 LT (injs out) [] (injs (goalsP t out).1) [.bool (goalsP t out).2] := by
  induction t using T.ind with | h k s m ks ih => ?_
  intro out hb hl
  have hsp := sz_pos (.mk k s m ks)
  refine BTCall_of (n := 56) Tryd.func98 rfl rfl (Nat.le_of_ble_eq_true rfl) fun C o hdm hT => ?_
  refine AC_seq fun K1 hK1 => ?_
  refine AC_region ?_
  refine AL_box (Lay.st [.one, .one, .one, .one]) (nf rfl) rfl (by first | rfl | simp [Lay.len, Lay.lens]) _ rfl rfl ?_
  refine AL_ev (Ev_assign) rfl ?_
  refine AL_ev (Ev_assign) rfl ?_
  refine AL_nil ?_
  refine hK1 _ _ _ ?_
  refine AC_seq fun K2 hK2 => ?_
  refine AC_region ?_
  first | refine AL_ev (Ev_load_ptr rfl rfl rfl rfl rfl rfl ts45 ta45 (by first | rfl | simp) (by intro h; cases h)) rfl ?_ | refine AL_ev (Ev_load_rp rfl rfl rfl ts45 ta45 (by first | rfl | simp) (by intro h; cases h)) rfl ?_
  refine AL_fcall0 hT rfl cl60 (c_specPredOf _ hb) rfl rfl ?_
  refine AL_ev (Ev_assign) rfl ?_
  refine AL_nil ?_
  refine hK2 _ _ _ ?_
  refine AC_seq fun K3 hK3 => ?_
  refine AC_block ?_
  refine AC_seq fun K4 hK4 => ?_
  refine AC_region ?_
  refine AL_ev (Ev_move) rfl ?_
  refine AL_ev (Ev_seql rfl rfl) rfl ?_
  refine AL_ev (Ev_assign) rfl ?_
  refine AL_nil ?_
  refine hK4 _ _ _ ?_
  refine AC_cond rfl (fun hc1 => ?_) (fun hc1 => ?_)
  · skip
    refine AC_seq fun K5 hK5 => ?_
    refine AC_region ?_
    refine AL_ev (Ev_move) rfl ?_
    refine AL_ev (Ev_assign) rfl ?_
    refine AL_ev (Ev_assign) rfl ?_
    refine AL_nil ?_
    refine hK5 _ _ _ ?_
    refine AC_ret ?_
    have hq : goalsP (.mk k s m ks) out = (out, true) := by rw [goalsP_true (of_decide_eq_true hc1)]
    exact retbt_eq [.bool (true)] (ys := injs (out)) hdm (.tmp rfl rfl (.tmp rfl rfl .nil)) rfl (by first | rfl | simp [injs_map]) (by first | rfl | simp) (congrArg (fun q => injs q.1) hq) (congrArg (fun q => [Value.bool q.2]) hq)
  · skip
    have hn1 := of_decide_eq_false hc1
    refine AC_seq fun K6 hK6 => ?_
    refine AC_region ?_
    refine AL_ev (Ev_move) rfl ?_
    refine AL_ev (Ev_seql rfl rfl) rfl ?_
    refine AL_ev (Ev_assign) rfl ?_
    refine AL_nil ?_
    refine hK6 _ _ _ ?_
    refine AC_cond rfl (fun hc2 => ?_) (fun hc2 => ?_)
    · skip
      obtain ⟨x, y, rfl⟩ := comma_kids (of_decide_eq_true hc2)
      have hp := of_decide_eq_true hc2
      have hu0 : (injs [x, y])[(0 : Int).toNat]? = some (inj x) := rfl
      have hu1 : (injs [x, y])[(1 : Int).toNat]? = some (inj y) := rfl
      have hlx := goalsP_len x out
      simp only [sz, szs] at hl
      refine AC_seq fun K7 hK7 => ?_
      refine AC_region ?_
      first | refine AL_ev (Ev_fa_ptr rfl fa45_3 rfl rfl) rfl ?_ | refine AL_ev (Ev_fa_rp rfl fa45_3 rfl rfl) rfl ?_
      first | refine AL_ev (Ev_load_ptr rfl rfl rfl rfl rfl rfl ts41 ta41 rfl (fun _ => rfl)) rfl ?_ | refine AL_ev (Ev_load_rp rfl rfl rfl ts41 ta41 rfl (fun _ => rfl)) rfl ?_
      first | refine AL_ev (Ev_ix_sl rfl rfl te41 ts45 (by omega) (by assumption)) rfl ?_ | refine AL_ev (Ev_ix_ref rfl rfl te41 ts45 (by omega) (by first | omega | (simp; omega))) rfl ?_
      first | refine AL_ev (Ev_load_ptr rfl rfl rfl rfl rfl rfl ts45 ta45 (by first | rfl | simp) (by intro h; cases h)) rfl ?_ | refine AL_ev (Ev_load_rp rfl rfl rfl ts45 ta45 (by first | rfl | simp) (by intro h; cases h)) rfl ?_
      refine AL_ev (Ev_move) rfl ?_
      first | refine AL_btcall rfl hT _ _ [(Operand.tmp 22)] rfl cl98 rfl rfl rfl rfl (ih x (by simp) out (bulk_mem hb x (by simp)) (by omega)) rfl rfl (by first | rfl | (simp; done) | (simp; omega)) _ rfl rfl ?_ | refine AL_btcalln rfl hT [(Operand.tmp 22)] rfl cl98 rfl rfl rfl rfl (ih x (by simp) out (bulk_mem hb x (by simp)) (by omega)) _ rfl rfl ?_
      refine AL_ev (Ev_move) rfl ?_
      refine AL_ev (Ev_extract rfl rfl) rfl ?_
      refine AL_ev (Ev_extract rfl rfl) rfl ?_
      refine AL_ev (Ev_assign) rfl ?_
      refine AL_ev (Ev_assign) rfl ?_
      refine AL_nil ?_
      refine hK7 _ _ _ ?_
      refine AC_seq fun K8 hK8 => ?_
      refine AC_seq fun K9 hK9 => ?_
      refine AC_region ?_
      refine AL_ev (Ev_move) rfl ?_
      refine AL_ev (Ev_not rfl) rfl ?_
      refine AL_nil ?_
      refine hK9 _ _ _ ?_
      refine AC_cond rfl (fun hc3 => ?_) (fun hc3 => ?_)
      · skip
        refine AC_seq fun K10 hK10 => ?_
        refine AC_region ?_
        refine AL_ev (Ev_move) rfl ?_
        refine AL_ev (Ev_assign) rfl ?_
        refine AL_ev (Ev_assign) rfl ?_
        refine AL_nil ?_
        refine hK10 _ _ _ ?_
        refine AC_ret ?_
        have hq : goalsP (.mk k s m [x, y]) out = ((goalsP x out).1, false) := by rw [goalsP_two hp, if_neg (by simpa using hc3)]
        exact retbt_eq [.bool (false)] (ys := injs ((goalsP x out).1)) hdm (.tmp rfl rfl (.tmp rfl rfl .nil)) rfl (by first | rfl | simp [injs_map]) (by first | rfl | simp) (congrArg (fun q => injs q.1) hq) (congrArg (fun q => [Value.bool q.2]) hq)
      · skip
        refine AC_skip ?_
        refine hK8 _ _ _ ?_
        refine AC_seq fun K11 hK11 => ?_
        refine AC_region ?_
        first | refine AL_ev (Ev_fa_ptr rfl fa45_3 rfl rfl) rfl ?_ | refine AL_ev (Ev_fa_rp rfl fa45_3 rfl rfl) rfl ?_
        first | refine AL_ev (Ev_load_ptr rfl rfl rfl rfl rfl rfl ts41 ta41 rfl (fun _ => rfl)) rfl ?_ | refine AL_ev (Ev_load_rp rfl rfl rfl ts41 ta41 rfl (fun _ => rfl)) rfl ?_
        first | refine AL_ev (Ev_ix_sl rfl rfl te41 ts45 (by omega) (by assumption)) rfl ?_ | refine AL_ev (Ev_ix_ref rfl rfl te41 ts45 (by omega) (by first | omega | (simp; omega))) rfl ?_
        first | refine AL_ev (Ev_load_ptr rfl rfl rfl rfl rfl rfl ts45 ta45 (by first | rfl | simp) (by intro h; cases h)) rfl ?_ | refine AL_ev (Ev_load_rp rfl rfl rfl ts45 ta45 (by first | rfl | simp) (by intro h; cases h)) rfl ?_
        refine AL_ev (Ev_move) rfl ?_
        first | refine AL_btcall rfl hT _ _ [(Operand.tmp 33)] rfl cl98 rfl rfl rfl rfl (ih y (by simp) (goalsP x out).1 (bulk_mem hb y (by simp)) (by omega)) rfl rfl (by first | rfl | (simp; done) | (simp; omega)) _ rfl rfl ?_ | refine AL_btcalln rfl hT [(Operand.tmp 33)] rfl cl98 rfl rfl rfl rfl (ih y (by simp) (goalsP x out).1 (bulk_mem hb y (by simp)) (by omega)) _ rfl rfl ?_
        refine AL_ev (Ev_extract rfl rfl) rfl ?_
        refine AL_ev (Ev_extract rfl rfl) rfl ?_
        refine AL_ev (Ev_assign) rfl ?_
        refine AL_ev (Ev_assign) rfl ?_
        refine AL_nil ?_
        refine hK11 _ _ _ ?_
        refine AC_ret ?_
        have hq : goalsP (.mk k s m [x, y]) out = ((goalsP y (goalsP x out).1).1, (goalsP y (goalsP x out).1).2) := by rw [goalsP_two hp, if_pos (by simpa using hc3)]
        exact retbt_eq [.bool ((goalsP y (goalsP x out).1).2)] (ys := injs ((goalsP y (goalsP x out).1).1)) hdm (.tmp rfl rfl (.tmp rfl rfl .nil)) rfl (by first | rfl | simp [injs_map]) (by first | rfl | simp) (congrArg (fun q => injs q.1) hq) (congrArg (fun q => [Value.bool q.2]) hq)
    · skip
      have hn2 := of_decide_eq_false hc2
      refine AC_seq fun K12 hK12 => ?_
      refine AC_region ?_
      refine AL_ev (Ev_move) rfl ?_
      refine AL_ev (Ev_seql rfl rfl) rfl ?_
      refine AL_ev (Ev_assign) rfl ?_
      refine AL_nil ?_
      refine hK12 _ _ _ ?_
      refine AC_cond rfl (fun hc4 => ?_) (fun hc4 => ?_)
      · skip
        refine AC_seq fun K13 hK13 => ?_
        refine AC_region ?_
        refine AL_ev (Ev_move) rfl ?_
        first | refine AL_ev (Ev_load_ptr rfl rfl rfl rfl rfl rfl ts45 ta45 (by first | rfl | simp) (by intro h; cases h)) rfl ?_ | refine AL_ev (Ev_load_rp rfl rfl rfl ts45 ta45 (by first | rfl | simp) (by intro h; cases h)) rfl ?_
        first | refine AL_bD (Lay.st [.one, .one, .one, .one]) rfl te41 ts45 tz45 rfl rfl (by decide) (by decide) (by first | rfl | simp [lenDs, goodVs, goodV, V.known, Lay.len, Lay.lens]) rfl ?_ | refine AL_bV (Lay.st [.one, .one, .one, .one]) rfl te41 ts45 tz45 rfl rfl (by decide) (by decide) (by first | rfl | simp [lenDs, goodVs, goodV, V.known, Lay.len, Lay.lens]) _ rfl rfl ?_
        first | refine AL_append rfl rfl rfl te41 ts45 tz45 rfl tb45 (by decide) (by decide) rfl (by first | rfl | (simp; done) | (simp; omega)) (Src_sl rfl) (by simp only [lim]; first | omega | (simp; done) | (simp; omega)) _ rfl rfl ?_ | refine AL_append rfl rfl rfl te41 ts45 tz45 rfl tb45 (by decide) (by decide) rfl (by first | rfl | (simp; done) | (simp; omega)) (Src_ref rfl rfl rfl (by first | rfl | (simp; done) | (simp; omega))) (by simp only [lim]; first | omega | (simp; done) | (simp; omega)) _ rfl rfl ?_ | refine AL_append rfl rfl rfl te41 ts45 tz45 rfl tb45 (by decide) (by decide) rfl (by first | rfl | (simp; done) | (simp; omega)) (Src_nil rfl) (by simp only [lim]; first | omega | (simp; done) | (simp; omega)) _ rfl rfl ?_
        refine AL_ev (Ev_assign) rfl ?_
        refine AL_ev (Ev_assign) rfl ?_
        refine AL_nil ?_
        refine hK13 _ _ _ ?_
        refine AC_ret ?_
        have hq : goalsP (.mk k s m ks) out = (out ++ [.mk k s m ks], true) := by rw [goalsP_eq (of_decide_eq_true hc4)]
        exact retbt_eq [.bool (true)] (ys := injs (out ++ [.mk k s m ks])) hdm (.tmp rfl rfl (.tmp rfl rfl .nil)) rfl (by first | rfl | simp [injs_map]) (by first | rfl | simp) (congrArg (fun q => injs q.1) hq) (congrArg (fun q => [Value.bool q.2]) hq)
      · skip
        have hn4 := of_decide_eq_false hc4
        refine AC_skip ?_
        refine hK3 _ _ _ ?_
        refine AC_seq fun K14 hK14 => ?_
        refine AC_seq fun K15 hK15 => ?_
        refine AC_region ?_
        refine AL_ev (Ev_move) rfl ?_
        refine AL_ev (Ev_seql rfl rfl) rfl ?_
        refine AL_ev (Ev_move) rfl ?_
        refine AL_bool 47 rfl (fun hg5 => ?_) (fun hg5 => ?_)
        · skip
          refine AL_guard_f rfl rfl rfl rfl ?_
          refine AL_guard_f rfl rfl rfl rfl ?_
          refine AL_ev (Ev_pick rfl) rfl ?_
          refine AL_nil ?_
          refine hK15 _ _ _ ?_
          refine AC_cond_t rfl ?_
          refine AC_seq fun K16 hK16 => ?_
          refine AC_region ?_
          refine AL_ev (Ev_move) rfl ?_
          refine AL_ev (Ev_assign) rfl ?_
          refine AL_ev (Ev_assign) rfl ?_
          refine AL_nil ?_
          refine hK16 _ _ _ ?_
          refine AC_ret ?_
          have hq : goalsP (.mk k s m ks) out = (out, false) := by rw [goalsP_end hn1 hn2 hn4, if_pos (.inl (of_decide_eq_true hg5))]
          exact retbt_eq [.bool (false)] (ys := injs (out)) hdm (.tmp rfl rfl (.tmp rfl rfl .nil)) rfl (by first | rfl | simp [injs_map]) (by first | rfl | simp) (congrArg (fun q => injs q.1) hq) (congrArg (fun q => [Value.bool q.2]) hq)
        · skip
          refine AL_guard_t rfl rfl rfl ?_
          refine AL_ev (Ev_move) rfl ?_
          refine AL_guard_t rfl rfl rfl ?_
          refine AL_fcall0 hT rfl cl105 (c_specControl (predS (.mk k s m ks))) rfl rfl ?_
          refine AL_ev (Ev_pick rfl) rfl ?_
          refine AL_nil ?_
          refine hK15 _ _ _ ?_
          refine AC_cond rfl (fun hc6 => ?_) (fun hc6 => ?_)
          · skip
            refine AC_seq fun K17 hK17 => ?_
            refine AC_region ?_
            refine AL_ev (Ev_move) rfl ?_
            refine AL_ev (Ev_assign) rfl ?_
            refine AL_ev (Ev_assign) rfl ?_
            refine AL_nil ?_
            refine hK17 _ _ _ ?_
            refine AC_ret ?_
            have hq : goalsP (.mk k s m ks) out = (out, false) := by rw [goalsP_end hn1 hn2 hn4, if_pos (.inr hc6)]
            exact retbt_eq [.bool (false)] (ys := injs (out)) hdm (.tmp rfl rfl (.tmp rfl rfl .nil)) rfl (by first | rfl | simp [injs_map]) (by first | rfl | simp) (congrArg (fun q => injs q.1) hq) (congrArg (fun q => [Value.bool q.2]) hq)
          · skip
            refine AC_skip ?_
            refine hK14 _ _ _ ?_
            refine AC_seq fun K18 hK18 => ?_
            refine AC_region ?_
            refine AL_ev (Ev_move) rfl ?_
            first | refine AL_ev (Ev_load_ptr rfl rfl rfl rfl rfl rfl ts45 ta45 (by first | rfl | simp) (by intro h; cases h)) rfl ?_ | refine AL_ev (Ev_load_rp rfl rfl rfl ts45 ta45 (by first | rfl | simp) (by intro h; cases h)) rfl ?_
            first | refine AL_bD (Lay.st [.one, .one, .one, .one]) rfl te41 ts45 tz45 rfl rfl (by decide) (by decide) (by first | rfl | simp [lenDs, goodVs, goodV, V.known, Lay.len, Lay.lens]) rfl ?_ | refine AL_bV (Lay.st [.one, .one, .one, .one]) rfl te41 ts45 tz45 rfl rfl (by decide) (by decide) (by first | rfl | simp [lenDs, goodVs, goodV, V.known, Lay.len, Lay.lens]) _ rfl rfl ?_
            first | refine AL_append rfl rfl rfl te41 ts45 tz45 rfl tb45 (by decide) (by decide) rfl (by first | rfl | (simp; done) | (simp; omega)) (Src_sl rfl) (by simp only [lim]; first | omega | (simp; done) | (simp; omega)) _ rfl rfl ?_ | refine AL_append rfl rfl rfl te41 ts45 tz45 rfl tb45 (by decide) (by decide) rfl (by first | rfl | (simp; done) | (simp; omega)) (Src_ref rfl rfl rfl (by first | rfl | (simp; done) | (simp; omega))) (by simp only [lim]; first | omega | (simp; done) | (simp; omega)) _ rfl rfl ?_ | refine AL_append rfl rfl rfl te41 ts45 tz45 rfl tb45 (by decide) (by decide) rfl (by first | rfl | (simp; done) | (simp; omega)) (Src_nil rfl) (by simp only [lim]; first | omega | (simp; done) | (simp; omega)) _ rfl rfl ?_
            refine AL_ev (Ev_assign) rfl ?_
            refine AL_ev (Ev_assign) rfl ?_
            refine AL_nil ?_
            refine hK18 _ _ _ ?_
            refine AC_ret ?_
            have hq : goalsP (.mk k s m ks) out = (out ++ [.mk k s m ks], true) := by rw [goalsP_end hn1 hn2 hn4, if_neg (by simp_all)]
            exact retbt_eq [.bool (true)] (ys := injs (out ++ [.mk k s m ks])) hdm (.tmp rfl rfl (.tmp rfl rfl .nil)) rfl (by first | rfl | simp [injs_map]) (by first | rfl | simp) (congrArg (fun q => injs q.1) hq) (congrArg (fun q => [Value.bool q.2]) hq)

set_option maxHeartbeats 1000000 in
set_option maxRecDepth 4000 in
theorem c_goalsRaw (t : T) (hb : bulk t ≤ 1099511627775) : PCall Tryd.prog 68 [inj t] (· = [.sl LT (injs (goalsIn t).1), .c (.bool (goalsIn t).2)]) := by
  have hsb := sz_bulk t
  refine PCall_of (n := 20) Tryd.func68 rfl rfl (Nat.le_of_ble_eq_true rfl) fun C hdm hT0 => ?_
  have hT := hT0
  refine AC_seq fun K1 hK1 => ?_
  refine AC_region ?_
  refine AL_box (Lay.st [.one, .one, .one, .one]) (nf rfl) rfl (by first | rfl | simp [Lay.len, Lay.lens]) _ rfl rfl ?_
  refine AL_ev (Ev_assign) rfl ?_
  refine AL_ev (Ev_assign) rfl ?_
  refine AL_nil ?_
  refine hK1 _ _ _ ?_
  refine AC_seq fun K2 hK2 => ?_
  refine AC_seq fun K3 hK3 => ?_
  refine AC_region ?_
  first | refine AL_ev (Ev_load_ptr rfl rfl rfl rfl rfl rfl ts45 ta45 (by first | rfl | simp) (by intro h; cases h)) rfl ?_ | refine AL_ev (Ev_load_rp rfl rfl rfl ts45 ta45 (by first | rfl | simp) (by intro h; cases h)) rfl ?_
  refine AL_fcall0 hT rfl cl74 (c_specTermOk t (by omega)) rfl rfl ?_
  refine AL_ev (Ev_not rfl) rfl ?_
  refine AL_nil ?_
  refine hK3 _ _ _ ?_
  refine AC_cond rfl (fun hc1 => ?_) (fun hc1 => ?_)
  · skip
    refine AC_seq fun K4 hK4 => ?_
    refine AC_region ?_
    first | refine AL_bD (Lay.st [.one, .one, .one, .one]) rfl te41 ts45 tz45 rfl rfl (by decide) (by decide) (by first | rfl | simp [lenDs, goodVs, goodV, V.known, Lay.len, Lay.lens]) rfl ?_ | refine AL_bV (Lay.st [.one, .one, .one, .one]) rfl te41 ts45 tz45 rfl rfl (by decide) (by decide) (by first | rfl | simp [lenDs, goodVs, goodV, V.known, Lay.len, Lay.lens]) _ rfl rfl ?_
    refine AL_ev (Ev_assign) rfl ?_
    refine AL_ev (Ev_assign) rfl ?_
    refine AL_nil ?_
    refine hK4 _ _ _ ?_
    refine AC_ret ?_
    refine ret_ok hdm (.tmp rfl rfl (.tmp rfl rfl .nil)) (.cons .d (.cons .d .nil)) ?_
    rw [goalsIn, if_neg (by simp_all)]
    rfl
  · skip
    refine AC_skip ?_
    refine hK2 _ _ _ ?_
    refine AC_seq fun K5 hK5 => ?_
    refine AC_region ?_
    first | refine AL_ev (Ev_load_ptr rfl rfl rfl rfl rfl rfl ts45 ta45 (by first | rfl | simp) (by intro h; cases h)) rfl ?_ | refine AL_ev (Ev_load_rp rfl rfl rfl ts45 ta45 (by first | rfl | simp) (by intro h; cases h)) rfl ?_
    refine AL_bV (Lay.st [.one, .one, .one, .one]) rfl te41 ts45 tz45 rfl rfl (by decide) (by decide) (by first | rfl | simp [lenDs, goodVs, goodV, V.known, Lay.len, Lay.lens]) _ rfl rfl ?_
    first | refine AL_btcall rfl hT _ _ [(Operand.tmp 11)] rfl cl98 rfl rfl rfl rfl (c_l25Goals t [] (by omega) (by simp; omega)) rfl rfl (by first | rfl | (simp; done) | (simp; omega)) _ rfl rfl ?_ | refine AL_btcalln rfl hT [(Operand.tmp 11)] rfl cl98 rfl rfl rfl rfl (c_l25Goals t [] (by omega) (by simp; omega)) _ rfl rfl ?_
    refine AL_ev (Ev_move) rfl ?_
    refine AL_ev (Ev_extract rfl rfl) rfl ?_
    refine AL_ev (Ev_extract rfl rfl) rfl ?_
    refine AL_ev (Ev_assign) rfl ?_
    refine AL_ev (Ev_assign) rfl ?_
    refine AL_nil ?_
    refine hK5 _ _ _ ?_
    refine AC_seq fun K6 hK6 => ?_
    refine AC_seq fun K7 hK7 => ?_
    refine AC_region ?_
    refine AL_ev (Ev_move) rfl ?_
    refine AL_ev (Ev_not rfl) rfl ?_
    refine AL_nil ?_
    refine hK7 _ _ _ ?_
    refine AC_cond rfl (fun hc2 => ?_) (fun hc2 => ?_)
    · skip
      refine AC_seq fun K8 hK8 => ?_
      refine AC_region ?_
      first | refine AL_bD (Lay.st [.one, .one, .one, .one]) rfl te41 ts45 tz45 rfl rfl (by decide) (by decide) (by first | rfl | simp [lenDs, goodVs, goodV, V.known, Lay.len, Lay.lens]) rfl ?_ | refine AL_bV (Lay.st [.one, .one, .one, .one]) rfl te41 ts45 tz45 rfl rfl (by decide) (by decide) (by first | rfl | simp [lenDs, goodVs, goodV, V.known, Lay.len, Lay.lens]) _ rfl rfl ?_
      refine AL_ev (Ev_assign) rfl ?_
      refine AL_ev (Ev_assign) rfl ?_
      refine AL_nil ?_
      refine hK8 _ _ _ ?_
      refine AC_ret ?_
      refine ret_ok hdm (.tmp rfl rfl (.tmp rfl rfl .nil)) (.cons .d (.cons .d .nil)) ?_
      rw [goalsIn, if_neg (by simp_all)]
      rfl
    · skip
      refine AC_skip ?_
      refine hK6 _ _ _ ?_
      refine AC_seq fun K9 hK9 => ?_
      refine AC_region ?_
      refine AL_ev (Ev_move) rfl ?_
      refine AL_ev (Ev_assign) rfl ?_
      refine AL_ev (Ev_assign) rfl ?_
      refine AL_nil ?_
      refine hK9 _ _ _ ?_
      refine AC_ret ?_
      refine ret_ok hdm (.tmp rfl rfl (.tmp rfl rfl .nil)) (.cons (.ref trivial rfl rfl (by simp) (ReadsL_d _)) (.cons .d .nil)) ?_
      rw [goalsIn, if_pos (by simp_all)]

set_option maxHeartbeats 1000000 in
set_option maxRecDepth 4000 in
theorem c_specGoalsIn (t : T) (hb : bulk t ≤ 1099511627775) : PCall Tryd.prog 25 [inj t] (· = [.sl LT (injs (goalsIn t).1), .c (.bool (goalsIn t).2)]) := by
  refine PCall_of (n := 14) Tryd.func25 rfl rfl (Nat.le_of_ble_eq_true rfl) fun C hdm hT0 => ?_
  have hT := hT0
  refine AC_seq fun K1 hK1 => ?_
  refine AC_region ?_
  refine AL_box (Lay.st [.one, .one, .one, .one]) (nf rfl) rfl (by first | rfl | simp [Lay.len, Lay.lens]) _ rfl rfl ?_
  refine AL_ev (Ev_assign) rfl ?_
  refine AL_ev (Ev_assign) rfl ?_
  refine AL_nil ?_
  refine hK1 _ _ _ ?_
  refine AC_seq fun K2 hK2 => ?_
  refine AC_region ?_
  first | refine AL_ev (Ev_load_ptr rfl rfl rfl rfl rfl rfl ts45 ta45 (by first | rfl | simp) (by intro h; cases h)) rfl ?_ | refine AL_ev (Ev_load_rp rfl rfl rfl ts45 ta45 (by first | rfl | simp) (by intro h; cases h)) rfl ?_
  refine AL_fcall0 hT rfl cl68 (c_goalsRaw t hb) rfl rfl ?_
  refine AL_ev (Ev_move) rfl ?_
  refine AL_ev (Ev_extract rfl rfl) rfl ?_
  refine AL_ev (Ev_extract rfl rfl) rfl ?_
  refine AL_ev (Ev_assign) rfl ?_
  refine AL_ev (Ev_assign) rfl ?_
  refine AL_nil ?_
  refine hK2 _ _ _ ?_
  refine AC_seq fun K3 hK3 => ?_
  refine AC_region ?_
  refine AL_ev (Ev_move) rfl ?_
  refine AL_fcall0 hT rfl cl69 (c_l34Terms (goalsIn t).1 (fun u _ => c_l34Term u)) rfl rfl ?_
  refine AL_ev (Ev_move) rfl ?_
  refine AL_ev (Ev_assign) rfl ?_
  refine AL_ev (Ev_assign) rfl ?_
  refine AL_nil ?_
  refine hK3 _ _ _ ?_
  refine AC_ret ?_
  exact ret_ok hdm (.tmp rfl rfl (.tmp rfl rfl .nil)) (.cons .d (.cons .d .nil)) rfl

end Go.Proofs.YtleahipnknainaaDoor
