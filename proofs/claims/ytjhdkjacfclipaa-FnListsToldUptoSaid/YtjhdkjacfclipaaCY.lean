/- Contracts of functions. -/
import Derived.Test.YtjhdkjacfclipaaMt
import Derived.Test.YtjhdkjacfclipaaOk
import Derived.Test.YtjhdkjacfclipaaWn
import Derived.Test.YtjhdkjacfclipaaEng27
import Derived.Test.YtjhdkjacfclipaaCu
import Derived.Test.YtjhdkjacfclipaaCd
import Derived.Test.YtjhdkjacfclipaaProg
import Derived.KernelRfl
import Derived.Test.YtjhdkjacfclipaaCA
import Derived.Test.YtjhdkjacfclipaaCB
import Derived.Test.YtjhdkjacfclipaaCS
set_option linter.unusedVariables false
set_option linter.unusedSimpArgs false
namespace Go.Proofs.Ytjhdkjacfclipaa
open Go.Eng

theorem tz79 : tyZero Try.prog 79 = some (some (.agg #[.slice none 0 0, .int .i64 0, .int .i64 0])) := by kernel_rfl
theorem tz9 : tyZero Try.prog 9 = some (some (.string ⟨#[]⟩)) := by kernel_rfl
theorem cl100 : Callable Try.prog 100 := Callable_of Try.func100 (by kernel_rfl) (by kernel_rfl)
theorem cl101 : Callable Try.prog 101 := Callable_of Try.func101 (by kernel_rfl) (by kernel_rfl)
theorem cl102 : Callable Try.prog 102 := Callable_of Try.func102 (by kernel_rfl) (by kernel_rfl)
theorem cl103 : Callable Try.prog 103 := Callable_of Try.func103 (by kernel_rfl) (by kernel_rfl)
theorem cl60 : Callable Try.prog 60 := Callable_of Try.func60 (by kernel_rfl) (by kernel_rfl)
theorem cl61 : Callable Try.prog 61 := Callable_of Try.func61 (by kernel_rfl) (by kernel_rfl)
theorem cl79 : Callable Try.prog 79 := Callable_of Try.func79 (by kernel_rfl) (by kernel_rfl)
theorem cl88 : Callable Try.prog 88 := Callable_of Try.func88 (by kernel_rfl) (by kernel_rfl)
theorem cl89 : Callable Try.prog 89 := Callable_of Try.func89 (by kernel_rfl) (by kernel_rfl)
theorem cl91 : Callable Try.prog 91 := Callable_of Try.func91 (by kernel_rfl) (by kernel_rfl)
theorem cl99 : Callable Try.prog 99 := Callable_of Try.func99 (by kernel_rfl) (by kernel_rfl)
theorem fa79_0 : tyField Try.prog 79 0 = some (0, true) := by kernel_rfl
theorem fa79_1 : tyField Try.prog 79 1 = some (1, true) := by kernel_rfl
theorem fa79_2 : tyField Try.prog 79 2 = some (2, true) := by kernel_rfl
theorem ta30 : tyAgg Try.prog 30 = some false := by kernel_rfl
theorem ta5 : tyAgg Try.prog 5 = some false := by kernel_rfl
theorem te30 : tyElem Try.prog 30 = some 5 := by kernel_rfl
theorem te84 : tyElem Try.prog 84 = some 9 := by kernel_rfl
theorem tpl79 : tyPlaces Try.prog 79 = some (layPlaces 0 [.one, .one, .one]) := by kernel_rfl
theorem ts30 : tySize Try.prog 30 = some 1 := by kernel_rfl
theorem ts5 : tySize Try.prog 5 = some 1 := by kernel_rfl

set_option maxHeartbeats 1000000 in
set_option maxRecDepth 4000 in
theorem c_byteB (bs : List Int) (ty : TypeId) (i h : Int) (hl : bs.length ≤ lim) (h0 : 0 ≤ i) (h1 : i ≤ bs.length) : HCallR Try.prog 88 [] [.ptr LCU 0 0 []] [curBox ty bs i h] 1 (fun q : Int × Int × Int => 0 ≤ q.1 ∧ q.1 ≤ 255 ∧ 0 ≤ q.2.1 ∧ q.2.1 ≤ (bs.length : Int)) (fun q => [i64 q.1]) (fun q => [curBox ty bs q.2.1 q.2.2]) := by
  have hl : bs.length ≤ 1099511627776 := hl
  refine HCallR_of (n := 58) Try.func88 rfl rfl (Nat.le_of_ble_eq_true rfl) (Nat.le_of_ble_eq_true rfl) fun C0 o hT hP => ?_
  refine AC_seq fun K1 hK1 => ?_
  refine AC_region ?_
  refine AL_ev (Ev_assign) rfl ?_
  refine AL_nil ?_
  refine hK1 _ _ _ ?_
  refine AC_seq fun K2 hK2 => ?_
  refine AC_region ?_
  refine AL_ev (Ev_move) rfl ?_
  refine AL_ev (Ev_move) rfl ?_
  first | refine AL_ev (Ev_nilc_ptr rfl) rfl ?_ | refine AL_ev (Ev_nilc_rp rfl) rfl ?_
  first | refine AL_ev (Ev_fa_ptr rfl fa79_2 rfl rfl) rfl ?_ | refine AL_ev (Ev_fa_rp rfl fa79_2 rfl rfl) rfl ?_
  first | refine AL_ev (Ev_load_ptr rfl rfl rfl rfl rfl rfl ts3 ta3 rfl (fun _ => rfl)) rfl ?_ | refine AL_ev (Ev_load_rp rfl rfl rfl ts3 ta3 rfl (fun _ => rfl)) rfl ?_
  first | refine AL_ev (Ev_mul rfl rfl _ (wrap_id (by first | omega | (simp; omega)) (by first | omega | (simp; omega)))) rfl ?_ | refine AL_ev (Ev_mul rfl rfl _ rfl) rfl ?_
  first | refine AL_ev (Ev_add rfl rfl _ (wrap_id (by first | omega | (simp; omega)) (by first | omega | (simp; omega)))) rfl ?_ | refine AL_ev (Ev_add rfl rfl _ rfl) rfl ?_
  first | refine AL_ev (Ev_nilc_ptr rfl) rfl ?_ | refine AL_ev (Ev_nilc_rp rfl) rfl ?_
  first | refine AL_ev (Ev_fa_ptr rfl fa79_2 rfl rfl) rfl ?_ | refine AL_ev (Ev_fa_rp rfl fa79_2 rfl rfl) rfl ?_
  first | refine AL_store rfl (nf rfl) rfl rfl rfl rfl rfl rfl (by first | rfl | assumption | simp [Lay.len, Lay.lens]) ts3 rfl rfl ?_ | refine AL_store rfl (nf rfl) rfl rfl rfl hes rfl rfl (by first | rfl | assumption | simp [Lay.len, Lay.lens]) ts3 rfl rfl ?_
  refine AL_nil ?_
  refine hK2 _ _ _ ?_
  refine AC_seq fun K3 hK3 => ?_
  refine AC_draw hT follows [0, 1, 2, 3, 4, 5, 6, 7, 8, 9, 10, 11, 12] (by kernel_rfl) ?_
  refine DT_ev rfl (EA_move) rfl ?_
  first | refine DT_ev rfl (EA_nilc_ptr rfl) rfl ?_ | refine DT_ev rfl (EA_nilc_rp rfl) rfl ?_
  first | refine DT_ev rfl (EA_fa_ptr rfl fa79_2 rfl rfl) rfl ?_ | refine DT_ev rfl (EA_fa_rp rfl fa79_2 rfl rfl) rfl ?_
  first | refine DT_ev rfl (EA_load_ptr rfl rfl rfl rfl rfl rfl ts3 ta3 rfl (fun _ => rfl)) rfl ?_ | refine DT_ev rfl (EA_load_rp rfl rfl rfl ts3 ta3 rfl (fun _ => rfl)) rfl ?_
  refine DT_ev rfl (EA_shr rfl rfl (by decide)) rfl ?_
  refine DT_ev rfl (EA_move) rfl ?_
  first | refine DT_ev rfl (EA_nilc_ptr rfl) rfl ?_ | refine DT_ev rfl (EA_nilc_rp rfl) rfl ?_
  first | refine DT_ev rfl (EA_fa_ptr rfl fa79_2 rfl rfl) rfl ?_ | refine DT_ev rfl (EA_fa_rp rfl fa79_2 rfl rfl) rfl ?_
  first | refine DT_ev rfl (EA_load_ptr rfl rfl rfl rfl rfl rfl ts3 ta3 rfl (fun _ => rfl)) rfl ?_ | refine DT_ev rfl (EA_load_rp rfl rfl rfl ts3 ta3 rfl (fun _ => rfl)) rfl ?_
  refine DT_ev rfl (EA_shr rfl rfl (by decide)) rfl ?_
  refine DT_ev rfl (EA_xor rfl rfl) rfl ?_
  refine DT_ev rfl (EA_and rfl rfl) rfl ?_
  refine DT_ev rfl (EA_assign) rfl ?_
  refine DTi.nil ?_
  refine hK3 _ _ _ ?_
  refine AC_seq fun K4 hK4 => ?_
  refine AC_seq fun K5 hK5 => ?_
  refine AC_draw hT follows [0, 1, 2, 3, 4, 5, 6, 7, 8, 9] (by kernel_rfl) ?_
  refine DT_ev rfl (EA_move) rfl ?_
  first | refine DT_ev rfl (EA_nilc_ptr rfl) rfl ?_ | refine DT_ev rfl (EA_nilc_rp rfl) rfl ?_
  first | refine DT_ev rfl (EA_fa_ptr rfl fa79_1 rfl rfl) rfl ?_ | refine DT_ev rfl (EA_fa_rp rfl fa79_1 rfl rfl) rfl ?_
  first | refine DT_ev rfl (EA_load_ptr rfl rfl rfl rfl rfl rfl ts3 ta3 rfl (fun _ => rfl)) rfl ?_ | refine DT_ev rfl (EA_load_rp rfl rfl rfl ts3 ta3 rfl (fun _ => rfl)) rfl ?_
  refine DT_ev rfl (EA_move) rfl ?_
  first | refine DT_ev rfl (EA_nilc_ptr rfl) rfl ?_ | refine DT_ev rfl (EA_nilc_rp rfl) rfl ?_
  first | refine DT_ev rfl (EA_fa_ptr rfl fa79_0 rfl rfl) rfl ?_ | refine DT_ev rfl (EA_fa_rp rfl fa79_0 rfl rfl) rfl ?_
  first | refine DT_ev rfl (EA_load_ptr rfl rfl rfl rfl rfl rfl ts30 ta30 rfl (fun _ => rfl)) rfl ?_ | refine DT_ev rfl (EA_load_rp rfl rfl rfl ts30 ta30 rfl (fun _ => rfl)) rfl ?_
  first | refine DT_ev rfl (EA_len_u8s te30 rfl) rfl ?_ | refine DT_ev rfl (EA_len_sl te30 rfl) rfl ?_ | refine DT_ev rfl (EA_len_ref te30 rfl) rfl ?_ | refine DT_ev rfl (EA_len_nil te30 rfl) rfl ?_
  refine DT_ev rfl (EA_lss rfl rfl) rfl ?_
  refine DTi.nil ?_
  refine hK5 _ _ _ ?_
  refine AC_cond rfl (fun hc1 => ?_) (fun hc1 => ?_)
  · skip
    have h2 : i < bs.length := by have := of_decide_eq_true hc1; omega
    obtain ⟨j, rfl⟩ : ∃ j : Nat, i = (j : Int) := ⟨i.toNat, by omega⟩
    obtain ⟨u, hu⟩ : ∃ u, bs[j]? = some u := ⟨_, List.getElem?_eq_getElem (by omega)⟩
    have hu2 := u8s_get hu
    refine AC_seq fun K6 hK6 => ?_
    refine AC_draw hT follows [0, 1, 2, 3, 4, 5, 6, 7, 8, 9, 10, 11, 12, 13, 14] (by kernel_rfl) ?_
    refine DT_ev rfl (EA_move) rfl ?_
    refine DT_ev rfl (EA_move) rfl ?_
    first | refine DT_ev rfl (EA_nilc_ptr rfl) rfl ?_ | refine DT_ev rfl (EA_nilc_rp rfl) rfl ?_
    first | refine DT_ev rfl (EA_fa_ptr rfl fa79_0 rfl rfl) rfl ?_ | refine DT_ev rfl (EA_fa_rp rfl fa79_0 rfl rfl) rfl ?_
    first | refine DT_ev rfl (EA_load_ptr rfl rfl rfl rfl rfl rfl ts30 ta30 rfl (fun _ => rfl)) rfl ?_ | refine DT_ev rfl (EA_load_rp rfl rfl rfl ts30 ta30 rfl (fun _ => rfl)) rfl ?_
    refine DT_ev rfl (EA_move) rfl ?_
    first | refine DT_ev rfl (EA_nilc_ptr rfl) rfl ?_ | refine DT_ev rfl (EA_nilc_rp rfl) rfl ?_
    first | refine DT_ev rfl (EA_fa_ptr rfl fa79_1 rfl rfl) rfl ?_ | refine DT_ev rfl (EA_fa_rp rfl fa79_1 rfl rfl) rfl ?_
    first | refine DT_ev rfl (EA_load_ptr rfl rfl rfl rfl rfl rfl ts3 ta3 rfl (fun _ => rfl)) rfl ?_ | refine DT_ev rfl (EA_load_rp rfl rfl rfl ts3 ta3 rfl (fun _ => rfl)) rfl ?_
    first | refine DT_ev rfl (EA_ix_sl rfl rfl te30 ts5 (by omega) (by assumption)) rfl ?_ | refine DT_ev rfl (EA_ix_ref rfl rfl te30 ts5 (by omega) (by first | omega | (simp; omega))) rfl ?_
    first | refine DT_ev rfl (EA_load_ptr rfl rfl rfl rfl rfl rfl ts5 ta5 rfl (fun _ => rfl)) rfl ?_ | refine DT_ev rfl (EA_load_rp rfl rfl rfl ts5 ta5 rfl (fun _ => rfl)) rfl ?_
    first | refine DT_ev rfl (EA_conv_int tund5 tint3 rfl _ (wrap_id (by omega) (by omega))) rfl ?_ | refine DT_ev rfl (EA_conv_int tund5 tint3 rfl _ rfl) rfl ?_
    first | refine DT_ev rfl (EA_add rfl rfl _ (wrap_id (by first | omega | (simp; omega)) (by first | omega | (simp; omega)))) rfl ?_ | refine DT_ev rfl (EA_add rfl rfl _ rfl) rfl ?_
    refine DT_ev rfl (EA_and rfl rfl) rfl ?_
    refine DT_ev rfl (EA_assign) rfl ?_
    refine DTi.nil ?_
    refine hK6 _ _ _ ?_
    refine AC_region ?_
    refine AL_ev (Ev_move) rfl ?_
    refine AL_ev (Ev_move) rfl ?_
    first | refine AL_ev (Ev_nilc_ptr rfl) rfl ?_ | refine AL_ev (Ev_nilc_rp rfl) rfl ?_
    first | refine AL_ev (Ev_fa_ptr rfl fa79_1 rfl rfl) rfl ?_ | refine AL_ev (Ev_fa_rp rfl fa79_1 rfl rfl) rfl ?_
    first | refine AL_ev (Ev_load_ptr rfl rfl rfl rfl rfl rfl ts3 ta3 rfl (fun _ => rfl)) rfl ?_ | refine AL_ev (Ev_load_rp rfl rfl rfl ts3 ta3 rfl (fun _ => rfl)) rfl ?_
    first | refine AL_ev (Ev_add rfl rfl _ (wrap_id (by first | omega | (simp; omega)) (by first | omega | (simp; omega)))) rfl ?_ | refine AL_ev (Ev_add rfl rfl _ rfl) rfl ?_
    first | refine AL_ev (Ev_nilc_ptr rfl) rfl ?_ | refine AL_ev (Ev_nilc_rp rfl) rfl ?_
    first | refine AL_ev (Ev_fa_ptr rfl fa79_1 rfl rfl) rfl ?_ | refine AL_ev (Ev_fa_rp rfl fa79_1 rfl rfl) rfl ?_
    first | refine AL_store rfl (nf rfl) rfl rfl rfl rfl rfl rfl (by first | rfl | assumption | simp [Lay.len, Lay.lens]) ts3 rfl rfl ?_ | refine AL_store rfl (nf rfl) rfl rfl rfl hes rfl rfl (by first | rfl | assumption | simp [Lay.len, Lay.lens]) ts3 rfl rfl ?_
    refine AL_nil ?_
    refine hK4 _ _ _ ?_
    refine AC_seq fun K7 hK7 => ?_
    refine AC_region ?_
    refine AL_ev (Ev_move) rfl ?_
    refine AL_ev (Ev_assign) rfl ?_
    refine AL_nil ?_
    refine hK7 _ _ _ ?_
    refine AC_ret ?_
    exact retr_ok (_, _, _) ⟨(and255 _).1, (and255 _).2, by show 0 ≤ ((j : Nat) : Int) + 1; omega, by show ((j : Nat) : Int) + 1 ≤ _; omega⟩ [0] (CExt.refl _) (.tmp rfl rfl .nil) rfl rfl (BxF_stay rfl rfl rfl rfl rfl (.cons (.agg (.cons .d (.cons .d (.cons .d .nil)))) .nil) rfl BxF_nil) (Nat.le_refl _) (.cons .d .nil)
  · skip
    refine AC_skip ?_
    refine hK4 _ _ _ ?_
    refine AC_seq fun K8 hK8 => ?_
    refine AC_region ?_
    refine AL_ev (Ev_move) rfl ?_
    refine AL_ev (Ev_assign) rfl ?_
    refine AL_nil ?_
    refine hK8 _ _ _ ?_
    refine AC_ret ?_
    exact retr_ok (_, _, _) ⟨(and255 _).1, (and255 _).2, h0, h1⟩ [0] (CExt.refl _) (.tmp rfl rfl .nil) rfl rfl (BxF_stay rfl rfl rfl rfl rfl (.cons (.agg (.cons .d (.cons .d (.cons .d .nil)))) .nil) rfl BxF_nil) (Nat.le_refl _) (.cons .d .nil)

theorem c_byte : DCall Try.prog 88 [] (fun r => ∃ x : Int, r = .c (.int .i64 x) ∧ 0 ≤ x ∧ x ≤ 255) :=
  DCall_of_box (A := Int) (Rq := fun bs x i h => 0 ≤ x ∧ x ≤ 255 ∧ 0 ≤ i ∧ i ≤ (bs.length : Int)) (res := fun x => .c (.int .i64 x)) (fun bs ty i h hl h0 h1 => c_byteB bs ty i h hl h0 h1) (fun bs x i h ⟨a, b, c, d⟩ => ⟨⟨x, rfl, a, b⟩, c, d⟩)


set_option maxHeartbeats 2000000 in
set_option maxRecDepth 4000 in
theorem c_new  : NewCur Try.prog 50 := by
  refine NewCur_of (n := 32) Try.func50 rfl rfl (Nat.le_of_ble_eq_true rfl) fun C bs hdm hT => ?_
  refine AC_seq fun K1 hK1 => ?_
  refine AC_region ?_
  refine AL_ev (Ev_assign) rfl ?_
  refine AL_nil ?_
  refine hK1 _ _ _ ?_
  refine AC_seq fun K2 hK2 => ?_
  refine AC_region ?_
  refine AL_ev (Ev_move) rfl ?_
  first | refine AL_lim (x := (Operand.tmp 5)) rfl fun hl1 => ?_ | refine AL_limB (x := (Operand.tmp 5)) rfl rfl (by first | rfl | (simp; done) | (simp; omega)) fun hl1 => ?_ | have hl1 := True.intro
  try simp only [injs_length, ints_length, strs_length, injCs_length, u8s_length, List.length_map] at hl1
  first | refine AL_ev (Ev_len_u8s te30 rfl) rfl ?_ | refine AL_ev (Ev_len_sl te30 rfl) rfl ?_ | refine AL_ev (Ev_len_ref te30 rfl) rfl ?_ | refine AL_ev (Ev_len_nil te30 rfl) rfl ?_ | refine AL_ev (Ev_len_c te30 rfl) rfl ?_
  first | refine AL_ev (Ev_add rfl rfl _ (wrap_id (by first | omega | (simp; omega)) (by first | omega | (simp; omega)))) rfl ?_ | refine AL_ev (Ev_add rfl rfl _ rfl) rfl ?_
  refine AL_ev (Ev_assign) rfl ?_
  refine AL_nil ?_
  refine hK2 _ _ _ ?_
  refine AC_seq fun K3 hK3 => ?_
  refine AC_seq fun K4 hK4 => ?_
  refine AC_region ?_
  refine AL_ev (Ev_assign) rfl ?_
  refine AL_nil ?_
  refine hK4 _ _ _ ?_
  refine AC_block ?_
  refine AC_loopS [0] (Nat × Int) (fun ⟨j, h⟩ => [(4, i64 j), (3, i64 h)]) (fun ⟨j, h⟩ => []) (fun st => bs.length - st.1) (fun ⟨j, h⟩ => (j ≤ bs.length)) ((0, 95101 + (bs.length : Int))) ?_ ?_ ?_
  · skip
    exact enterS [] rfl rfl BxTo_nil (SlTo_cons (by first | exact .rd .d | exact Vw_int (by first | rfl | assumption | omega | (simp; done) | (simp; omega)) | exact Vw_c (by first | rfl | (simp; done) | simp_all) | exact .any) (SlTo_cons (by first | exact .rd .d | exact Vw_int (by first | rfl | assumption | omega | (simp; done) | (simp; omega)) | exact Vw_c (by first | rfl | (simp; done) | simp_all) | exact .any) (SlTo_cons (by first | exact .rd .d | exact .any) SlTo_nil)))
  · skip
    exact Nat.zero_le _
  rintro ⟨j, h⟩ hj
  show AC _ _ _ _ _ (FS [0] _ [(4, i64 j), (3, i64 h)]) []
  refine AC_seq fun K5 hK5 => ?_
  refine AC_seq fun K6 hK6 => ?_
  refine AC_region ?_
  refine AL_ev (Ev_move) rfl ?_
  refine AL_ev (Ev_move) rfl ?_
  first | refine AL_lim (x := (Operand.tmp 9)) rfl fun hl2 => ?_ | refine AL_limB (x := (Operand.tmp 9)) rfl rfl (by first | rfl | (simp; done) | (simp; omega)) fun hl2 => ?_ | have hl2 := True.intro
  try simp only [injs_length, ints_length, strs_length, injCs_length, u8s_length, List.length_map] at hl2
  first | refine AL_ev (Ev_len_u8s te30 rfl) rfl ?_ | refine AL_ev (Ev_len_sl te30 rfl) rfl ?_ | refine AL_ev (Ev_len_ref te30 rfl) rfl ?_ | refine AL_ev (Ev_len_nil te30 rfl) rfl ?_ | refine AL_ev (Ev_len_c te30 rfl) rfl ?_
  refine AL_ev (Ev_lss rfl rfl) rfl ?_
  refine AL_ev (Ev_move) rfl ?_
  refine AL_bool 12 rfl (fun hg1 => ?_) (fun hg1 => ?_)
  · skip
    have h1 : j < bs.length := by have := of_decide_eq_true hg1; omega
    obtain ⟨u, hu⟩ : ∃ u, bs[j]? = some u := ⟨_, List.getElem?_eq_getElem h1⟩
    have hu2 := u8s_get hu
    refine AL_guard_t rfl rfl rfl ?_
    refine AL_ev (Ev_move) rfl ?_
    refine AL_guard_t rfl rfl rfl ?_
    refine AL_ev (Ev_lss rfl rfl) rfl ?_
    refine AL_ev (Ev_pick rfl) rfl ?_
    refine AL_nil ?_
    refine hK6 _ _ _ ?_
    refine AC_cond rfl (fun hc2 => ?_) (fun hc2 => ?_)
    · skip
      refine AC_skip ?_
      refine hK5 _ _ _ ?_
      refine AC_seq fun K7 hK7 => ?_
      refine AC_block ?_
      refine AC_region ?_
      refine AL_ev (Ev_move) rfl ?_
      first | refine AL_ev (Ev_mul rfl rfl _ (wrap_id (by first | omega | (simp; omega)) (by first | omega | (simp; omega)))) rfl ?_ | refine AL_ev (Ev_mul rfl rfl _ rfl) rfl ?_
      refine AL_ev (Ev_move) rfl ?_
      refine AL_ev (Ev_move) rfl ?_
      refine AL_ev (Ev_ix_sl rfl rfl te30 ts5 (by omega) hu2) rfl ?_
      first | refine AL_ev (Ev_load_ptr rfl rfl rfl rfl rfl rfl ts5 ta5 rfl (fun _ => rfl)) rfl ?_ | refine AL_ev (Ev_load_rp rfl rfl rfl ts5 ta5 rfl (fun _ => rfl)) rfl ?_
      first | refine AL_ev (Ev_conv_int tund5 tint3 rfl _ (wrap_id (by omega) (by omega))) rfl ?_ | refine AL_ev (Ev_conv_int tund5 tint3 rfl _ rfl) rfl ?_
      first | refine AL_ev (Ev_add rfl rfl _ (wrap_id (by first | omega | (simp; omega)) (by first | omega | (simp; omega)))) rfl ?_ | refine AL_ev (Ev_add rfl rfl _ rfl) rfl ?_
      first | refine AL_ev (Ev_add rfl rfl _ (wrap_id (by first | omega | (simp; omega)) (by first | omega | (simp; omega)))) rfl ?_ | refine AL_ev (Ev_add rfl rfl _ rfl) rfl ?_
      refine AL_ev (Ev_and rfl rfl) rfl ?_
      refine AL_ev (Ev_assign) rfl ?_
      refine AL_nil ?_
      refine hK7 _ _ _ ?_
      refine AC_region ?_
      refine AL_ev (Ev_move) rfl ?_
      first | refine AL_ev (Ev_add rfl rfl _ (wrap_id (by first | omega | (simp; omega)) (by first | omega | (simp; omega)))) rfl ?_ | refine AL_ev (Ev_add rfl rfl _ rfl) rfl ?_
      refine AL_ev (Ev_assign) rfl ?_
      refine AL_nil ?_
      refine closeS (j + 1, IntKind.i64.wrap ((BitVec.ofInt IntKind.i64.bits (IntKind.i64.wrap (IntKind.i64.wrap (IntKind.i64.wrap (h * 131) + IntKind.i64.wrap u) + 7)) &&& BitVec.ofInt IntKind.i64.bits 1073741823).toNat : Int)) [] rfl rfl (by show bs.length - (j + 1) < bs.length - j; omega) ?_ BxTo_nil (SlTo_cons (by first | exact .rd .d | exact Vw_int (by first | rfl | assumption | omega | (simp; done) | (simp; omega)) | exact Vw_c (by first | rfl | (simp; done) | simp_all) | exact .any) (SlTo_cons (by first | exact .rd .d | exact Vw_int (by first | rfl | assumption | omega | (simp; done) | (simp; omega)) | exact Vw_c (by first | rfl | (simp; done) | simp_all) | exact .any) (SlTo_cons (by first | exact .rd .d | exact .any) SlTo_nil)))
      show j + 1 ≤ bs.length; omega
    · skip
      refine AC_exit ?_
      refine hK3 _ _ _ ?_
      refine AC_seq fun K8 hK8 => ?_
      refine AC_region ?_
      refine AL_ev (Ev_move) rfl ?_
      refine AL_ev (Ev_move) rfl ?_
      refine AL_ev (Ev_build (fs := [.one, .one, .one]) (zs := [.c (.slice none 0 0), .c (.int .i64 0), .c (.int .i64 0)]) tz79 rfl tpl79 (.cons rfl rfl (by first | rfl | simp) (.cons rfl rfl (by first | rfl | simp) .nil))) rfl ?_
      refine AL_box (Lay.st [.one, .one, .one]) (nf rfl) rfl (by first | rfl | simp [Lay.len, Lay.lens]) _ rfl rfl ?_
      refine AL_ev (Ev_assign) rfl ?_
      refine AL_nil ?_
      refine hK8 _ _ _ ?_
      refine AC_ret ?_
      exact newcur_ok hdm (.tmp rfl rfl .nil) rfl (Int.le_refl 0) (by omega)
  · skip
    refine AL_guard_f rfl rfl rfl rfl ?_
    refine AL_guard_f rfl rfl rfl rfl ?_
    refine AL_ev (Ev_pick rfl) rfl ?_
    refine AL_nil ?_
    refine hK6 _ _ _ ?_
    first | refine AC_cond_f rfl ?_ | refine AC_cond_f (congrArg bl hc2) ?_
    refine AC_exit ?_
    refine hK3 _ _ _ ?_
    refine AC_seq fun K9 hK9 => ?_
    refine AC_region ?_
    refine AL_ev (Ev_move) rfl ?_
    refine AL_ev (Ev_move) rfl ?_
    refine AL_ev (Ev_build (fs := [.one, .one, .one]) (zs := [.c (.slice none 0 0), .c (.int .i64 0), .c (.int .i64 0)]) tz79 rfl tpl79 (.cons rfl rfl (by first | rfl | simp) (.cons rfl rfl (by first | rfl | simp) .nil))) rfl ?_
    refine AL_box (Lay.st [.one, .one, .one]) (nf rfl) rfl (by first | rfl | simp [Lay.len, Lay.lens]) _ rfl rfl ?_
    refine AL_ev (Ev_assign) rfl ?_
    refine AL_nil ?_
    refine hK9 _ _ _ ?_
    refine AC_ret ?_
    exact newcur_ok hdm (.tmp rfl rfl .nil) rfl (Int.le_refl 0) (by omega)

set_option maxHeartbeats 1000000 in
set_option maxRecDepth 4000 in
theorem c_below (m : Int) (hm : m ≤ 4611686018427387904) : DCall Try.prog 61 [.c (.int .i64 m)] (fun r => ∃ x : Int, r = .c (.int .i64 x) ∧ 0 ≤ x ∧ (x < m ∨ x = 0)) := by
  refine DCall_of (n := 37) Try.func61 rfl rfl (Nat.le_of_ble_eq_true rfl) fun C0 b bs hdm hbl hT hcu => ?_
  have hM := Mk.refl C0 [b]
  refine AC_seq fun K1 hK1 => ?_
  refine AC_region ?_
  refine AL_ev (Ev_assign) rfl ?_
  refine AL_nil ?_
  refine hK1 _ _ _ ?_
  refine AC_seq fun K2 hK2 => ?_
  refine AC_seq fun K3 hK3 => ?_
  refine AC_region ?_
  refine AL_ev (Ev_move) rfl ?_
  refine AL_ev (Ev_leq rfl rfl) rfl ?_
  refine AL_nil ?_
  refine hK3 _ _ _ ?_
  refine AC_cond rfl (fun hc1 => ?_) (fun hc1 => ?_)
  · skip
    have h1 := of_decide_eq_true hc1
    refine AC_seq fun K4 hK4 => ?_
    refine AC_region ?_
    refine AL_ev (Ev_assign) rfl ?_
    refine AL_nil ?_
    refine hK4 _ _ _ ?_
    refine AC_ret ?_
    exact retd_ok hM hcu hdm (.tmp rfl rfl .nil) .d ⟨0, rfl, Int.le_refl 0, .inr rfl⟩
  · skip
    have h1 : 0 < m := by have := of_decide_eq_false hc1; omega
    refine AC_skip ?_
    refine hK2 _ _ _ ?_
    refine AC_seq fun K5 hK5 => ?_
    refine AC_seq fun K6 hK6 => ?_
    refine AC_region ?_
    refine AL_ev (Ev_move) rfl ?_
    refine AL_ev (Ev_leq rfl rfl) rfl ?_
    refine AL_nil ?_
    refine hK6 _ _ _ ?_
    refine AC_cond rfl (fun hc2 => ?_) (fun hc2 => ?_)
    · skip
      refine AC_seq fun K7 hK7 => ?_
      refine AC_region ?_
      refine AL_ev (Ev_move) rfl ?_
      refine AL_dcall hT hcu hbl rfl cl88 (c_byte) rfl rfl rfl fun C1 r1 hR1 hM1 hcu hT => ?_
      have hM := hM.trans hM1 (fun c hc _ => hc)
      obtain ⟨x1, rfl, hx1, hy1⟩ := hR1
      refine AL_ev (Ev_move) rfl ?_
      refine AL_ev (Ev_rem rfl rfl (by first | decide | omega)) rfl ?_
      refine AL_ev (Ev_assign) rfl ?_
      refine AL_nil ?_
      refine hK7 _ _ _ ?_
      refine AC_ret ?_
      exact retd_ok hM hcu hdm (.tmp rfl rfl .nil) .d ⟨_, rfl, Int.tmod_nonneg _ hx1, .inl (Int.tmod_lt_of_pos _ h1)⟩
    · skip
      refine AC_skip ?_
      refine hK5 _ _ _ ?_
      refine AC_seq fun K8 hK8 => ?_
      refine AC_region ?_
      refine AL_ev (Ev_move) rfl ?_
      refine AL_dcall hT hcu hbl rfl cl88 (c_byte) rfl rfl rfl fun C2 r2 hR2 hM2 hcu hT => ?_
      have hM := hM.trans hM2 (fun c hc _ => hc)
      obtain ⟨x2, rfl, hx2, hy2⟩ := hR2
      refine AL_ev (Ev_assign) rfl ?_
      refine AL_nil ?_
      refine hK8 _ _ _ ?_
      refine AC_seq fun K9 hK9 => ?_
      refine AC_region ?_
      refine AL_ev (Ev_move) rfl ?_
      refine AL_dcall hT hcu hbl rfl cl88 (c_byte) rfl rfl rfl fun C3 r3 hR3 hM3 hcu hT => ?_
      have hM := hM.trans hM3 (fun c hc _ => hc)
      obtain ⟨x3, rfl, hx3, hy3⟩ := hR3
      refine AL_ev (Ev_assign) rfl ?_
      refine AL_nil ?_
      refine hK9 _ _ _ ?_
      refine AC_seq fun K10 hK10 => ?_
      refine AC_region ?_
      refine AL_ev (Ev_move) rfl ?_
      refine AL_dcall hT hcu hbl rfl cl88 (c_byte) rfl rfl rfl fun C4 r4 hR4 hM4 hcu hT => ?_
      have hM := hM.trans hM4 (fun c hc _ => hc)
      obtain ⟨x4, rfl, hx4, hy4⟩ := hR4
      refine AL_ev (Ev_assign) rfl ?_
      refine AL_nil ?_
      refine hK10 _ _ _ ?_
      refine AC_seq fun K11 hK11 => ?_
      refine AC_region ?_
      refine AL_ev (Ev_move) rfl ?_
      refine AL_dcall hT hcu hbl rfl cl88 (c_byte) rfl rfl rfl fun C5 r5 hR5 hM5 hcu hT => ?_
      have hM := hM.trans hM5 (fun c hc _ => hc)
      obtain ⟨x5, rfl, hx5, hy5⟩ := hR5
      refine AL_ev (Ev_assign) rfl ?_
      refine AL_nil ?_
      refine hK11 _ _ _ ?_
      refine AC_seq fun K12 hK12 => ?_
      refine AC_region ?_
      refine AL_ev (Ev_move) rfl ?_
      first | refine AL_ev (Ev_mul rfl rfl _ (wrap_id (by first | omega | (simp; omega)) (by first | omega | (simp; omega)))) rfl ?_ | refine AL_ev (Ev_mul rfl rfl _ rfl) rfl ?_
      refine AL_ev (Ev_move) rfl ?_
      first | refine AL_ev (Ev_mul rfl rfl _ (wrap_id (by first | omega | (simp; omega)) (by first | omega | (simp; omega)))) rfl ?_ | refine AL_ev (Ev_mul rfl rfl _ rfl) rfl ?_
      first | refine AL_ev (Ev_add rfl rfl _ (wrap_id (by first | omega | (simp; omega)) (by first | omega | (simp; omega)))) rfl ?_ | refine AL_ev (Ev_add rfl rfl _ rfl) rfl ?_
      refine AL_ev (Ev_move) rfl ?_
      first | refine AL_ev (Ev_mul rfl rfl _ (wrap_id (by first | omega | (simp; omega)) (by first | omega | (simp; omega)))) rfl ?_ | refine AL_ev (Ev_mul rfl rfl _ rfl) rfl ?_
      first | refine AL_ev (Ev_add rfl rfl _ (wrap_id (by first | omega | (simp; omega)) (by first | omega | (simp; omega)))) rfl ?_ | refine AL_ev (Ev_add rfl rfl _ rfl) rfl ?_
      refine AL_ev (Ev_move) rfl ?_
      first | refine AL_ev (Ev_add rfl rfl _ (wrap_id (by first | omega | (simp; omega)) (by first | omega | (simp; omega)))) rfl ?_ | refine AL_ev (Ev_add rfl rfl _ rfl) rfl ?_
      refine AL_ev (Ev_move) rfl ?_
      refine AL_ev (Ev_rem rfl rfl (by first | decide | omega)) rfl ?_
      refine AL_ev (Ev_assign) rfl ?_
      refine AL_nil ?_
      refine hK12 _ _ _ ?_
      refine AC_ret ?_
      exact retd_ok hM hcu hdm (.tmp rfl rfl .nil) .d ⟨_, rfl, Int.tmod_nonneg _ (by omega), .inl (Int.tmod_lt_of_pos _ h1)⟩

set_option maxHeartbeats 1000000 in
set_option maxRecDepth 4000 in
theorem c_onceD (m : Int) (hm : m ≤ 4611686018427387904) : DCall Try.prog 60 [.c (.int .i64 m)] (fun r => ∃ x : Bool, r = .c (.bool x)) := by
  refine DCall_of (n := 9) Try.func60 rfl rfl (Nat.le_of_ble_eq_true rfl) fun C0 b bs hdm hbl hT hcu => ?_
  have hM := Mk.refl C0 [b]
  refine AC_seq fun K1 hK1 => ?_
  refine AC_region ?_
  refine AL_ev (Ev_assign) rfl ?_
  refine AL_nil ?_
  refine hK1 _ _ _ ?_
  refine AC_seq fun K2 hK2 => ?_
  refine AC_region ?_
  refine AL_ev (Ev_move) rfl ?_
  refine AL_ev (Ev_move) rfl ?_
  refine AL_dcall hT hcu hbl rfl cl61 (c_below m hm) rfl rfl rfl fun C1 r1 hR1 hM1 hcu hT => ?_
  have hM := hM.trans hM1 (fun c hc _ => hc)
  obtain ⟨x1, rfl, hx1, hy1⟩ := hR1
  refine AL_ev (Ev_eql rfl rfl) rfl ?_
  refine AL_ev (Ev_assign) rfl ?_
  refine AL_nil ?_
  refine hK2 _ _ _ ?_
  refine AC_ret ?_
  exact retd_ok hM hcu hdm (.tmp rfl rfl .nil) .d ⟨_, rfl⟩

set_option maxHeartbeats 1000000 in
set_option maxRecDepth 4000 in
theorem c_pick (xs : List ByteArray) (h0 : 0 < xs.length) : DCall Try.prog 101 [.sl .one (strs xs)] (fun r => ∃ s ∈ xs, r = .c (.string s)) := by
  refine DCall_of (n := 12) Try.func101 rfl rfl (Nat.le_of_ble_eq_true rfl) fun C0 b bs hdm hbl hT hcu => ?_
  have hM := Mk.refl C0 [b]
  refine AC_seq fun K1 hK1 => ?_
  refine AC_region ?_
  refine AL_ev (Ev_assign) rfl ?_
  refine AL_nil ?_
  refine hK1 _ _ _ ?_
  refine AC_seq fun K2 hK2 => ?_
  refine AC_region ?_
  refine AL_ev (Ev_move) rfl ?_
  refine AL_ev (Ev_move) rfl ?_
  refine AL_ev (Ev_move) rfl ?_
  first | refine AL_lim (x := (Operand.tmp 7)) rfl fun hl1 => ?_ | refine AL_limB (x := (Operand.tmp 7)) rfl rfl (by first | rfl | (simp; done) | (simp; omega)) fun hl1 => ?_ | have hl1 := True.intro
  try simp only [injs_length, ints_length, strs_length, injCs_length, u8s_length, List.length_map] at hl1
  first | refine AL_ev (Ev_len_strs te84 rfl) rfl ?_ | refine AL_ev (Ev_len_sl te84 rfl) rfl ?_ | refine AL_ev (Ev_len_ref te84 rfl) rfl ?_ | refine AL_ev (Ev_len_nil te84 rfl) rfl ?_ | refine AL_ev (Ev_len_c te84 rfl) rfl ?_
  refine AL_dcall hT hcu hbl rfl cl61 (c_below xs.length (by omega)) rfl rfl rfl fun C1 r1 hR1 hM1 hcu hT => ?_
  have hM := hM.trans hM1 (fun c hc _ => hc)
  obtain ⟨x1, rfl, hx1, hy1⟩ := hR1
  obtain ⟨j, rfl⟩ : ∃ j : Nat, x1 = (j : Int) := ⟨x1.toNat, by omega⟩
  obtain ⟨u, hu⟩ : ∃ u, xs[j]? = some u := ⟨_, List.getElem?_eq_getElem (by omega)⟩
  have hu2 := strs_get hu
  first | refine AL_ev (Ev_ix_sl rfl rfl te84 ts9 (by omega) (by assumption)) rfl ?_ | refine AL_ev (Ev_ix_ref rfl rfl te84 ts9 (by omega) (by first | omega | (simp; omega))) rfl ?_
  first | refine AL_ev (Ev_load_ptr rfl rfl rfl rfl rfl rfl ts9 ta9 rfl (fun _ => rfl)) rfl ?_ | refine AL_ev (Ev_load_rp rfl rfl rfl ts9 ta9 rfl (fun _ => rfl)) rfl ?_
  refine AL_ev (Ev_assign) rfl ?_
  refine AL_nil ?_
  refine hK2 _ _ _ ?_
  refine AC_ret ?_
  exact retd_ok hM hcu hdm (.tmp rfl rfl .nil) .d ⟨u, List.mem_of_getElem? hu, rfl⟩

set_option maxHeartbeats 1000000 in
set_option maxRecDepth 4000 in
theorem c_pickInt (xs : List Int) (h0 : 0 < xs.length) : DCall Try.prog 103 [.sl .one (ints xs)] (fun r => ∃ s ∈ xs, r = .c (.int .i64 s)) := by
  refine DCall_of (n := 12) Try.func103 rfl rfl (Nat.le_of_ble_eq_true rfl) fun C0 b bs hdm hbl hT hcu => ?_
  have hM := Mk.refl C0 [b]
  refine AC_seq fun K1 hK1 => ?_
  refine AC_region ?_
  refine AL_ev (Ev_assign) rfl ?_
  refine AL_nil ?_
  refine hK1 _ _ _ ?_
  refine AC_seq fun K2 hK2 => ?_
  refine AC_region ?_
  refine AL_ev (Ev_move) rfl ?_
  refine AL_ev (Ev_move) rfl ?_
  refine AL_ev (Ev_move) rfl ?_
  first | refine AL_lim (x := (Operand.tmp 7)) rfl fun hl1 => ?_ | refine AL_limB (x := (Operand.tmp 7)) rfl rfl (by first | rfl | (simp; done) | (simp; omega)) fun hl1 => ?_ | have hl1 := True.intro
  try simp only [injs_length, ints_length, strs_length, injCs_length, u8s_length, List.length_map] at hl1
  first | refine AL_ev (Ev_len_ints te85 rfl) rfl ?_ | refine AL_ev (Ev_len_sl te85 rfl) rfl ?_ | refine AL_ev (Ev_len_ref te85 rfl) rfl ?_ | refine AL_ev (Ev_len_nil te85 rfl) rfl ?_ | refine AL_ev (Ev_len_c te85 rfl) rfl ?_
  refine AL_dcall hT hcu hbl rfl cl61 (c_below xs.length (by omega)) rfl rfl rfl fun C1 r1 hR1 hM1 hcu hT => ?_
  have hM := hM.trans hM1 (fun c hc _ => hc)
  obtain ⟨x1, rfl, hx1, hy1⟩ := hR1
  obtain ⟨j, rfl⟩ : ∃ j : Nat, x1 = (j : Int) := ⟨x1.toNat, by omega⟩
  obtain ⟨u, hu⟩ : ∃ u, xs[j]? = some u := ⟨_, List.getElem?_eq_getElem (by omega)⟩
  have hu2 := ints_get hu
  first | refine AL_ev (Ev_ix_sl rfl rfl te85 ts3 (by omega) (by assumption)) rfl ?_ | refine AL_ev (Ev_ix_ref rfl rfl te85 ts3 (by omega) (by first | omega | (simp; omega))) rfl ?_
  first | refine AL_ev (Ev_load_ptr rfl rfl rfl rfl rfl rfl ts3 ta3 rfl (fun _ => rfl)) rfl ?_ | refine AL_ev (Ev_load_rp rfl rfl rfl ts3 ta3 rfl (fun _ => rfl)) rfl ?_
  refine AL_ev (Ev_assign) rfl ?_
  refine AL_nil ?_
  refine hK2 _ _ _ ?_
  refine AC_ret ?_
  exact retd_ok hM hcu hdm (.tmp rfl rfl .nil) .d ⟨u, List.mem_of_getElem? hu, rfl⟩

set_option maxHeartbeats 1000000 in
set_option maxRecDepth 4000 in
theorem c_var03 (m : Int) : PCall Try.prog 100 [.c (.int .i64 m)] (· = [inj (.mk 1 ⟨#[]⟩ m [])]) := by
  refine PCall_of (n := 5) Try.func100 rfl rfl (Nat.le_of_ble_eq_true rfl) fun C hdm hT0 => ?_
  have hT := hT0
  refine AC_seq fun K1 hK1 => ?_
  refine AC_region ?_
  refine AL_alloc zo35 _ rfl rfl ?_
  refine AL_nil ?_
  refine hK1 _ _ _ ?_
  refine AC_seq fun K2 hK2 => ?_
  refine AC_region ?_
  refine AL_ev (Ev_move) rfl ?_
  refine AL_ev (Ev_build (fs := [.one, .one, .one, .one]) (zs := [.c (.int .i64 0), .c (.string ⟨#[]⟩), .c (.int .i64 0), .c (.slice none 0 0)]) tz35 rfl tpl35 (.cons rfl rfl (by first | rfl | simp) (.cons rfl rfl (by first | rfl | simp) .nil))) rfl ?_
  first | refine AL_store rfl (nf rfl) rfl rfl rfl rfl rfl rfl (by first | rfl | assumption | simp [Lay.len, Lay.lens]) ts35 rfl rfl ?_ | refine AL_store rfl (nf rfl) rfl rfl rfl hes rfl rfl (by first | rfl | assumption | simp [Lay.len, Lay.lens]) ts35 rfl rfl ?_
  refine AL_nil ?_
  refine hK2 _ _ _ ?_
  refine AC_ret ?_
  exact ret_ok hdm (.cell rfl rfl rfl rfl rfl rfl ts35 ta35 rfl (by intro h; cases h) .nil) (.cons (.agg (.cons .d (.cons .d (.cons .d (.cons .nil .nil))))) .nil) rfl

set_option maxHeartbeats 1000000 in
set_option maxRecDepth 4000 in
theorem c_num03 (m : Int) : PCall Try.prog 102 [.c (.int .i64 m)] (· = [inj (.mk 3 ⟨#[]⟩ m [])]) := by
  refine PCall_of (n := 5) Try.func102 rfl rfl (Nat.le_of_ble_eq_true rfl) fun C hdm hT0 => ?_
  have hT := hT0
  refine AC_seq fun K1 hK1 => ?_
  refine AC_region ?_
  refine AL_alloc zo35 _ rfl rfl ?_
  refine AL_nil ?_
  refine hK1 _ _ _ ?_
  refine AC_seq fun K2 hK2 => ?_
  refine AC_region ?_
  refine AL_ev (Ev_move) rfl ?_
  refine AL_ev (Ev_build (fs := [.one, .one, .one, .one]) (zs := [.c (.int .i64 0), .c (.string ⟨#[]⟩), .c (.int .i64 0), .c (.slice none 0 0)]) tz35 rfl tpl35 (.cons rfl rfl (by first | rfl | simp) (.cons rfl rfl (by first | rfl | simp) .nil))) rfl ?_
  first | refine AL_store rfl (nf rfl) rfl rfl rfl rfl rfl rfl (by first | rfl | assumption | simp [Lay.len, Lay.lens]) ts35 rfl rfl ?_ | refine AL_store rfl (nf rfl) rfl rfl rfl hes rfl rfl (by first | rfl | assumption | simp [Lay.len, Lay.lens]) ts35 rfl rfl ?_
  refine AL_nil ?_
  refine hK2 _ _ _ ?_
  refine AC_ret ?_
  exact ret_ok hdm (.cell rfl rfl rfl rfl rfl rfl ts35 ta35 rfl (by intro h; cases h) .nil) (.cons (.agg (.cons .d (.cons .d (.cons .d (.cons .nil .nil))))) .nil) rfl

set_option maxHeartbeats 1000000 in
set_option maxRecDepth 4000 in
theorem c_atom03 (s : ByteArray) : PCall Try.prog 91 [.c (.string s)] (· = [inj (.mk 2 s 0 [])]) := by
  refine PCall_of (n := 5) Try.func91 rfl rfl (Nat.le_of_ble_eq_true rfl) fun C hdm hT0 => ?_
  have hT := hT0
  refine AC_seq fun K1 hK1 => ?_
  refine AC_region ?_
  refine AL_alloc zo35 _ rfl rfl ?_
  refine AL_nil ?_
  refine hK1 _ _ _ ?_
  refine AC_seq fun K2 hK2 => ?_
  refine AC_region ?_
  refine AL_ev (Ev_move) rfl ?_
  refine AL_ev (Ev_build (fs := [.one, .one, .one, .one]) (zs := [.c (.int .i64 0), .c (.string ⟨#[]⟩), .c (.int .i64 0), .c (.slice none 0 0)]) tz35 rfl tpl35 (.cons rfl rfl (by first | rfl | simp) (.cons rfl rfl (by first | rfl | simp) .nil))) rfl ?_
  first | refine AL_store rfl (nf rfl) rfl rfl rfl rfl rfl rfl (by first | rfl | assumption | simp [Lay.len, Lay.lens]) ts35 rfl rfl ?_ | refine AL_store rfl (nf rfl) rfl rfl rfl hes rfl rfl (by first | rfl | assumption | simp [Lay.len, Lay.lens]) ts35 rfl rfl ?_
  refine AL_nil ?_
  refine hK2 _ _ _ ?_
  refine AC_ret ?_
  exact ret_ok hdm (.cell rfl rfl rfl rfl rfl rfl ts35 ta35 rfl (by intro h; cases h) .nil) (.cons (.agg (.cons .d (.cons .d (.cons .d (.cons .nil .nil))))) .nil) rfl

set_option maxHeartbeats 1000000 in
set_option maxRecDepth 4000 in
theorem c_make21 (ks : List T) : PCall Try.prog 85 [.sl LT (injs ks)] (· = [inj (mkList ks)]) := by
  refine PCall_of (n := 20) Try.func85 rfl rfl (Nat.le_of_ble_eq_true rfl) fun C hdm hT0 => ?_
  have hT := hT0
  refine AC_seq fun K1 hK1 => ?_
  refine AC_region ?_
  refine AL_alloc zo35 _ rfl rfl ?_
  refine AL_nil ?_
  refine hK1 _ _ _ ?_
  refine AC_seq fun K2 hK2 => ?_
  refine AC_region ?_
  refine AL_fcall0 hT rfl cl91 (c_atom03 nmNil) rfl rfl ?_
  refine AL_alloc zo35 _ rfl rfl ?_
  first | refine AL_store rfl (nf rfl) rfl rfl rfl rfl rfl rfl (by first | rfl | assumption | simp [Lay.len, Lay.lens]) ts35 rfl rfl ?_ | refine AL_store rfl (nf rfl) rfl rfl rfl hes rfl rfl (by first | rfl | assumption | simp [Lay.len, Lay.lens]) ts35 rfl rfl ?_
  refine AL_nil ?_
  refine hK2 _ _ _ ?_
  refine AC_seq fun K3 hK3 => ?_
  refine AC_seq fun K4 hK4 => ?_
  refine AC_region ?_
  refine AL_ev (Ev_move) rfl ?_
  first | refine AL_lim (x := (Operand.tmp 6)) rfl fun hl1 => ?_ | refine AL_limB (x := (Operand.tmp 6)) rfl rfl (by first | rfl | (simp; done) | (simp; omega)) fun hl1 => ?_ | have hl1 := True.intro
  try simp only [injs_length, ints_length, strs_length, injCs_length, u8s_length, List.length_map] at hl1
  first | refine AL_ev (Ev_len_injs te24 rfl) rfl ?_ | refine AL_ev (Ev_len_sl te24 rfl) rfl ?_ | refine AL_ev (Ev_len_ref te24 rfl) rfl ?_ | refine AL_ev (Ev_len_nil te24 rfl) rfl ?_ | refine AL_ev (Ev_len_c te24 rfl) rfl ?_
  first | refine AL_ev (Ev_sub rfl rfl _ (wrap_id (by first | omega | (simp; omega)) (by first | omega | (simp; omega)))) rfl ?_ | refine AL_ev (Ev_sub rfl rfl _ rfl) rfl ?_
  refine AL_ev (Ev_assign) rfl ?_
  refine AL_nil ?_
  refine hK4 _ _ _ ?_
  refine AC_block ?_
  refine AC_loopS [0, 2, 3] (Nat) (fun m => [(4, i64 ((m : Int) - 1))]) (fun m => [some ⟨35, LT, [.d zT]⟩, some ⟨35, LT, [.d (inj (mkList (ks.drop m)))]⟩]) (fun m => m) (fun m => m ≤ ks.length) (ks.length) ?_ ?_ ?_
  · skip
    exact enterS [some 0, some 1] rfl rfl (BxTo_some rfl rfl rfl rfl (.cons (.rd .d) .nil) (BxTo_some rfl rfl rfl rfl (VwL_one (by rw [List.drop_length]; rfl)) BxTo_nil)) (SlTo_cons (by first | exact .rd .d | exact .ptr rfl | exact .ref rfl | exact .any | exact Vw_int (by omega)) (SlTo_cons (by first | exact .rd .d | exact .ptr rfl | exact .ref rfl | exact .any | exact Vw_int (by omega)) (SlTo_cons (by first | exact .rd .d | exact .ptr rfl | exact .ref rfl | exact .any | exact Vw_int (by omega)) (SlTo_cons (by first | exact .rd .d | exact .ptr rfl | exact .ref rfl | exact .any | exact Vw_int (by omega)) SlTo_nil))))
  · skip
    exact Nat.le_refl _
  intro m1 hm1
  refine AC_seq fun K5 hK5 => ?_
  refine AC_seq fun K6 hK6 => ?_
  refine AC_region ?_
  refine AL_ev (Ev_move) rfl ?_
  refine AL_ev (Ev_geq rfl rfl) rfl ?_
  refine AL_nil ?_
  refine hK6 _ _ _ ?_
  refine AC_cond rfl (fun hc1 => ?_) (fun hc1 => ?_)
  · skip
    have h1 : 0 < m1 := by have := of_decide_eq_true hc1; omega
    obtain ⟨m, rfl⟩ : ∃ m, m1 = m + 1 := ⟨m1 - 1, by omega⟩
    obtain ⟨u, hu⟩ : ∃ u, ks[m]? = some u := ⟨_, List.getElem?_eq_getElem (by omega)⟩
    have hu2 : (injs ks)[(((m + 1 : Nat) : Int) - 1).toNat]? = some (inj u) := by rw [show (((m + 1 : Nat) : Int) - 1).toNat = m by omega]; exact injs_get hu
    refine AC_skip ?_
    refine hK5 _ _ _ ?_
    refine AC_seq fun K7 hK7 => ?_
    refine AC_block ?_
    refine AC_draw hT follows [0, 1, 2, 3, 4, 5, 6] (by kernel_rfl) ?_
    refine DT_ev rfl (EA_move) rfl ?_
    refine DT_ev rfl (EA_move) rfl ?_
    first | refine DT_ev rfl (EA_ix_sl rfl rfl te24 ts35 (by omega) (by assumption)) rfl ?_ | refine DT_ev rfl (EA_ix_ref rfl rfl te24 ts35 (by omega) (by first | omega | (simp; omega))) rfl ?_
    first | refine DT_ev rfl (EA_load_ptr rfl rfl rfl rfl rfl rfl ts35 ta35 (by first | rfl | assumption | simp) (by intro h; cases h)) rfl ?_ | refine DT_ev rfl (EA_load_rp rfl rfl rfl ts35 ta35 (by first | rfl | assumption | simp) (by intro h; cases h)) rfl ?_
    first | refine DT_ev rfl (EA_load_ptr rfl rfl rfl rfl rfl rfl ts35 ta35 (by first | rfl | assumption | simp) (by intro h; cases h)) rfl ?_ | refine DT_ev rfl (EA_load_rp rfl rfl rfl ts35 ta35 (by first | rfl | assumption | simp) (by intro h; cases h)) rfl ?_
    refine DT_fcall0 rfl rfl cl99 (c_two nmDot u (mkList (ks.drop (m + 1)))) rfl rfl ?_
    first | refine DT_store rfl rfl (nf rfl) rfl rfl rfl rfl rfl rfl (by first | rfl | assumption | simp [Lay.len, Lay.lens]) ts35 rfl rfl ?_ | refine DT_store rfl rfl (nf rfl) rfl rfl rfl hes rfl rfl (by first | rfl | assumption | simp [Lay.len, Lay.lens]) ts35 rfl rfl ?_
    refine DTi.nil ?_
    refine hK7 _ _ _ ?_
    refine AC_region ?_
    refine AL_ev (Ev_move) rfl ?_
    first | refine AL_ev (Ev_sub rfl rfl _ (wrap_id (by first | omega | (simp; omega)) (by first | omega | (simp; omega)))) rfl ?_ | refine AL_ev (Ev_sub rfl rfl _ rfl) rfl ?_
    refine AL_ev (Ev_assign) rfl ?_
    refine AL_nil ?_
    refine closeS m [some 0, some 1] rfl rfl (by show m < m + 1; omega) (by show m ≤ ks.length; omega) (BxTo_some rfl rfl rfl rfl (.cons (.rd .d) .nil) (BxTo_some rfl rfl rfl rfl (VwL_one (by rw [mkList_drop hu])) BxTo_nil)) (SlTo_cons (Vw_int (by omega)) (SlTo_cons (by first | exact .rd .d | exact .ptr rfl | exact .ref rfl | exact .any | exact Vw_int (by omega)) (SlTo_cons (by first | exact .rd .d | exact .ptr rfl | exact .ref rfl | exact .any | exact Vw_int (by omega)) (SlTo_cons (by first | exact .rd .d | exact .ptr rfl | exact .ref rfl | exact .any | exact Vw_int (by omega)) SlTo_nil))))
  · skip
    refine AC_exit ?_
    refine hK3 _ _ _ ?_
    refine AC_seq fun K8 hK8 => ?_
    refine AC_region ?_
    first | refine AL_ev (Ev_load_ptr rfl rfl rfl rfl rfl rfl ts35 ta35 (by first | rfl | assumption | simp) (by intro h; cases h)) rfl ?_ | refine AL_ev (Ev_load_rp rfl rfl rfl ts35 ta35 (by first | rfl | assumption | simp) (by intro h; cases h)) rfl ?_
    first | refine AL_store rfl (nf rfl) rfl rfl rfl rfl rfl rfl (by first | rfl | assumption | simp [Lay.len, Lay.lens]) ts35 rfl rfl ?_ | refine AL_store rfl (nf rfl) rfl rfl rfl hes rfl rfl (by first | rfl | assumption | simp [Lay.len, Lay.lens]) ts35 rfl rfl ?_
    refine AL_nil ?_
    refine hK8 _ _ _ ?_
    refine AC_ret ?_
    have h1 : m1 = 0 := by have := of_decide_eq_false hc1; omega
    subst h1
    exact ret_ok hdm (.cell rfl rfl rfl rfl rfl rfl ts35 ta35 (inj_isAgg _) (by intro h; cases h) .nil) (.cons .d .nil) rfl

set_option maxHeartbeats 8000000 in
set_option maxRecDepth 4000 in
theorem c_made (d : Nat) : d ≤ 1000 → ∀ e : Int, e = d → DCall Try.prog 89 [.c (.int .i64 e)] (fun r => ∃ t : T, r = inj t ∧ bulk t + 2 ≤ pw d ∧ hgt t ≤ d + 1) := by
  induction d using Nat.strongRecOn with | _ d ih => ?_
  intro hd9 e he
  have hpw := pw_pos d
  refine DCall_of (n := 87) Try.func89 rfl rfl (Nat.le_of_ble_eq_true rfl) fun C0 b bs hdm hbl hT hcu => ?_
  have hM := Mk.refl C0 [b]
  refine AC_seq fun K1 hK1 => ?_
  refine AC_region ?_
  refine AL_alloc zo35 _ rfl rfl ?_
  refine AL_nil ?_
  refine hK1 _ _ _ ?_
  refine AC_seq fun K2 hK2 => ?_
  refine AC_region ?_
  refine AL_ev (Ev_move) rfl ?_
  refine AL_dcall hT hcu hbl rfl cl61 (c_below 10 (by omega)) rfl rfl rfl fun C1 r1 hR1 hM1 hcu hT => ?_
  have hM := hM.trans hM1 (fun c hc _ => hc)
  obtain ⟨x1, rfl, hx1, hy1⟩ := hR1
  refine AL_ev (Ev_assign) rfl ?_
  refine AL_nil ?_
  refine hK2 _ _ _ ?_
  refine AC_seqJ (fun f L => ∃ k : Int, (0 ≤ k ∧ k < 10 ∧ (6 ≤ k → 0 < d)) ∧ f = frOf [(0, rawP b 0), (1, i64 e), (4, .ptr LT 0 0 []), (5, i64 k)] ∧ L = [some ⟨35, LT, [.d zT]⟩]) ?_ ?_
  · skip
    refine AC_seq fun K4 hK4 => ?_
    refine AC_region ?_
    refine AL_ev (Ev_move) rfl ?_
    refine AL_ev (Ev_leq rfl rfl) rfl ?_
    refine AL_nil ?_
    refine hK4 _ _ _ ?_
    refine AC_cond rfl (fun hc1 => ?_) (fun hc1 => ?_)
    · skip
      refine AC_region ?_
      refine AL_ev (Ev_move) rfl ?_
      refine AL_ev (Ev_rem rfl rfl (by first | decide | omega)) rfl ?_
      refine AL_ev (Ev_assign) rfl ?_
      refine AL_nil ?_
      first | refine joinFE (x1.tmod 6) [some 0] rfl rfl (by have := Int.tmod_nonneg 6 hx1; have := Int.tmod_lt_of_pos x1 (show (0 : Int) < 6 by omega); omega) (BxTo_some rfl rfl rfl rfl (.cons (.rd .d) .nil) BxTo_nil) (SlTo_cons (by first | exact .rd .d | exact .ptr rfl | exact .ref rfl | exact .any | exact Vw_int (by omega)) (SlTo_cons (by first | exact .rd .d | exact .ptr rfl | exact .ref rfl | exact .any | exact Vw_int (by omega)) (SlTo_cons (by first | exact .rd .d | exact .ptr rfl | exact .ref rfl | exact .any | exact Vw_int (by omega)) (SlTo_cons (by first | exact .rd .d | exact .ptr rfl | exact .ref rfl | exact .any | exact Vw_int (by omega)) SlTo_nil)))) | refine joinFE x1 [some 0] rfl rfl (by have := of_decide_eq_false hc1; omega) (BxTo_some rfl rfl rfl rfl (.cons (.rd .d) .nil) BxTo_nil) (SlTo_cons (by first | exact .rd .d | exact .ptr rfl | exact .ref rfl | exact .any | exact Vw_int (by omega)) (SlTo_cons (by first | exact .rd .d | exact .ptr rfl | exact .ref rfl | exact .any | exact Vw_int (by omega)) (SlTo_cons (by first | exact .rd .d | exact .ptr rfl | exact .ref rfl | exact .any | exact Vw_int (by omega)) (SlTo_cons (by first | exact .rd .d | exact .ptr rfl | exact .ref rfl | exact .any | exact Vw_int (by omega)) SlTo_nil))))
    · skip
      refine AC_skip ?_
      first | refine joinFE (x1.tmod 6) [some 0] rfl rfl (by have := Int.tmod_nonneg 6 hx1; have := Int.tmod_lt_of_pos x1 (show (0 : Int) < 6 by omega); omega) (BxTo_some rfl rfl rfl rfl (.cons (.rd .d) .nil) BxTo_nil) (SlTo_cons (by first | exact .rd .d | exact .ptr rfl | exact .ref rfl | exact .any | exact Vw_int (by omega)) (SlTo_cons (by first | exact .rd .d | exact .ptr rfl | exact .ref rfl | exact .any | exact Vw_int (by omega)) (SlTo_cons (by first | exact .rd .d | exact .ptr rfl | exact .ref rfl | exact .any | exact Vw_int (by omega)) (SlTo_cons (by first | exact .rd .d | exact .ptr rfl | exact .ref rfl | exact .any | exact Vw_int (by omega)) SlTo_nil)))) | refine joinFE x1 [some 0] rfl rfl (by have := of_decide_eq_false hc1; omega) (BxTo_some rfl rfl rfl rfl (.cons (.rd .d) .nil) BxTo_nil) (SlTo_cons (by first | exact .rd .d | exact .ptr rfl | exact .ref rfl | exact .any | exact Vw_int (by omega)) (SlTo_cons (by first | exact .rd .d | exact .ptr rfl | exact .ref rfl | exact .any | exact Vw_int (by omega)) (SlTo_cons (by first | exact .rd .d | exact .ptr rfl | exact .ref rfl | exact .any | exact Vw_int (by omega)) (SlTo_cons (by first | exact .rd .d | exact .ptr rfl | exact .ref rfl | exact .any | exact Vw_int (by omega)) SlTo_nil))))
  · skip
    rintro f L ⟨k, ⟨hk0, hk1, hk2⟩, rfl, rfl⟩
    refine AC_seq fun K5 hK5 => ?_
    refine AC_block ?_
    refine AC_seq fun K6 hK6 => ?_
    refine AC_region ?_
    refine AL_ev (Ev_move) rfl ?_
    refine AL_ev (Ev_lss rfl rfl) rfl ?_
    refine AL_ev (Ev_assign) rfl ?_
    refine AL_nil ?_
    refine hK6 _ _ _ ?_
    refine AC_cond rfl (fun hc2 => ?_) (fun hc2 => ?_)
    · skip
      refine AC_seq fun K7 hK7 => ?_
      refine AC_region ?_
      refine AL_ev (Ev_move) rfl ?_
      refine AL_dcall hT hcu hbl rfl cl61 (c_below 4 (by omega)) rfl rfl rfl fun C2 r2 hR2 hM2 hcu hT => ?_
      have hM := hM.trans hM2 (fun c hc _ => hc)
      obtain ⟨x2, rfl, hx2, hy2⟩ := hR2
      refine AL_fcall0 hT rfl cl100 (c_var03 x2) rfl rfl ?_
      first | refine AL_store rfl (nf rfl) rfl rfl rfl rfl rfl rfl (by first | rfl | assumption | simp [Lay.len, Lay.lens]) ts35 rfl rfl ?_ | refine AL_store rfl (nf rfl) rfl rfl rfl hes rfl rfl (by first | rfl | assumption | simp [Lay.len, Lay.lens]) ts35 rfl rfl ?_
      refine AL_nil ?_
      refine hK7 _ _ _ ?_
      refine AC_ret ?_
      exact retd_ok hM hcu hdm (.cell rfl rfl rfl rfl rfl rfl ts35 ta35 rfl (by intro h; cases h) .nil) .d ⟨_, rfl, by rw [bulk_leaf0]; omega, by rw [hgt_leaf]; omega⟩
    · skip
      refine AC_seq fun K8 hK8 => ?_
      refine AC_region ?_
      refine AL_ev (Ev_move) rfl ?_
      refine AL_ev (Ev_lss rfl rfl) rfl ?_
      refine AL_ev (Ev_assign) rfl ?_
      refine AL_nil ?_
      refine hK8 _ _ _ ?_
      refine AC_cond rfl (fun hc3 => ?_) (fun hc3 => ?_)
      · skip
        refine AC_seq fun K9 hK9 => ?_
        refine AC_region ?_
        refine AL_ev (Ev_move) rfl ?_
        refine AL_ev (Ev_slice_str tstr9 rfl rfl rfl (by first | omega | decide) (by first | omega | decide) (by first | omega | decide)) rfl ?_
        first | refine AL_bD .one rfl te84 ts9 tz9 rfl rfl (by decide) (by decide) (by first | rfl | simp [lenDs, goodVs, goodV, V.known, Lay.len, Lay.lens]) rfl ?_ | refine AL_bV .one rfl te84 ts9 tz9 rfl rfl (by decide) (by decide) (by first | rfl | simp [lenDs, goodVs, goodV, V.known, Lay.len, Lay.lens]) _ rfl rfl ?_
        refine AL_dcall hT hcu hbl rfl cl101 (c_pick [⟨#[97]⟩, ⟨#[98]⟩, ⟨#[91, 93]⟩, ⟨#[43]⟩, ⟨#[66, 105, 103]⟩, ⟨#[120]⟩, ⟨#[58, 45]⟩, ⟨#[61, 46, 46]⟩] (by simp)) rfl rfl rfl fun C3 r3 hR3 hM3 hcu hT => ?_
        have hM := hM.trans hM3 (fun c hc _ => hc)
        obtain ⟨s3, hs3, rfl⟩ := hR3
        have hz3 : s3.size ≤ 3 := by
          simp only [List.mem_cons, List.not_mem_nil, or_false] at hs3
          rcases hs3 with rfl | rfl | rfl | rfl | rfl | rfl | rfl | rfl <;> decide
        refine AL_fcall0 hT rfl cl91 (c_atom03 s3) rfl rfl ?_
        first | refine AL_store rfl (nf rfl) rfl rfl rfl rfl rfl rfl (by first | rfl | assumption | simp [Lay.len, Lay.lens]) ts35 rfl rfl ?_ | refine AL_store rfl (nf rfl) rfl rfl rfl hes rfl rfl (by first | rfl | assumption | simp [Lay.len, Lay.lens]) ts35 rfl rfl ?_
        refine AL_nil ?_
        refine hK9 _ _ _ ?_
        refine AC_ret ?_
        exact retd_ok hM hcu hdm (.cell rfl rfl rfl rfl rfl rfl ts35 ta35 rfl (by intro h; cases h) .nil) .d ⟨_, rfl, by rw [bulk_leaf]; omega, by rw [hgt_leaf]; omega⟩
      · skip
        refine AC_seq fun K10 hK10 => ?_
        refine AC_region ?_
        refine AL_ev (Ev_move) rfl ?_
        refine AL_ev (Ev_lss rfl rfl) rfl ?_
        refine AL_ev (Ev_assign) rfl ?_
        refine AL_nil ?_
        refine hK10 _ _ _ ?_
        refine AC_cond rfl (fun hc4 => ?_) (fun hc4 => ?_)
        · skip
          refine AC_seq fun K11 hK11 => ?_
          refine AC_region ?_
          refine AL_ev (Ev_move) rfl ?_
          first | refine AL_bD .one rfl te85 ts3 tz3 rfl rfl (by decide) (by decide) (by first | rfl | simp [lenDs, goodVs, goodV, V.known, Lay.len, Lay.lens]) rfl ?_ | refine AL_bV .one rfl te85 ts3 tz3 rfl rfl (by decide) (by decide) (by first | rfl | simp [lenDs, goodVs, goodV, V.known, Lay.len, Lay.lens]) _ rfl rfl ?_
          refine AL_dcall hT hcu hbl rfl cl103 (c_pickInt [0, 1, -7, 999999999] (by simp)) rfl rfl rfl fun C4 r4 hR4 hM4 hcu hT => ?_
          have hM := hM.trans hM4 (fun c hc _ => hc)
          obtain ⟨n4, hn4, rfl⟩ := hR4
          refine AL_fcall0 hT rfl cl102 (c_num03 n4) rfl rfl ?_
          first | refine AL_store rfl (nf rfl) rfl rfl rfl rfl rfl rfl (by first | rfl | assumption | simp [Lay.len, Lay.lens]) ts35 rfl rfl ?_ | refine AL_store rfl (nf rfl) rfl rfl rfl hes rfl rfl (by first | rfl | assumption | simp [Lay.len, Lay.lens]) ts35 rfl rfl ?_
          refine AL_nil ?_
          refine hK11 _ _ _ ?_
          refine AC_ret ?_
          exact retd_ok hM hcu hdm (.cell rfl rfl rfl rfl rfl rfl ts35 ta35 rfl (by intro h; cases h) .nil) .d ⟨_, rfl, by rw [bulk_leaf0]; omega, by rw [hgt_leaf]; omega⟩
        · skip
          have h6 : 6 ≤ k := by have := of_decide_eq_false hc4; omega
          have hd0 := hk2 h6
          refine AC_seq fun K12 hK12 => ?_
          refine AC_region ?_
          refine AL_ev (Ev_move) rfl ?_
          refine AL_ev (Ev_eql rfl rfl) rfl ?_
          refine AL_ev (Ev_assign) rfl ?_
          refine AL_nil ?_
          refine hK12 _ _ _ ?_
          refine AC_cond rfl (fun hc5 => ?_) (fun hc5 => ?_)
          · skip
            refine AC_seq fun K13 hK13 => ?_
            refine AC_region ?_
            refine AL_ev (Ev_move) rfl ?_
            refine AL_ev (Ev_move) rfl ?_
            first | refine AL_ev (Ev_sub rfl rfl _ (wrap_id (by first | omega | (simp; omega)) (by first | omega | (simp; omega)))) rfl ?_ | refine AL_ev (Ev_sub rfl rfl _ rfl) rfl ?_
            refine AL_dcall hT hcu hbl rfl cl89 (ih (d - 1) (by omega) (by omega) (e - 1) (by omega)) rfl rfl rfl fun C5 r5 hR5 hM5 hcu hT => ?_
            have hM := hM.trans hM5 (fun c hc _ => hc)
            obtain ⟨t5, rfl, hb5, hh5⟩ := hR5
            refine AL_ev (Ev_move) rfl ?_
            refine AL_ev (Ev_move) rfl ?_
            first | refine AL_ev (Ev_sub rfl rfl _ (wrap_id (by first | omega | (simp; omega)) (by first | omega | (simp; omega)))) rfl ?_ | refine AL_ev (Ev_sub rfl rfl _ rfl) rfl ?_
            refine AL_dcall hT hcu hbl rfl cl89 (ih (d - 1) (by omega) (by omega) (e - 1) (by omega)) rfl rfl rfl fun C6 r6 hR6 hM6 hcu hT => ?_
            have hM := hM.trans hM6 (fun c hc _ => hc)
            obtain ⟨t6, rfl, hb6, hh6⟩ := hR6
            refine AL_fcall0 hT rfl cl99 (c_two nmDot t5 t6) rfl rfl ?_
            first | refine AL_store rfl (nf rfl) rfl rfl rfl rfl rfl rfl (by first | rfl | assumption | simp [Lay.len, Lay.lens]) ts35 rfl rfl ?_ | refine AL_store rfl (nf rfl) rfl rfl rfl hes rfl rfl (by first | rfl | assumption | simp [Lay.len, Lay.lens]) ts35 rfl rfl ?_
            refine AL_nil ?_
            refine hK13 _ _ _ ?_
            refine AC_ret ?_
            exact retd_ok hM hcu hdm (.cell rfl rfl rfl rfl rfl rfl ts35 ta35 rfl (by intro h; cases h) .nil) .d ⟨_, rfl, by rw [pw_pred hd0]; exact bulk_few (pw_pos _) (by decide) (by simp) (by simp only [List.mem_cons, List.not_mem_nil, or_false]; rintro _ (rfl | rfl) <;> assumption), hgt_mk (by simp only [List.mem_cons, List.not_mem_nil, or_false]; rintro _ (rfl | rfl) <;> omega)⟩
          · skip
            refine AC_seq fun K14 hK14 => ?_
            refine AC_region ?_
            refine AL_ev (Ev_move) rfl ?_
            refine AL_ev (Ev_eql rfl rfl) rfl ?_
            refine AL_ev (Ev_assign) rfl ?_
            refine AL_nil ?_
            refine hK14 _ _ _ ?_
            refine AC_cond rfl (fun hc6 => ?_) (fun hc6 => ?_)
            · skip
              refine AC_seq fun K15 hK15 => ?_
              refine AC_region ?_
              refine AL_ev (Ev_move) rfl ?_
              first | refine AL_bD .one rfl te84 ts9 tz9 rfl rfl (by decide) (by decide) (by first | rfl | simp [lenDs, goodVs, goodV, V.known, Lay.len, Lay.lens]) rfl ?_ | refine AL_bV .one rfl te84 ts9 tz9 rfl rfl (by decide) (by decide) (by first | rfl | simp [lenDs, goodVs, goodV, V.known, Lay.len, Lay.lens]) _ rfl rfl ?_
              refine AL_dcall hT hcu hbl rfl cl101 (c_pick [⟨#[43]⟩, ⟨#[61]⟩, ⟨#[44]⟩, ⟨#[102]⟩, ⟨#[59]⟩] (by simp)) rfl rfl rfl fun C7 r7 hR7 hM7 hcu hT => ?_
              have hM := hM.trans hM7 (fun c hc _ => hc)
              obtain ⟨s7, hs7, rfl⟩ := hR7
              have hz7 : s7.size ≤ 3 := by
                simp only [List.mem_cons, List.not_mem_nil, or_false] at hs7
                rcases hs7 with rfl | rfl | rfl | rfl | rfl <;> decide
              refine AL_ev (Ev_move) rfl ?_
              refine AL_ev (Ev_move) rfl ?_
              first | refine AL_ev (Ev_sub rfl rfl _ (wrap_id (by first | omega | (simp; omega)) (by first | omega | (simp; omega)))) rfl ?_ | refine AL_ev (Ev_sub rfl rfl _ rfl) rfl ?_
              refine AL_dcall hT hcu hbl rfl cl89 (ih (d - 1) (by omega) (by omega) (e - 1) (by omega)) rfl rfl rfl fun C8 r8 hR8 hM8 hcu hT => ?_
              have hM := hM.trans hM8 (fun c hc _ => hc)
              obtain ⟨t8, rfl, hb8, hh8⟩ := hR8
              refine AL_ev (Ev_move) rfl ?_
              refine AL_ev (Ev_move) rfl ?_
              first | refine AL_ev (Ev_sub rfl rfl _ (wrap_id (by first | omega | (simp; omega)) (by first | omega | (simp; omega)))) rfl ?_ | refine AL_ev (Ev_sub rfl rfl _ rfl) rfl ?_
              refine AL_dcall hT hcu hbl rfl cl89 (ih (d - 1) (by omega) (by omega) (e - 1) (by omega)) rfl rfl rfl fun C9 r9 hR9 hM9 hcu hT => ?_
              have hM := hM.trans hM9 (fun c hc _ => hc)
              obtain ⟨t9, rfl, hb9, hh9⟩ := hR9
              refine AL_fcall0 hT rfl cl99 (c_two s7 t8 t9) rfl rfl ?_
              first | refine AL_store rfl (nf rfl) rfl rfl rfl rfl rfl rfl (by first | rfl | assumption | simp [Lay.len, Lay.lens]) ts35 rfl rfl ?_ | refine AL_store rfl (nf rfl) rfl rfl rfl hes rfl rfl (by first | rfl | assumption | simp [Lay.len, Lay.lens]) ts35 rfl rfl ?_
              refine AL_nil ?_
              refine hK15 _ _ _ ?_
              refine AC_ret ?_
              exact retd_ok hM hcu hdm (.cell rfl rfl rfl rfl rfl rfl ts35 ta35 rfl (by intro h; cases h) .nil) .d ⟨_, rfl, by rw [pw_pred hd0]; exact bulk_few (pw_pos _) (by omega) (by simp) (by simp only [List.mem_cons, List.not_mem_nil, or_false]; rintro _ (rfl | rfl) <;> assumption), hgt_mk (by simp only [List.mem_cons, List.not_mem_nil, or_false]; rintro _ (rfl | rfl) <;> omega)⟩
            · skip
              refine AC_skip ?_
              refine hK5 _ _ _ ?_
              refine AC_seq fun K16 hK16 => ?_
              refine AC_region ?_
              refine AL_ev (Ev_move) rfl ?_
              first | refine AL_bD .one rfl te84 ts9 tz9 rfl rfl (by decide) (by decide) (by first | rfl | simp [lenDs, goodVs, goodV, V.known, Lay.len, Lay.lens]) rfl ?_ | refine AL_bV .one rfl te84 ts9 tz9 rfl rfl (by decide) (by decide) (by first | rfl | simp [lenDs, goodVs, goodV, V.known, Lay.len, Lay.lens]) _ rfl rfl ?_
              refine AL_dcall hT hcu hbl rfl cl101 (c_pick [⟨#[102]⟩, ⟨#[103]⟩, ⟨#[45]⟩, ⟨#[91, 93]⟩] (by simp)) rfl rfl rfl fun C10 r10 hR10 hM10 hcu hT => ?_
              have hM := hM.trans hM10 (fun c hc _ => hc)
              obtain ⟨s10, hs10, rfl⟩ := hR10
              have hz10 : s10.size ≤ 3 := by
                simp only [List.mem_cons, List.not_mem_nil, or_false] at hs10
                rcases hs10 with rfl | rfl | rfl | rfl <;> decide
              refine AL_ev (Ev_build (fs := [.one, .one, .one, .one]) (zs := [.c (.int .i64 0), .c (.string ⟨#[]⟩), .c (.int .i64 0), .c (.slice none 0 0)]) tz35 rfl tpl35 (.cons rfl rfl (by first | rfl | simp) (.cons rfl rfl (by first | rfl | simp) .nil))) rfl ?_
              refine AL_alloc zo35 _ rfl rfl ?_
              first | refine AL_store rfl (nf rfl) rfl rfl rfl rfl rfl rfl (by first | rfl | assumption | simp [Lay.len, Lay.lens]) ts35 rfl rfl ?_ | refine AL_store rfl (nf rfl) rfl rfl rfl hes rfl rfl (by first | rfl | assumption | simp [Lay.len, Lay.lens]) ts35 rfl rfl ?_
              refine AL_nil ?_
              refine hK16 _ _ _ ?_
              refine AC_seq fun K17 hK17 => ?_
              refine AC_seq fun K18 hK18 => ?_
              refine AC_region ?_
              refine AL_ev (Ev_assign) rfl ?_
              refine AL_nil ?_
              refine hK18 _ _ _ ?_
              refine AC_block ?_
              refine AC_loopX (Nat × List T) (fun q => [(7, i64 q.1)]) (fun q => [some ⟨35, LT, [.d zT]⟩, some ⟨35, LT, [.agg [.one, .one, .one, .one] [i64 4, st s10, i64 0, .ref LT 2 0 q.2.length]]⟩, some ⟨35, LT, (injs q.2).map V.d⟩]) (fun q => 4 - q.1) (fun C q => CurC C b bs ∧ Mk C0 [b] C ∧ CT Try.prog C ∧ (q.1 ≤ 3 ∧ q.2.length ≤ q.1 ∧ ∀ t ∈ q.2, bulk t + 2 ≤ pw (d - 1) ∧ hgt t ≤ d)) [0, 1, 4, 6] ?_ ?_
              · skip
                refine Fin_wk (Wk_nil_box 1 0 [3] 35 LT rfl rfl rfl rfl 2 rfl rfl ?_)
                exact enterX (0, []) [some 0, some 1, some 2] rfl rfl ⟨hcu, hM, hT, Nat.zero_le _, Nat.zero_le _, by simp⟩ (BxTo_some rfl rfl rfl rfl (.cons (.rd .d) .nil) (BxTo_some rfl rfl rfl rfl (.cons (.agg (.cons (.rd .d) (.cons (.rd .d) (.cons (.rd .d) (.cons (.ref rfl) .nil))))) .nil) (BxTo_some rfl rfl rfl rfl .nil BxTo_nil))) (SlTo_cons (by first | exact .rd .d | exact .ptr rfl | exact .ref rfl | exact .any | exact Vw_int (by omega)) (SlTo_cons (by first | exact .rd .d | exact .ptr rfl | exact .ref rfl | exact .any | exact Vw_int (by omega)) (SlTo_cons (by first | exact .rd .d | exact .ptr rfl | exact .ref rfl | exact .any | exact Vw_int (by omega)) (SlTo_cons (by first | exact .rd .d | exact .ptr rfl | exact .ref rfl | exact .any | exact Vw_int (by omega)) (SlTo_cons (by first | exact .rd .d | exact .ptr rfl | exact .ref rfl | exact .any | exact Vw_int (by omega)) SlTo_nil)))))
              rintro CL ⟨j, ks⟩ ⟨hcu, hM, hT, hj, hkj, hks⟩
              simp only at hj hkj hks
              refine AC_seq fun K19 hK19 => ?_
              refine AC_seq fun K20 hK20 => ?_
              refine AC_region ?_
              refine AL_ev (Ev_move) rfl ?_
              refine AL_ev (Ev_move) rfl ?_
              refine AL_dcall hT hcu hbl rfl cl61 (c_below 3 (by omega)) rfl rfl rfl fun C11 r11 hR11 hM11 hcu hT => ?_
              have hM := hM.trans hM11 (fun c hc _ => hc)
              obtain ⟨x11, rfl, hx11, hy11⟩ := hR11
              first | refine AL_ev (Ev_add rfl rfl _ (wrap_id (by first | omega | (simp; omega)) (by first | omega | (simp; omega)))) rfl ?_ | refine AL_ev (Ev_add rfl rfl _ rfl) rfl ?_
              refine AL_ev (Ev_lss rfl rfl) rfl ?_
              refine AL_nil ?_
              refine hK20 _ _ _ ?_
              refine AC_cond rfl (fun hc7 => ?_) (fun hc7 => ?_)
              · skip
                have h7 : j < 3 := by have := of_decide_eq_true hc7; omega
                refine AC_skip ?_
                refine hK19 _ _ _ ?_
                refine AC_seq fun K21 hK21 => ?_
                refine AC_block ?_
                refine AC_seq fun K22 hK22 => ?_
                refine AC_region ?_
                first | refine AL_ev (Ev_fa_ptr rfl fa35_3 rfl rfl) rfl ?_ | refine AL_ev (Ev_fa_rp rfl fa35_3 rfl rfl) rfl ?_
                first | refine AL_ev (Ev_load_ptr rfl rfl rfl hes rfl rfl ts24 ta24 rfl (fun _ => rfl)) rfl ?_ | refine AL_ev (Ev_load_ptr rfl rfl rfl rfl rfl rfl ts24 ta24 rfl (fun _ => rfl)) rfl ?_ | refine AL_ev (Ev_load_rp rfl rfl rfl ts24 ta24 rfl (fun _ => rfl)) rfl ?_
                first | refine AL_lim (x := (Operand.tmp 74)) rfl fun hl1 => ?_ | refine AL_limB (x := (Operand.tmp 74)) rfl rfl (by first | rfl | (simp; done) | (simp; omega)) fun hl1 => ?_ | have hl1 := True.intro
                try simp only [injs_length, ints_length, strs_length, injCs_length, u8s_length, List.length_map] at hl1
                first | refine AL_ev (Ev_len_injs te24 rfl) rfl ?_ | refine AL_ev (Ev_len_sl te24 rfl) rfl ?_ | refine AL_ev (Ev_len_ref te24 rfl) rfl ?_ | refine AL_ev (Ev_len_nil te24 rfl) rfl ?_ | refine AL_ev (Ev_len_c te24 rfl) rfl ?_
                refine AL_ev (Ev_lss rfl rfl) rfl ?_
                refine AL_nil ?_
                refine hK22 _ _ _ ?_
                refine AC_cond rfl (fun hc8 => ?_) (fun hc8 => ?_)
                · skip
                  refine AC_draw hT follows [0, 1, 2, 3, 4, 5, 6, 7, 8, 9] (by kernel_rfl) ?_
                  first | refine DT_ev rfl (EA_fa_ptr rfl fa35_3 rfl rfl) rfl ?_ | refine DT_ev rfl (EA_fa_rp rfl fa35_3 rfl rfl) rfl ?_
                  first | refine DT_ev rfl (EA_load_ptr rfl rfl rfl hes rfl rfl ts24 ta24 rfl (fun _ => rfl)) rfl ?_ | refine DT_ev rfl (EA_load_ptr rfl rfl rfl rfl rfl rfl ts24 ta24 rfl (fun _ => rfl)) rfl ?_ | refine DT_ev rfl (EA_load_rp rfl rfl rfl ts24 ta24 rfl (fun _ => rfl)) rfl ?_
                  refine DT_ev rfl (EA_move) rfl ?_
                  refine DT_ev rfl (EA_move) rfl ?_
                  first | refine DT_ev rfl (EA_sub rfl rfl _ (wrap_id (by first | omega | (simp; omega)) (by first | omega | (simp; omega)))) rfl ?_ | refine DT_ev rfl (EA_sub rfl rfl _ rfl) rfl ?_
                  refine DT_dcall hT hcu hbl rfl rfl cl89 (ih (d - 1) (by omega) (by omega) (e - 1) (by omega)) rfl rfl rfl (by kernel_rfl) fun C12 r12 hR12 hM12 hcu hT => ?_
                  have hM := hM.trans hM12 (fun c hc _ => hc)
                  obtain ⟨t12, rfl, hb12, hh12⟩ := hR12
                  refine DT_bD (Lay.st [.one, .one, .one, .one]) rfl rfl te24 ts35 tz35 rfl rfl (by decide) (by decide) (by first | rfl | simp [lenDs, goodVs, goodV, V.known, Lay.len, Lay.lens]) rfl ?_
                  first | refine DT_append_sl rfl rfl rfl rfl rfl te24 ts35 tz35 rfl tb35 (by decide) (by decide) rfl (by first | rfl | (simp; done) | (simp; omega)) (by simp only [lim]; first | omega | (simp; done) | (simp; omega)) _ rfl rfl ?_ | refine DT_append_nil rfl rfl rfl rfl rfl te24 ts35 tz35 rfl tb35 (by decide) (by decide) rfl (by first | rfl | (simp; done) | (simp; omega)) (by simp only [lim]; first | omega | (simp; done) | (simp; omega)) _ rfl rfl ?_
                  first | refine DT_ev rfl (EA_fa_ptr rfl fa35_3 rfl rfl) rfl ?_ | refine DT_ev rfl (EA_fa_rp rfl fa35_3 rfl rfl) rfl ?_
                  first | refine DT_store rfl rfl (nf rfl) rfl rfl rfl rfl rfl rfl (by first | rfl | assumption | simp [Lay.len, Lay.lens]) ts24 rfl rfl ?_ | refine DT_store rfl rfl (nf rfl) rfl rfl rfl hes rfl rfl (by first | rfl | assumption | simp [Lay.len, Lay.lens]) ts24 rfl rfl ?_
                  refine DTi.nil ?_
                  refine hK21 _ _ _ ?_
                  refine AC_region ?_
                  refine AL_ev (Ev_move) rfl ?_
                  first | refine AL_ev (Ev_add rfl rfl _ (wrap_id (by first | omega | (simp; omega)) (by first | omega | (simp; omega)))) rfl ?_ | refine AL_ev (Ev_add rfl rfl _ rfl) rfl ?_
                  refine AL_ev (Ev_assign) rfl ?_
                  refine AL_nil ?_
                  refine closeX (j + 1, ks ++ [t12]) [some 0, some 1, some 3] rfl rfl (by show 4 - (j + 1) < 4 - j; omega) ⟨hcu, hM, hT, by show j + 1 ≤ 3; omega, by simp; omega, by simp only [List.mem_append, List.mem_singleton]; rintro t (ht | rfl); exact hks t ht; exact ⟨hb12, by omega⟩⟩ (BxTo_some rfl rfl rfl rfl (.cons (.rd .d) .nil) (BxTo_some rfl rfl rfl rfl (.cons (.agg (.cons (.rd .d) (.cons (.rd .d) (.cons (.rd .d) (.cons (Vw_refe rfl (by first | rfl | simp)) .nil))))) .nil) (BxTo_some rfl rfl rfl rfl (VwL_app (by simp [injs_map])) BxTo_nil))) (SlTo_cons (Vw_int (by first | rfl | (simp; omega) | omega)) (SlTo_cons (by first | exact .rd .d | exact .ptr rfl | exact .ref rfl | exact .any | exact Vw_int (by omega)) (SlTo_cons (by first | exact .rd .d | exact .ptr rfl | exact .ref rfl | exact .any | exact Vw_int (by omega)) (SlTo_cons (by first | exact .rd .d | exact .ptr rfl | exact .ref rfl | exact .any | exact Vw_int (by omega)) (SlTo_cons (by first | exact .rd .d | exact .ptr rfl | exact .ref rfl | exact .any | exact Vw_int (by omega)) SlTo_nil)))))
                · skip
                  refine AC_skip ?_
                  refine hK21 _ _ _ ?_
                  refine AC_region ?_
                  refine AL_ev (Ev_move) rfl ?_
                  first | refine AL_ev (Ev_add rfl rfl _ (wrap_id (by first | omega | (simp; omega)) (by first | omega | (simp; omega)))) rfl ?_ | refine AL_ev (Ev_add rfl rfl _ rfl) rfl ?_
                  refine AL_ev (Ev_assign) rfl ?_
                  refine AL_nil ?_
                  refine closeX (j + 1, ks) [some 0, some 1, some 2] rfl rfl (by show 4 - (j + 1) < 4 - j; omega) ⟨hcu, hM, hT, by show j + 1 ≤ 3; omega, by show ks.length ≤ j + 1; omega, hks⟩ (BxTo_some rfl rfl rfl rfl (.cons (.rd .d) .nil) (BxTo_some rfl rfl rfl rfl (.cons (.agg (.cons (.rd .d) (.cons (.rd .d) (.cons (.rd .d) (.cons (Vw_refe rfl (by first | rfl | simp)) .nil))))) .nil) (BxTo_some rfl rfl rfl rfl (VwL_dd (by simp)) BxTo_nil))) (SlTo_cons (Vw_int (by first | rfl | (simp; omega) | omega)) (SlTo_cons (by first | exact .rd .d | exact .ptr rfl | exact .ref rfl | exact .any | exact Vw_int (by omega)) (SlTo_cons (by first | exact .rd .d | exact .ptr rfl | exact .ref rfl | exact .any | exact Vw_int (by omega)) (SlTo_cons (by first | exact .rd .d | exact .ptr rfl | exact .ref rfl | exact .any | exact Vw_int (by omega)) (SlTo_cons (by first | exact .rd .d | exact .ptr rfl | exact .ref rfl | exact .any | exact Vw_int (by omega)) SlTo_nil)))))
              · skip
                refine AC_exit ?_
                refine hK17 _ _ _ ?_
                refine AC_seq fun K23 hK23 => ?_
                refine AC_region ?_
                first | refine AL_ev (Ev_load_ptr rfl rfl rfl hes rfl rfl ts35 ta35 (by first | rfl | assumption | simp) (by intro h; cases h)) rfl ?_ | refine AL_ev (Ev_load_ptr rfl rfl rfl rfl rfl rfl ts35 ta35 (by first | rfl | assumption | simp) (by intro h; cases h)) rfl ?_ | refine AL_ev (Ev_load_rp rfl rfl rfl ts35 ta35 (by first | rfl | assumption | simp) (by intro h; cases h)) rfl ?_
                first | refine AL_store rfl (nf rfl) rfl rfl rfl rfl rfl rfl (by first | rfl | assumption | simp [Lay.len, Lay.lens]) ts35 rfl rfl ?_ | refine AL_store rfl (nf rfl) rfl rfl rfl hes rfl rfl (by first | rfl | assumption | simp [Lay.len, Lay.lens]) ts35 rfl rfl ?_
                refine AL_nil ?_
                refine hK23 _ _ _ ?_
                refine AC_ret ?_
                exact retd_ok hM hcu hdm (.cell rfl rfl rfl rfl rfl rfl ts35 ta35 rfl (by intro h; cases h) .nil) (.agg (.cons .d (.cons .d (.cons .d (.cons (.ref trivial rfl rfl (by simp) (ReadsL_d _)) .nil))))) ⟨.mk 4 s10 0 ks, rfl, by rw [pw_pred hd0]; exact bulk_few (pw_pos _) (by omega) (by omega) fun t ht => (hks t ht).1, hgt_mk fun t ht => (hks t ht).2⟩

set_option maxHeartbeats 1000000 in
set_option maxRecDepth 4000 in
theorem c_term03  : DCall Try.prog 79 [] (fun r => ∃ t : T, r = inj t ∧ bulk t ≤ 623 ∧ okT t = true ∧ hgt t ≤ 4) := by
  refine DCall_of (n := 10) Try.func79 rfl rfl (Nat.le_of_ble_eq_true rfl) fun C0 b bs hdm hbl hT hcu => ?_
  have hM := Mk.refl C0 [b]
  refine AC_seq fun K1 hK1 => ?_
  refine AC_region ?_
  refine AL_alloc zo35 _ rfl rfl ?_
  refine AL_nil ?_
  refine hK1 _ _ _ ?_
  refine AC_seq fun K2 hK2 => ?_
  refine AC_region ?_
  refine AL_ev (Ev_move) rfl ?_
  refine AL_dcall hT hcu hbl rfl cl89 (c_made 3 (by omega) 3 rfl) rfl rfl rfl fun C1 r1 hR1 hM1 hcu hT => ?_
  have hM := hM.trans hM1 (fun c hc _ => hc)
  obtain ⟨t1, rfl, hb1, hh1⟩ := hR1
  rw [pw3] at hb1
  refine AL_alloc zo35 _ rfl rfl ?_
  first | refine AL_store rfl (nf rfl) rfl rfl rfl rfl rfl rfl (by first | rfl | assumption | simp [Lay.len, Lay.lens]) ts35 rfl rfl ?_ | refine AL_store rfl (nf rfl) rfl rfl rfl hes rfl rfl (by first | rfl | assumption | simp [Lay.len, Lay.lens]) ts35 rfl rfl ?_
  refine AL_nil ?_
  refine hK2 _ _ _ ?_
  refine AC_seq fun K3 hK3 => ?_
  refine AC_seq fun K4 hK4 => ?_
  refine AC_region ?_
  first | refine AL_ev (Ev_load_ptr rfl rfl rfl rfl rfl rfl ts35 ta35 (by first | rfl | assumption | simp) (by intro h; cases h)) rfl ?_ | refine AL_ev (Ev_load_rp rfl rfl rfl ts35 ta35 (by first | rfl | assumption | simp) (by intro h; cases h)) rfl ?_
  refine AL_fcall0 hT rfl cl51 (c_specTermOk t1 (by omega)) rfl rfl ?_
  refine AL_nil ?_
  refine hK4 _ _ _ ?_
  refine AC_cond rfl (fun hc1 => ?_) (fun hc1 => ?_)
  · skip
    refine AC_seq fun K5 hK5 => ?_
    refine AC_region ?_
    first | refine AL_ev (Ev_load_ptr rfl rfl rfl rfl rfl rfl ts35 ta35 (by first | rfl | assumption | simp) (by intro h; cases h)) rfl ?_ | refine AL_ev (Ev_load_rp rfl rfl rfl ts35 ta35 (by first | rfl | assumption | simp) (by intro h; cases h)) rfl ?_
    first | refine AL_store rfl (nf rfl) rfl rfl rfl rfl rfl rfl (by first | rfl | assumption | simp [Lay.len, Lay.lens]) ts35 rfl rfl ?_ | refine AL_store rfl (nf rfl) rfl rfl rfl hes rfl rfl (by first | rfl | assumption | simp [Lay.len, Lay.lens]) ts35 rfl rfl ?_
    refine AL_nil ?_
    refine hK5 _ _ _ ?_
    refine AC_ret ?_
    exact retd_ok hM hcu hdm (.cell rfl rfl rfl rfl rfl rfl ts35 ta35 (inj_isAgg _) (by intro h; cases h) .nil) .d ⟨t1, rfl, by omega, by simpa using hc1, hh1⟩
  · skip
    refine AC_skip ?_
    refine hK3 _ _ _ ?_
    refine AC_seq fun K6 hK6 => ?_
    refine AC_region ?_
    refine AL_fcall0 hT rfl cl91 (c_atom03 ⟨#[97]⟩) rfl rfl ?_
    first | refine AL_store rfl (nf rfl) rfl rfl rfl rfl rfl rfl (by first | rfl | assumption | simp [Lay.len, Lay.lens]) ts35 rfl rfl ?_ | refine AL_store rfl (nf rfl) rfl rfl rfl hes rfl rfl (by first | rfl | assumption | simp [Lay.len, Lay.lens]) ts35 rfl rfl ?_
    refine AL_nil ?_
    refine hK6 _ _ _ ?_
    refine AC_ret ?_
    exact retd_ok hM hcu hdm (.cell rfl rfl rfl rfl rfl rfl ts35 ta35 rfl (by intro h; cases h) .nil) .d ⟨_, rfl, by rw [bulk_leaf]; decide, by rfl, by decide⟩

set_option maxHeartbeats 1000000 in
set_option maxRecDepth 4000 in
theorem c_terms21  : DLCall Try.prog 49 [] 35 LT (fun ys => ∃ ts : List T, ys = injs ts ∧ (ts.length ≤ 6 ∧ ∀ t ∈ ts, bulk t ≤ 623 ∧ okT t = true ∧ hgt t ≤ 4)) := by
  refine DLCall_of (n := 31) Try.func49 rfl rfl (Nat.le_of_ble_eq_true rfl) fun C0 b bs hdm hbl hT hcu => ?_
  have hM := Mk.refl C0 [b]
  refine AC_seq fun K1 hK1 => ?_
  refine AC_region ?_
  refine AL_ev (Ev_assign) rfl ?_
  refine AL_nil ?_
  refine hK1 _ _ _ ?_
  refine AC_seq fun K2 hK2 => ?_
  refine AC_region ?_
  refine AL_bV (Lay.st [.one, .one, .one, .one]) rfl te24 ts35 tz35 rfl rfl (by decide) (by decide) (by first | rfl | simp [lenDs, goodVs, goodV, V.known, Lay.len, Lay.lens]) _ rfl rfl ?_
  refine AL_ev (Ev_assign) rfl ?_
  refine AL_nil ?_
  refine hK2 _ _ _ ?_
  refine AC_seq fun K3 hK3 => ?_
  refine AC_seq fun K4 hK4 => ?_
  refine AC_region ?_
  refine AL_ev (Ev_assign) rfl ?_
  refine AL_nil ?_
  refine hK4 _ _ _ ?_
  refine AC_block ?_
  refine AC_loopX (Nat × List T) (fun q => [(4, i64 q.1), (3, .ref LT 0 0 q.2.length)]) (fun q => [some ⟨35, LT, (injs q.2).map V.d⟩]) (fun q => 6 - q.1) (fun C q => CurC C b bs ∧ Mk C0 [b] C ∧ CT Try.prog C ∧ (q.1 ≤ 5 ∧ q.2.length = q.1 ∧ ∀ t ∈ q.2, bulk t ≤ 623 ∧ okT t = true ∧ hgt t ≤ 4)) [0] ?_ ?_
  · skip
    exact enterX (0, []) [some 0] rfl rfl ⟨hcu, hM, hT, Nat.zero_le _, rfl, by simp⟩ (BxTo_some rfl rfl rfl rfl .nil BxTo_nil) (SlTo_cons (by first | exact .rd .d | exact .ptr rfl | exact .ref rfl | exact .any | exact Vw_int (by omega)) (SlTo_cons (Vw_refe rfl (by first | rfl | simp)) (SlTo_cons (by first | exact .rd .d | exact .ptr rfl | exact .ref rfl | exact .any | exact Vw_int (by omega)) SlTo_nil)))
  rintro CL ⟨j, ts⟩ ⟨hcu, hM, hT, hj, hln, hts⟩
  simp only at hj hln hts
  refine AC_seq fun K5 hK5 => ?_
  refine AC_seq fun K6 hK6 => ?_
  refine AC_region ?_
  refine AL_ev (Ev_move) rfl ?_
  refine AL_ev (Ev_move) rfl ?_
  refine AL_dcall hT hcu hbl rfl cl61 (c_below 5 (by omega)) rfl rfl rfl fun C1 r1 hR1 hM1 hcu hT => ?_
  have hM := hM.trans hM1 (fun c hc _ => hc)
  obtain ⟨x1, rfl, hx1, hy1⟩ := hR1
  refine AL_ev (Ev_lss rfl rfl) rfl ?_
  refine AL_nil ?_
  refine hK6 _ _ _ ?_
  refine AC_cond rfl (fun hc1 => ?_) (fun hc1 => ?_)
  · skip
    have h1 : j < 5 := by have := of_decide_eq_true hc1; omega
    refine AC_skip ?_
    refine hK5 _ _ _ ?_
    refine AC_seq fun K7 hK7 => ?_
    refine AC_block ?_
    refine AC_region ?_
    refine AL_ev (Ev_move) rfl ?_
    refine AL_ev (Ev_move) rfl ?_
    refine AL_dcall hT hcu hbl rfl cl79 (c_term03) rfl rfl rfl fun C2 r2 hR2 hM2 hcu hT => ?_
    have hM := hM.trans hM2 (fun c hc _ => hc)
    obtain ⟨t2, rfl, hb2, ho2, hh2⟩ := hR2
    first | refine AL_bD (Lay.st [.one, .one, .one, .one]) rfl te24 ts35 tz35 rfl rfl (by decide) (by decide) (by first | rfl | simp [lenDs, goodVs, goodV, V.known, Lay.len, Lay.lens]) rfl ?_ | refine AL_bV (Lay.st [.one, .one, .one, .one]) rfl te24 ts35 tz35 rfl rfl (by decide) (by decide) (by first | rfl | simp [lenDs, goodVs, goodV, V.known, Lay.len, Lay.lens]) _ rfl rfl ?_
    first | refine AL_append rfl rfl rfl te24 ts35 tz35 rfl tb35 (by decide) (by decide) rfl (by first | rfl | (simp; done) | (simp; omega)) (Src_sl rfl) (by simp only [lim]; first | omega | (simp; done) | (simp; omega)) _ rfl rfl ?_ | refine AL_append rfl rfl rfl te24 ts35 tz35 rfl tb35 (by decide) (by decide) rfl (by first | rfl | (simp; done) | (simp; omega)) (Src_ref rfl rfl rfl (by first | rfl | (simp; done) | (simp; omega))) (by simp only [lim]; first | omega | (simp; done) | (simp; omega)) _ rfl rfl ?_ | refine AL_append rfl rfl rfl te24 ts35 tz35 rfl tb35 (by decide) (by decide) rfl (by first | rfl | (simp; done) | (simp; omega)) (Src_nil rfl) (by simp only [lim]; first | omega | (simp; done) | (simp; omega)) _ rfl rfl ?_
    refine AL_ev (Ev_assign) rfl ?_
    refine AL_nil ?_
    refine hK7 _ _ _ ?_
    refine AC_region ?_
    refine AL_ev (Ev_move) rfl ?_
    first | refine AL_ev (Ev_add rfl rfl _ (wrap_id (by first | omega | (simp; omega)) (by first | omega | (simp; omega)))) rfl ?_ | refine AL_ev (Ev_add rfl rfl _ rfl) rfl ?_
    refine AL_ev (Ev_assign) rfl ?_
    refine AL_nil ?_
    refine closeX (j + 1, ts ++ [t2]) [some 1] rfl rfl (by show 6 - (j + 1) < 6 - j; omega) ⟨hcu, hM, hT, by show j + 1 ≤ 5; omega, by simp; omega, by simp only [List.mem_append, List.mem_singleton]; rintro t (ht | rfl); exact hts t ht; exact ⟨hb2, ho2, hh2⟩⟩ (BxTo_some rfl rfl rfl rfl (VwL_app (by simp [injs_map])) BxTo_nil) (SlTo_cons (Vw_int (by first | rfl | (simp; omega) | omega)) (SlTo_cons (Vw_refe rfl (by first | rfl | simp)) (SlTo_cons (by first | exact .rd .d | exact .ptr rfl | exact .ref rfl | exact .any | exact Vw_int (by omega)) SlTo_nil)))
  · skip
    refine AC_exit ?_
    refine hK3 _ _ _ ?_
    refine AC_seq fun K8 hK8 => ?_
    refine AC_seq fun K9 hK9 => ?_
    refine AC_region ?_
    refine AL_ev (Ev_move) rfl ?_
    first | refine AL_lim (x := (Operand.tmp 17)) rfl fun hl1 => ?_ | refine AL_limB (x := (Operand.tmp 17)) rfl rfl (by first | rfl | (simp; done) | (simp; omega)) fun hl1 => ?_ | have hl1 := True.intro
    try simp only [injs_length, ints_length, strs_length, injCs_length, u8s_length, List.length_map] at hl1
    first | refine AL_ev (Ev_len_injs te24 rfl) rfl ?_ | refine AL_ev (Ev_len_sl te24 rfl) rfl ?_ | refine AL_ev (Ev_len_ref te24 rfl) rfl ?_ | refine AL_ev (Ev_len_nil te24 rfl) rfl ?_ | refine AL_ev (Ev_len_c te24 rfl) rfl ?_
    refine AL_ev (Ev_gtr rfl rfl) rfl ?_
    refine AL_ev (Ev_move) rfl ?_
    refine AL_bool 20 rfl (fun hg2 => ?_) (fun hg2 => ?_)
    · skip
      have h2 : 0 < ts.length := by have h3 : ((ts.length : Nat) : Int) > 0 := of_decide_eq_true hg2; omega
      obtain ⟨t0, h0⟩ : ∃ t, ts[0]? = some t := ⟨_, List.getElem?_eq_getElem h2⟩
      have hes : ((injs ts).map V.d)[0 + (0 : Int).toNat]? = some (.d (inj t0)) := by have := injs_get h0; simpa using this
      refine AL_guard_t rfl rfl rfl ?_
      refine AL_ev (Ev_move) rfl ?_
      refine AL_guard_t rfl rfl rfl ?_
      refine AL_dcall hT hcu hbl rfl cl60 (c_onceD 3 (by omega)) rfl rfl rfl fun C3 r3 hR3 hM3 hcu hT => ?_
      have hM := hM.trans hM3 (fun c hc _ => hc)
      obtain ⟨x3, rfl⟩ := hR3
      refine AL_ev (Ev_pick rfl) rfl ?_
      refine AL_nil ?_
      refine hK9 _ _ _ ?_
      refine AC_cond rfl (fun hc3 => ?_) (fun hc3 => ?_)
      · skip
        refine AC_region ?_
        refine AL_ev (Ev_move) rfl ?_
        refine AL_ev (Ev_move) rfl ?_
        first | refine AL_ev (Ev_ix_sl rfl rfl te24 ts35 (by omega) (by assumption)) rfl ?_ | refine AL_ev (Ev_ix_ref rfl rfl te24 ts35 (by omega) (by first | omega | (simp; omega))) rfl ?_
        first | refine AL_ev (Ev_load_ptr rfl rfl rfl hes rfl rfl ts35 ta35 (by first | rfl | assumption | simp) (by intro h; cases h)) rfl ?_ | refine AL_ev (Ev_load_ptr rfl rfl rfl rfl rfl rfl ts35 ta35 (by first | rfl | assumption | simp) (by intro h; cases h)) rfl ?_ | refine AL_ev (Ev_load_rp rfl rfl rfl ts35 ta35 (by first | rfl | assumption | simp) (by intro h; cases h)) rfl ?_
        first | refine AL_bD (Lay.st [.one, .one, .one, .one]) rfl te24 ts35 tz35 rfl rfl (by decide) (by decide) (by first | rfl | simp [lenDs, goodVs, goodV, V.known, Lay.len, Lay.lens]) rfl ?_ | refine AL_bV (Lay.st [.one, .one, .one, .one]) rfl te24 ts35 tz35 rfl rfl (by decide) (by decide) (by first | rfl | simp [lenDs, goodVs, goodV, V.known, Lay.len, Lay.lens]) _ rfl rfl ?_
        first | refine AL_append rfl rfl rfl te24 ts35 tz35 rfl tb35 (by decide) (by decide) rfl (by first | rfl | (simp; done) | (simp; omega)) (Src_sl rfl) (by simp only [lim]; first | omega | (simp; done) | (simp; omega)) _ rfl rfl ?_ | refine AL_append rfl rfl rfl te24 ts35 tz35 rfl tb35 (by decide) (by decide) rfl (by first | rfl | (simp; done) | (simp; omega)) (Src_ref rfl rfl rfl (by first | rfl | (simp; done) | (simp; omega))) (by simp only [lim]; first | omega | (simp; done) | (simp; omega)) _ rfl rfl ?_ | refine AL_append rfl rfl rfl te24 ts35 tz35 rfl tb35 (by decide) (by decide) rfl (by first | rfl | (simp; done) | (simp; omega)) (Src_nil rfl) (by simp only [lim]; first | omega | (simp; done) | (simp; omega)) _ rfl rfl ?_
        refine AL_ev (Ev_assign) rfl ?_
        refine AL_nil ?_
        refine hK8 _ _ _ ?_
        refine AC_seq fun K10 hK10 => ?_
        refine AC_region ?_
        refine AL_ev (Ev_move) rfl ?_
        refine AL_ev (Ev_assign) rfl ?_
        refine AL_nil ?_
        refine hK10 _ _ _ ?_
        refine AC_ret ?_
        exact retdl_ok (ys := injs (ts ++ [t0])) hM hcu hdm (.tmp rfl rfl .nil) rfl (by simp [injs_map]) (by simp) ⟨_, rfl, by simp; omega, by simp only [List.mem_append, List.mem_singleton]; rintro t (ht | rfl); exact hts t ht; exact hts _ (List.mem_of_getElem? h0)⟩
      · skip
        refine AC_skip ?_
        refine hK8 _ _ _ ?_
        refine AC_seq fun K11 hK11 => ?_
        refine AC_region ?_
        refine AL_ev (Ev_move) rfl ?_
        refine AL_ev (Ev_assign) rfl ?_
        refine AL_nil ?_
        refine hK11 _ _ _ ?_
        refine AC_ret ?_
        exact retdl_ok (ys := injs ts) hM hcu hdm (.tmp rfl rfl .nil) rfl rfl (by simp) ⟨_, rfl, by omega, hts⟩
    · skip
      refine AL_guard_f rfl rfl rfl rfl ?_
      refine AL_guard_f rfl rfl rfl rfl ?_
      refine AL_ev (Ev_pick rfl) rfl ?_
      refine AL_nil ?_
      refine hK9 _ _ _ ?_
      first | refine AC_cond_f rfl ?_ | refine AC_cond_f (congrArg bl hc3) ?_
      refine AC_skip ?_
      refine hK8 _ _ _ ?_
      refine AC_seq fun K12 hK12 => ?_
      refine AC_region ?_
      refine AL_ev (Ev_move) rfl ?_
      refine AL_ev (Ev_assign) rfl ?_
      refine AL_nil ?_
      refine hK12 _ _ _ ?_
      refine AC_ret ?_
      exact retdl_ok (ys := injs ts) hM hcu hdm (.tmp rfl rfl .nil) rfl rfl (by simp) ⟨_, rfl, by omega, hts⟩

end Go.Proofs.Ytjhdkjacfclipaa
