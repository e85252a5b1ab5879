/- The engine and the contracts of the functions that the claim reaches (texts packed, part 4). -/
import Derived.Test.YtjgliechbnommaaGreatDoorQc
set_option linter.unusedVariables false
set_option linter.unusedSimpArgs false
namespace Go.Proofs.YtjgliechbnommaaGreatDoor
open Go.Eng
theorem tz54 : tyZero Tryz.prog 54 = some (some (.agg #[.int .i64 0, .string ⟨#[]⟩, .int .i64 0, .slice none 0 0, .int .i64 0, .string ⟨#[]⟩, .int .i64 0, .slice none 0 0, .string ⟨#[]⟩])) := by kernel_rfl
theorem tz9 : tyZero Tryz.prog 9 = some (some (.string ⟨#[]⟩)) := by kernel_rfl
theorem cl34 : Callable Tryz.prog 34 := Zq Tryz.func34
theorem cl41 : Callable Tryz.prog 41 := Zq Tryz.func41
theorem cl43 : Callable Tryz.prog 43 := Zq Tryz.func43
theorem cl44 : Callable Tryz.prog 44 := Zq Tryz.func44
theorem cl50 : Callable Tryz.prog 50 := Zq Tryz.func50
theorem cl52 : Callable Tryz.prog 52 := Zq Tryz.func52
theorem cl55 : Callable Tryz.prog 55 := Zq Tryz.func55
theorem cl72 : Callable Tryz.prog 72 := Zq Tryz.func72
theorem fa27_0 : tyField Tryz.prog 27 0 = some (0, true) := by kernel_rfl
theorem fa54_0 : tyField Tryz.prog 54 0 = some (0, true) := by kernel_rfl
theorem ta24 : tyAgg Tryz.prog 24 = some false := by kernel_rfl
theorem ta54 : tyAgg Tryz.prog 54 = some true := by kernel_rfl
theorem tb9 : tyBytes Tryz.prog 9 = some 16 := by kernel_rfl
theorem te24 : tyElem Tryz.prog 24 = some 54 := by kernel_rfl
theorem te25 : tyElem Tryz.prog 25 = some 9 := by kernel_rfl
theorem ts24 : tySize Tryz.prog 24 = some 1 := by kernel_rfl
theorem ts54 : tySize Tryz.prog 54 = some 9 := by kernel_rfl
theorem zo54 : ZeroOf Tryz.prog 54 (Lay.st [(Lay.st [.one, .one, .one, .one]), (Lay.st [.one, .one, .one, .one]), .one]) (.d (.agg [(Lay.st [.one, .one, .one, .one]), (Lay.st [.one, .one, .one, .one]), .one] [.agg [.one, .one, .one, .one] [.c (.int .i64 0), .c (.string ⟨#[]⟩), .c (.int .i64 0), .c (.slice none 0 0)], .agg [.one, .one, .one, .one] [.c (.int .i64 0), .c (.string ⟨#[]⟩), .c (.int .i64 0), .c (.slice none 0 0)], .c (.string ⟨#[]⟩)])) := ⟨_, tz54, rfl, fun _ _ _ => VC_cells rfl⟩
set_option maxHeartbeats 1000000 in
set_option maxRecDepth 4000 in
theorem c_indexS (xs : List ByteArray) (s : ByteArray) : PCall Tryz.prog 43 [.sl .one (strs xs), .c (.string s)] (· = [.c (.int .i64 (idxS xs s 0))]) := by
 refine PCall_of (n := 19) Tryz.func43 rfl rfl (Nat.le_of_ble_eq_true rfl) fun C hdm hT0 => ?_
 have hT := hT0
 refine Zs fun _ hK1 => ?_
 refine Za ?_
 refine Zn hK1 ?_
 refine AC_seq fun _ hK2 => ?_
 refine Zs fun _ hK3 => ?_
 refine Zm ?_
 refine AL_lim (x := (Operand.tmp 6)) rfl fun hl1 => ?_
 try simp only [injs_length, ints_length, strs_length, injCs_length, u8s_length, List.length_map] at hl1
 refine Ze (Ev_len_strs te25 rfl) ?_
 refine Zm ?_
 refine Zn hK3 ?_
 refine AC_block ?_
 refine AC_loopS [0, 1, 7] (Nat) (fun j => [(8, i64 j)]) (fun j => []) (fun st => xs.length - st) (fun j => j ≤ xs.length ∧ idxS xs s 0 = idxS (xs.drop j) s j) (0) ?_ ?_ ?_
 ·exact enterS [] rfl rfl BxTo_nil Sl_
 ·exact ⟨Nat.zero_le _, by simp⟩
 rintro j ⟨hj, hI⟩
 show AC _ _ _ _ _ (FS [0, 1, 7] _ [(8, i64 j)]) []
 refine Zs fun _ hK4 => ?_
 refine Ze (Ev_lss rfl rfl) ?_
 refine Zn hK4 ?_
 refine AC_seq fun _ hK5 => ?_
 refine Zc (fun hc1 => ?_) fun hc1 => ?_
 ·have hlt : j < xs.length := by simpa using hc1
  obtain ⟨u, hu⟩ : ∃ x, xs[j]? = some x := ⟨_, List.getElem?_eq_getElem hlt⟩
  have hu2 := strs_get hu
  have hdr := drop_get hu
  refine Zk hK5 ?_
  refine AC_seq fun _ hK6 => ?_
  refine AC_block ?_
  refine Zs fun _ hK7 => ?_
  refine Zm ?_
  refine Za ?_
  refine Zn hK7 ?_
  refine Zs fun _ hK8 => ?_
  iterate 3 refine Zm ?_
  refine Yi te25 ts9 ?_
  refine Yp ts9 ta9 ?_
  refine Ze (Ev_seql rfl rfl) ?_
  refine Zn hK8 ?_
  refine Zc (fun hc2 => ?_) fun hc2 => ?_
  ·refine Zs fun _ hK9 => ?_
   refine Zm ?_
   refine Za ?_
   refine Zn hK9 ?_
   refine AC_ret ?_
   refine Zr hdm ?_
   try rw [hI]
   try rw [hdr]
   try simp_all [List.length_pos_iff, idxS, eq_comm]
  ·refine Zk hK6 ?_
   refine AC_region ?_
   refine Ze (Ev_add rfl rfl _ (wrap_id (by omega) (by omega))) ?_
   refine Zm ?_
   refine AL_nil ?_
   refine closeS (j + 1) [] rfl rfl (by show xs.length - (j + 1) < xs.length - j; omega) ⟨hlt, ?_⟩ BxTo_nil Sl_
   rw [hI]
   try rw [hdr]
   try simp_all [idxS, eq_comm]
 ·have hj2 : j = xs.length := by
   have : ¬ j < xs.length := by simpa using hc1
   omega
  subst hj2
  rw [List.drop_length] at hI
  refine Zx hK2 ?_
  refine Zs fun _ hK10 => ?_
  refine Za ?_
  refine Zn hK10 ?_
  refine AC_ret ?_
  refine Zr hdm ?_
  try rw [hI]
  try simp_all [List.length_pos_iff, idxS, eq_comm]
set_option maxHeartbeats 1000000 in
set_option maxRecDepth 4000 in
theorem c_containsS (xs : List ByteArray) (s : ByteArray) : PCall Tryz.prog 55 [.sl .one (strs xs), .c (.string s)] (· = [.c (.bool (hasS xs s))]) := by
 refine PCall_of (n := 9) Tryz.func55 rfl rfl (Nat.le_of_ble_eq_true rfl) fun C hdm hT0 => ?_
 have hT := hT0
 refine Zs fun _ hK1 => ?_
 refine Za ?_
 refine Zn hK1 ?_
 refine Zs fun _ hK2 => ?_
 iterate 2 refine Zm ?_
 refine AL_fcall0 hT rfl cl43 (c_indexS xs s) rfl rfl ?_
 refine Ze (Ev_geq rfl rfl) ?_
 refine Za ?_
 refine Zn hK2 ?_
 refine AC_ret ?_
 refine Zr hdm ?_
 rw [idxS_has]
set_option maxHeartbeats 1000000 in
set_option maxRecDepth 4000 in
theorem c_l23Has (xs : List ByteArray) (s : ByteArray) : PCall Tryz.prog 50 [.sl .one (strs xs), .c (.string s)] (· = [.c (.bool (hasS xs s))]) := by
 refine PCall_of (n := 18) Tryz.func50 rfl rfl (Nat.le_of_ble_eq_true rfl) fun C hdm hT0 => ?_
 have hT := hT0
 refine Zs fun _ hK1 => ?_
 refine Za ?_
 refine Zn hK1 ?_
 refine AC_seq fun _ hK2 => ?_
 refine Zs fun _ hK3 => ?_
 refine Za ?_
 refine Zn hK3 ?_
 refine AC_block ?_
 refine AC_loopS [0, 1] (Nat) (fun j => [(5, i64 j)]) (fun j => []) (fun st => xs.length - st) (fun j => j ≤ xs.length ∧ hasS xs s = hasS (xs.drop j) s) (0) ?_ ?_ ?_
 ·exact enterS [] rfl rfl BxTo_nil Sl_
 ·exact ⟨Nat.zero_le _, by simp⟩
 rintro j ⟨hj, hI⟩
 show AC _ _ _ _ _ (FS [0, 1] _ [(5, i64 j)]) []
 refine AC_seq fun _ hK4 => ?_
 refine Zs fun _ hK5 => ?_
 iterate 2 refine Zm ?_
 refine AL_lim (x := (Operand.tmp 7)) rfl fun hl1 => ?_
 try simp only [injs_length, ints_length, strs_length, injCs_length, u8s_length, List.length_map] at hl1
 refine Ze (Ev_len_strs te25 rfl) ?_
 refine Ze (Ev_lss rfl rfl) ?_
 refine Zn hK5 ?_
 refine Zc (fun hc1 => ?_) fun hc1 => ?_
 ·have hlt : j < xs.length := by simpa using hc1
  obtain ⟨u, hu⟩ : ∃ x, xs[j]? = some x := ⟨_, List.getElem?_eq_getElem hlt⟩
  have hu2 := strs_get hu
  have hdr := drop_get hu
  refine Zk hK4 ?_
  refine AC_seq fun _ hK6 => ?_
  refine AC_block ?_
  refine Zs fun _ hK7 => ?_
  iterate 2 refine Zm ?_
  refine Yi te25 ts9 ?_
  refine Yp ts9 ta9 ?_
  refine Zm ?_
  refine Ze (Ev_seql rfl rfl) ?_
  refine Zn hK7 ?_
  refine Zc (fun hc2 => ?_) fun hc2 => ?_
  ·refine Zs fun _ hK8 => ?_
   refine Za ?_
   refine Zn hK8 ?_
   refine AC_ret ?_
   refine Zr hdm ?_
   try rw [hI]
   try rw [hdr]
   try simp_all [List.length_pos_iff, hasS]
  ·refine Zk hK6 ?_
   refine AC_region ?_
   refine Zm ?_
   refine Ze (Ev_add rfl rfl _ (wrap_id (by omega) (by omega))) ?_
   refine Za ?_
   refine AL_nil ?_
   refine closeS (j + 1) [] rfl rfl (by show xs.length - (j + 1) < xs.length - j; omega) ⟨hlt, ?_⟩ BxTo_nil Sl_
   rw [hI]
   try rw [hdr]
   try simp_all [hasS]
 ·have hj2 : j = xs.length := by
   have : ¬ j < xs.length := by simpa using hc1
   omega
  subst hj2
  rw [List.drop_length] at hI
  refine Zx hK2 ?_
  refine Zs fun _ hK9 => ?_
  refine Za ?_
  refine Zn hK9 ?_
  refine AC_ret ?_
  refine Zr hdm ?_
  try rw [hI]
  try simp_all [List.length_pos_iff, hasS]
set_option maxHeartbeats 1000000 in
set_option maxRecDepth 4000 in
theorem c_l23Add (xs : List ByteArray) (s : ByteArray) (hl : xs.length + 1 ≤ 1099511627776) : PCall Tryz.prog 41 [.sl .one (strs xs), .c (.string s)] (· = [.sl .one (strs (onceL xs s))]) := by
 refine PCall_of (n := 15) Tryz.func41 rfl rfl (Nat.le_of_ble_eq_true rfl) fun C hdm hT0 => ?_
 have hT := hT0
 refine Zs fun _ hK1 => ?_
 refine Za ?_
 refine Zn hK1 ?_
 refine AC_seq fun _ hK2 => ?_
 refine Zs fun _ hK3 => ?_
 iterate 2 refine Zm ?_
 refine AL_fcall0 hT rfl cl50 (c_l23Has xs s) rfl rfl ?_
 refine Zn hK3 ?_
 refine Zc (fun hc1 => ?_) fun hc1 => ?_
 ·refine Zs fun _ hK4 => ?_
  refine Zm ?_
  refine Za ?_
  refine Zn hK4 ?_
  refine AC_ret ?_
  exact Zr hdm (by rw [onceL, if_pos hc1])
 ·refine Zk hK2 ?_
  refine Zs fun _ hK5 => ?_
  refine AL_bV .one rfl te25 ts9 tz9 rfl rfl (by decide) (by decide) (by rfl) _ rfl rfl ?_
  refine Zm ?_
  refine AL_append rfl rfl rfl te25 ts9 tz9 rfl tb9 (by decide) (by decide) rfl (by rfl) (Src_sl rfl) (by simp only [lim]; (simp; omega)) _ rfl rfl ?_
  refine Zm ?_
  refine AL_bD .one rfl te25 ts9 tz9 rfl rfl (by decide) (by decide) (by rfl) rfl ?_
  refine AL_append rfl rfl rfl te25 ts9 tz9 rfl tb9 (by decide) (by decide) rfl (by (simp; done)) (Src_sl rfl) (by simp only [lim]; (simp; omega)) _ rfl rfl ?_
  refine Za ?_
  refine Zn hK5 ?_
  refine AC_ret ?_
  refine ret_ok hdm (.tmp rfl rfl .nil) (.cons (.ref trivial rfl rfl (by simp) (ReadsL_eq (xs := strs xs ++ [.c (.string s)]) (by simp))) .nil) (by simp [onceL, hc1, strs])
set_option maxHeartbeats 1000000 in
set_option maxRecDepth 4000 in
theorem c_once (xs : List ByteArray) (s : ByteArray) (hl : xs.length + 1 ≤ 1099511627776) : BCall Tryz.prog 52 [] 9 .one (strs xs) [.c (.string s)] (strs (onceL xs s)) := by
 refine BCall_of (n := 13) Tryz.func52 rfl rfl (Nat.le_of_ble_eq_true rfl) fun C o hdm hT => ?_
 refine Zs fun _ hK1 => ?_
 refine Za ?_
 refine Zn hK1 ?_
 refine AC_seq fun _ hK2 => ?_
 refine Zs fun _ hK3 => ?_
 iterate 2 refine Zm ?_
 refine AL_qcall hT rfl cl55 (c_containsS xs s) (.cons (.rd (.ref trivial rfl rfl (by simp) (ReadsL_d _))) (.cons (.rd .d) .nil)) rfl ?_
 refine Zn hK3 ?_
 refine Zc (fun hc1 => ?_) fun hc1 => ?_
 ·refine Zs fun _ hK4 => ?_
  refine Zm ?_
  refine Za ?_
  refine Zn hK4 ?_
  refine AC_ret ?_
  refine retb_ok hdm (.tmp rfl rfl .nil) rfl (by rw [onceL, if_pos hc1]) (by rw [onceL, if_pos hc1])
 ·refine Zk hK2 ?_
  refine Zs fun _ hK5 => ?_
  iterate 2 refine Zm ?_
  refine AL_bD .one rfl te25 ts9 tz9 rfl rfl (by decide) (by decide) (by rfl) rfl ?_
  refine AL_append rfl rfl rfl te25 ts9 tz9 rfl tb9 (by decide) (by decide) rfl (by (simp; done)) (Src_sl rfl) (by simp only [lim]; (simp; omega)) _ rfl rfl ?_
  refine Za ?_
  refine Zn hK5 ?_
  refine AC_ret ?_
  refine retb_ok hdm (.tmp rfl rfl .nil) rfl (by simp [onceL, hc1, strs]) (by simp [onceL, hc1])
set_option maxHeartbeats 1000000 in
set_option maxRecDepth 4000 in
theorem c_specPredOf (t : T) (hb : bulk t ≤ 1099511627776) : PCall Tryz.prog 34 [inj t] (· = [.c (.string (predS t))]) := by
 obtain ⟨k, s, m, ks⟩ := t
 obtain ⟨hs, hkl, hku⟩ := bulk_mk hb
 have hsz : s.size + (⟨#[47]⟩ : ByteArray).size ≤ 4611686018427387904 := by
  have : (⟨#[47]⟩ : ByteArray).size = 1 := rfl
  omega
 have hdz := dec_size (ks.length : Int) (by omega) (by omega)
 have hsz2 : (s ++ (⟨#[47]⟩ : ByteArray)).size + (dec ks.length).size ≤ 4611686018427387904 := by
  have : (⟨#[47]⟩ : ByteArray).size = 1 := rfl
  rw [ByteArray.size_append]
  omega
 refine PCall_of (n := 19) Tryz.func34 rfl rfl (Nat.le_of_ble_eq_true rfl) fun C hdm hT0 => ?_
 have hT := hT0
 refine Zs fun _ hK1 => ?_
 refine AL_box (Lay.st [.one, .one, .one, .one]) (nf rfl) rfl (by rfl) _ rfl rfl ?_
 refine Za ?_
 refine Zn hK1 ?_
 refine AC_seq fun _ hK2 => ?_
 refine Zs fun _ hK3 => ?_
 refine Ya fa41_0 ?_
 refine Yl ts3 ta3 ?_
 refine Ze (Ev_neq rfl rfl) ?_
 refine Zm ?_
 refine Zb 6 (fun hg1 => ?_) fun hg1 => ?_
 ·refine Zt ?_
  refine Ya fa41_0 ?_
  refine Zt ?_
  refine Yl ts3 ta3 ?_
  refine Zt ?_
  refine Ze (Ev_neq rfl rfl) ?_
  refine Zp ?_
  refine Zn hK3 ?_
  refine Zc (fun hc2 => ?_) fun hc2 => ?_
  ·refine Zs fun _ hK4 => ?_
   refine Za ?_
   refine Zn hK4 ?_
   refine AC_ret ?_
   refine Zr hdm ?_
   try rw [predS]
   try simp_all [List.length_pos_iff, T.kind, T.name, T.kids, slash]
  ·refine Zk hK2 ?_
   refine AC_seq fun _ hK5 => ?_
   refine AC_draw hT follows [0, 1, 2, 3, 4, 5, 6, 7, 8] (by kernel_rfl) ?_
   refine DT_ev rfl (EA_fa_ptr rfl fa41_1 rfl rfl) rfl ?_
   refine DT_ev rfl (EA_load_ptr rfl rfl rfl rfl rfl rfl ts9 ta9 rfl (fun _ => rfl)) rfl ?_
   refine DT_ev rfl (EA_sadd rfl rfl (by assumption)) rfl ?_
   refine DT_ev rfl (EA_fa_ptr rfl fa41_3 rfl rfl) rfl ?_
   refine DT_ev rfl (EA_load_ptr rfl rfl rfl rfl rfl rfl ts39 ta39 rfl (fun _ => rfl)) rfl ?_
   refine DT_ev rfl (EA_len_injs te39 rfl) rfl ?_
   refine DT_fcall0 rfl rfl cl72 (c_specDecimal ks.length (by omega) (by omega)) rfl rfl ?_
   refine DT_ev rfl (EA_sadd rfl rfl (by assumption)) rfl ?_
   refine DT_ev rfl (EA_assign) rfl ?_
   refine Zd hK5 ?_
   refine AC_ret ?_
   refine Zr hdm ?_
   try rw [predS]
   try simp_all [List.length_pos_iff, T.kind, T.name, T.kids, slash]
 ·iterate 3 refine Zg ?_
  refine Zp ?_
  refine Zn hK3 ?_
  refine AC_cond_f rfl ?_
  refine Zk hK2 ?_
  refine AC_seq fun _ hK6 => ?_
  refine AC_draw hT follows [0, 1, 2, 3, 4, 5, 6, 7, 8] (by kernel_rfl) ?_
  refine DT_ev rfl (EA_fa_ptr rfl fa41_1 rfl rfl) rfl ?_
  refine DT_ev rfl (EA_load_ptr rfl rfl rfl rfl rfl rfl ts9 ta9 rfl (fun _ => rfl)) rfl ?_
  refine DT_ev rfl (EA_sadd rfl rfl (by assumption)) rfl ?_
  refine DT_ev rfl (EA_fa_ptr rfl fa41_3 rfl rfl) rfl ?_
  refine DT_ev rfl (EA_load_ptr rfl rfl rfl rfl rfl rfl ts39 ta39 rfl (fun _ => rfl)) rfl ?_
  refine DT_ev rfl (EA_len_injs te39 rfl) rfl ?_
  refine DT_fcall0 rfl rfl cl72 (c_specDecimal ks.length (by omega) (by omega)) rfl rfl ?_
  refine DT_ev rfl (EA_sadd rfl rfl (by assumption)) rfl ?_
  refine DT_ev rfl (EA_assign) rfl ?_
  refine Zd hK6 ?_
  refine AC_ret ?_
  refine Zr hdm ?_
  try rw [predS]
  try simp_all [List.length_pos_iff, T.kind, T.name, T.kids, slash]
set_option maxHeartbeats 1000000 in
set_option maxRecDepth 4000 in
theorem c_predsOf (d : Dbt) (hb : bulkD d ≤ 1048576) : OCall Tryz.prog 16 [injD d] (.sl .one (strs (predsF d.cs []))) := by
 obtain ⟨cs, op⟩ := d
 obtain ⟨hnc, hbc, hno, hbo⟩ := bulkD_bd hb
 refine OCall_of (n := 20) Tryz.func16 rfl rfl (Nat.le_of_ble_eq_true rfl) fun C0 hdm hT0 => ?_
 have hX0 := CExt.refl C0
 have hT := hT0
 refine Zs fun _ hK1 => ?_
 refine AL_box (Lay.st [.one, .one]) (nf rfl) rfl (by rfl) _ rfl rfl ?_
 refine Za ?_
 refine Zn hK1 ?_
 refine Zs fun _ hK2 => ?_
 refine Za ?_
 refine Zn hK2 ?_
 refine AC_seq fun _ hK3 => ?_
 refine Zs fun _ hK4 => ?_
 refine Ya fa27_0 ?_
 refine Yl ts24 ta24 ?_
 refine AL_lim (x := (Operand.tmp 7)) rfl fun hl1 => ?_
 try simp only [injs_length, ints_length, strs_length, injCs_length, u8s_length, List.length_map] at hl1
 refine Ze (Ev_len_injCs te24 rfl) ?_
 refine Zm ?_
 refine Zn hK4 ?_
 refine AC_block ?_
 refine AC_loopS [7, 8] (Nat × List ByteArray) (fun ⟨j, out⟩ => [(9, i64 j), (3, .ref .one 0 0 (strs out).length)]) (fun ⟨j, out⟩ => [some ⟨9, .one, (strs out).map V.d⟩]) (fun st => cs.length - st.1) (fun ⟨j, out⟩ => j ≤ cs.length ∧ (predsF cs [] = predsF (cs.drop j) out ∧ out.length ≤ j)) ((0, [])) ?_ ?_ ?_
 ·refine Wk.then (Wk_nil_slot 3 9 .one rfl 1 rfl ?_)
  exact enterS [some 1] rfl rfl (BxTo_some rfl rfl rfl rfl (by exact .nil) BxTo_nil) Sl_
 ·exact ⟨Nat.zero_le _, by simp, by simp⟩
 rintro ⟨j, out⟩ ⟨hj, ⟨hI, ho⟩⟩
 show AC _ _ _ _ _ (FS [7, 8] _ [(9, i64 j), (3, .ref .one 0 0 (strs out).length)]) [some ⟨9, .one, (strs out).map V.d⟩]
 refine Zs fun _ hK5 => ?_
 refine Ze (Ev_lss rfl rfl) ?_
 refine Zn hK5 ?_
 refine AC_seq fun _ hK6 => ?_
 refine Zc (fun hc1 => ?_) fun hc1 => ?_
 ·have hlt : j < cs.length := by simpa using hc1
  obtain ⟨u, hu⟩ : ∃ x, cs[j]? = some x := ⟨_, List.getElem?_eq_getElem hlt⟩
  have hu2 := injCs_get hu
  have hdr := drop_get hu
  obtain ⟨hbu, _, _⟩ := bulkCs_bd (List.mem_of_getElem? hu) hbc
  rw [hdr, predsF] at hI
  have hol := onceL_len out (predS u.h)
  refine Zk hK6 ?_
  refine AC_seq fun _ hK7 => ?_
  refine AC_block ?_
  refine Zs fun _ hK8 => ?_
  refine Yi te24 ts54 ?_
  refine YP ts54 ta54 ?_
  refine AL_alloc zo54 _ rfl rfl ?_
  refine Ys ts54 ?_
  refine Zn hK8 ?_
  refine AC_region ?_
  refine Zm ?_
  refine Ya fa54_0 ?_
  refine YL ts41 ta41 ?_
  refine AL_fcall0 hT rfl cl44 (c_predOf u.h (by omega)) rfl rfl ?_
  refine AL_bcall hT _ _ [] rfl cl52 rfl rfl rfl rfl (c_once out (predS u.h) (by omega)) rfl rfl (by rfl) _ rfl rfl ?_
  refine Za ?_
  refine Zn hK7 ?_
  refine AC_region ?_
  refine Ze (Ev_add rfl rfl _ (wrap_id (by omega) (by omega))) ?_
  refine Zm ?_
  refine AL_nil ?_
  refine closeS (j + 1, onceL out (predS u.h)) [some 2] rfl rfl (by show cs.length - (j + 1) < cs.length - j; omega) ⟨hlt, ?_⟩ (BxTo_some rfl rfl rfl rfl (by exact VwL_dd (by rfl)) BxTo_nil) Sl_
  exact ⟨hI, by omega⟩
 ·have hj2 : j = cs.length := by
   have : ¬ j < cs.length := by simpa using hc1
   omega
  subst hj2
  rw [List.drop_length] at hI
  refine Zx hK3 ?_
  refine Zs fun _ hK9 => ?_
  refine Zm ?_
  refine Za ?_
  refine Zn hK9 ?_
  refine AC_ret ?_
  rw [predsF] at hI
  show Fin _ _ (retOQ _ _ _ (.sl .one (strs (predsF cs []))) _) _ _
  rw [hI]
  refine reto_ok hX0 hdm (.tmp rfl rfl .nil) (.ref rfl rfl (by simp) (OwVs_strs (by simp)) (by simp)) rfl rfl
set_option maxHeartbeats 1000000 in
set_option maxRecDepth 4000 in
theorem c_specPredsOf (d : Dbt) (hb : bulkD d ≤ 1048576) : PCall Tryz.prog 9 [injD d] (· = [.sl .one (strs (predsF d.cs []))]) := by
 obtain ⟨cs, op⟩ := d
 obtain ⟨hnc, hbc, hno, hbo⟩ := bulkD_bd hb
 refine PCall_of (n := 23) Tryz.func9 rfl rfl (Nat.le_of_ble_eq_true rfl) fun C hdm hT0 => ?_
 have hT := hT0
 refine Zs fun _ hK1 => ?_
 refine AL_box (Lay.st [.one, .one]) (nf rfl) rfl (by rfl) _ rfl rfl ?_
 refine Za ?_
 refine Zn hK1 ?_
 refine Zs fun _ hK2 => ?_
 refine AL_bD .one rfl te25 ts9 tz9 rfl rfl (by decide) (by decide) (by rfl) rfl ?_
 refine Za ?_
 refine Zn hK2 ?_
 refine AC_seq fun _ hK3 => ?_
 refine Zs fun _ hK4 => ?_
 refine Za ?_
 refine Zn hK4 ?_
 refine AC_block ?_
 refine AC_loopS [] (Nat × List ByteArray) (fun ⟨j, out⟩ => [(4, i64 j), (3, .d (.sl .one (strs out))), (1, .d (.rp (Lay.st [.one, .one]) (injD ⟨cs, op⟩) []))]) (fun ⟨j, out⟩ => []) (fun st => cs.length - st.1) (fun ⟨j, out⟩ => j ≤ cs.length ∧ (predsF cs [] = predsF (cs.drop j) out ∧ out.length ≤ j)) ((0, [])) ?_ ?_ ?_
 ·exact enterS [] rfl rfl BxTo_nil Sl_
 ·exact ⟨Nat.zero_le _, by simp, by simp⟩
 rintro ⟨j, out⟩ ⟨hj, ⟨hI, ho⟩⟩
 show AC _ _ _ _ _ (FS [] _ [(4, i64 j), (3, .d (.sl .one (strs out))), (1, .d (.rp (Lay.st [.one, .one]) (injD ⟨cs, op⟩) []))]) []
 refine AC_seq fun _ hK5 => ?_
 refine Zs fun _ hK6 => ?_
 refine Zm ?_
 refine Yr fa27_0 ?_
 refine Yp ts24 ta24 ?_
 refine AL_lim (x := (Operand.tmp 8)) rfl fun hl1 => ?_
 try simp only [injs_length, ints_length, strs_length, injCs_length, u8s_length, List.length_map] at hl1
 refine Ze (Ev_len_injCs te24 rfl) ?_
 refine Ze (Ev_lss rfl rfl) ?_
 refine Zn hK6 ?_
 refine Zc (fun hc1 => ?_) fun hc1 => ?_
 ·have hlt : j < cs.length := by simpa using hc1
  obtain ⟨u, hu⟩ : ∃ x, cs[j]? = some x := ⟨_, List.getElem?_eq_getElem hlt⟩
  have hu2 := injCs_get hu
  have hdr := drop_get hu
  obtain ⟨hbu, _, _⟩ := bulkCs_bd (List.mem_of_getElem? hu) hbc
  rw [hdr, predsF] at hI
  have hol := onceL_len out (predS u.h)
  refine Zk hK5 ?_
  refine AC_seq fun _ hK7 => ?_
  refine AC_block ?_
  refine AC_region ?_
  refine Zm ?_
  refine Yr fa27_0 ?_
  refine Yp ts24 ta24 ?_
  refine Zm ?_
  refine Yi te24 ts54 ?_
  refine Yr fa54_0 ?_
  refine YP ts41 ta41 ?_
  refine AL_fcall0 hT rfl cl34 (c_specPredOf u.h (by omega)) rfl rfl ?_
  refine AL_fcall0 hT rfl cl41 (c_l23Add out (predS u.h) (by omega)) rfl rfl ?_
  refine Za ?_
  refine Zn hK7 ?_
  refine AC_region ?_
  refine Zm ?_
  refine Ze (Ev_add rfl rfl _ (wrap_id (by omega) (by omega))) ?_
  refine Za ?_
  refine AL_nil ?_
  refine closeS (j + 1, onceL out (predS u.h)) [] rfl rfl (by show cs.length - (j + 1) < cs.length - j; omega) ⟨hlt, ?_⟩ BxTo_nil Sl_
  exact ⟨hI, by omega⟩
 ·have hj2 : j = cs.length := by
   have : ¬ j < cs.length := by simpa using hc1
   omega
  subst hj2
  rw [List.drop_length] at hI
  refine Zx hK3 ?_
  refine Zs fun _ hK8 => ?_
  refine Zm ?_
  refine Za ?_
  refine Zn hK8 ?_
  refine AC_ret ?_
  refine Zr hdm ?_
  rw [predsF] at hI
  rw [hI]
end Go.Proofs.YtjgliechbnommaaGreatDoor
set_option linter.unusedVariables false
set_option linter.unusedSimpArgs false
namespace Go.Proofs.YtjgliechbnommaaGreatDoor
open Go.Eng
theorem tz25 : tyZero Tryz.prog 25 = some (some (.slice none 0 0)) := by kernel_rfl
theorem cl42 : Callable Tryz.prog 42 := Zq Tryz.func42
theorem cl45 : Callable Tryz.prog 45 := Zq Tryz.func45
theorem cl63 : Callable Tryz.prog 63 := Zq Tryz.func63
theorem cl64 : Callable Tryz.prog 64 := Zq Tryz.func64
theorem cl65 : Callable Tryz.prog 65 := Zq Tryz.func65
theorem cl87 : Callable Tryz.prog 87 := Zq Tryz.func87
theorem cl98 : Callable Tryz.prog 98 := Zq Tryz.func98
theorem ta25 : tyAgg Tryz.prog 25 = some false := by kernel_rfl
theorem ts25 : tySize Tryz.prog 25 = some 1 := by kernel_rfl
theorem zo25 : ZeroOf Tryz.prog 25 .one (.d (.c (.slice none 0 0))) := ⟨_, tz25, rfl, fun _ _ _ => VC_cells rfl⟩
set_option maxHeartbeats 1000000 in
set_option maxRecDepth 4000 in
theorem c_control (s : ByteArray) : PCall Tryz.prog 87 [.c (.string s)] (· = [.c (.bool (ctlB s))]) := by
 refine PCall_of (n := 8) Tryz.func87 rfl rfl (Nat.le_of_ble_eq_true rfl) fun C hdm hT0 => ?_
 have hT := hT0
 refine Zs fun _ hK1 => ?_
 refine Za ?_
 refine Zn hK1 ?_
 refine Zs fun _ hK2 => ?_
 refine AL_bD .one rfl te25 ts9 tz9 rfl rfl (by decide) (by decide) (by rfl) rfl ?_
 refine Za ?_
 refine Zn hK2 ?_
 refine Zs fun _ hK3 => ?_
 iterate 2 refine Zm ?_
 refine AL_fcall0 hT rfl cl55 (c_containsS ctlL s) rfl rfl ?_
 refine Za ?_
 refine Zn hK3 ?_
 refine AC_ret ?_
 exact Zr hdm rfl
set_option maxHeartbeats 1000000 in
set_option maxRecDepth 4000 in
theorem c_specControl (s : ByteArray) : PCall Tryz.prog 98 [.c (.string s)] (· = [.c (.bool (ctlB s))]) := by
 refine PCall_of (n := 32) Tryz.func98 rfl rfl (Nat.le_of_ble_eq_true rfl) fun C hdm hT0 => ?_
 have hT := hT0
 refine Zs fun _ hK1 => ?_
 refine Za ?_
 refine Zn hK1 ?_
 refine AC_seq fun _ hK2 => ?_
 refine Zs fun _ hK3 => ?_
 refine Zm ?_
 refine Zn hK3 ?_
 refine AC_block ?_
 refine AC_seq fun _ hK4 => ?_
 refine Zs fun _ hK5 => ?_
 refine Ze (Ev_seql rfl rfl) ?_
 refine Za ?_
 refine Zn hK5 ?_
 refine Zc (fun hc1 => ?_) fun hc1 => ?_
 ·refine Zk hK4 ?_
  refine AC_cond_t (congrArg bl hc1) ?_
  refine Zs fun _ hK6 => ?_
  refine Za ?_
  refine Zn hK6 ?_
  refine AC_ret ?_
  refine Zr hdm ?_
  simp only [decide_eq_true_eq, decide_eq_false_iff_not] at *
  first
   | (subst_vars; rfl)
   | (have hcf : ctlB s = false := by
       simp only [ctlB, ctlL, hasS, Bool.or_false, Bool.or_eq_false_iff, decide_eq_false_iff_not]
       and_intros <;> (intro h; subst h; simp_all)
      rw [hcf])
 ·refine Zs fun _ hK7 => ?_
  refine Ze (Ev_seql rfl rfl) ?_
  refine Za ?_
  refine Zn hK7 ?_
  refine Zc (fun hc2 => ?_) fun hc2 => ?_
  ·refine Zk hK4 ?_
   refine AC_cond_t (congrArg bl hc2) ?_
   refine Zs fun _ hK8 => ?_
   refine Za ?_
   refine Zn hK8 ?_
   refine AC_ret ?_
   refine Zr hdm ?_
   simp only [decide_eq_true_eq, decide_eq_false_iff_not] at *
   first
    | (subst_vars; rfl)
    | (have hcf : ctlB s = false := by
        simp only [ctlB, ctlL, hasS, Bool.or_false, Bool.or_eq_false_iff, decide_eq_false_iff_not]
        and_intros <;> (intro h; subst h; simp_all)
       rw [hcf])
  ·refine Zs fun _ hK9 => ?_
   refine Ze (Ev_seql rfl rfl) ?_
   refine Za ?_
   refine Zn hK9 ?_
   refine Zc (fun hc3 => ?_) fun hc3 => ?_
   ·refine Zk hK4 ?_
    refine AC_cond_t (congrArg bl hc3) ?_
    refine Zs fun _ hK10 => ?_
    refine Za ?_
    refine Zn hK10 ?_
    refine AC_ret ?_
    refine Zr hdm ?_
    simp only [decide_eq_true_eq, decide_eq_false_iff_not] at *
    first
     | (subst_vars; rfl)
     | (have hcf : ctlB s = false := by
         simp only [ctlB, ctlL, hasS, Bool.or_false, Bool.or_eq_false_iff, decide_eq_false_iff_not]
         and_intros <;> (intro h; subst h; simp_all)
        rw [hcf])
   ·refine Zs fun _ hK11 => ?_
    refine Ze (Ev_seql rfl rfl) ?_
    refine Za ?_
    refine Zn hK11 ?_
    refine Zc (fun hc4 => ?_) fun hc4 => ?_
    ·refine Zk hK4 ?_
     refine AC_cond_t (congrArg bl hc4) ?_
     refine Zs fun _ hK12 => ?_
     refine Za ?_
     refine Zn hK12 ?_
     refine AC_ret ?_
     refine Zr hdm ?_
     simp only [decide_eq_true_eq, decide_eq_false_iff_not] at *
     first
      | (subst_vars; rfl)
      | (have hcf : ctlB s = false := by
          simp only [ctlB, ctlL, hasS, Bool.or_false, Bool.or_eq_false_iff, decide_eq_false_iff_not]
          and_intros <;> (intro h; subst h; simp_all)
         rw [hcf])
    ·refine Zs fun _ hK13 => ?_
     refine Ze (Ev_seql rfl rfl) ?_
     refine Za ?_
     refine Zn hK13 ?_
     refine Zc (fun hc5 => ?_) fun hc5 => ?_
     ·refine Zk hK4 ?_
      refine AC_cond_t (congrArg bl hc5) ?_
      refine Zs fun _ hK14 => ?_
      refine Za ?_
      refine Zn hK14 ?_
      refine AC_ret ?_
      refine Zr hdm ?_
      simp only [decide_eq_true_eq, decide_eq_false_iff_not] at *
      first
       | (subst_vars; rfl)
       | (have hcf : ctlB s = false := by
           simp only [ctlB, ctlL, hasS, Bool.or_false, Bool.or_eq_false_iff, decide_eq_false_iff_not]
           and_intros <;> (intro h; subst h; simp_all)
          rw [hcf])
     ·refine Zs fun _ hK15 => ?_
      refine Ze (Ev_seql rfl rfl) ?_
      refine Za ?_
      refine Zn hK15 ?_
      refine Zc (fun hc6 => ?_) fun hc6 => ?_
      ·refine Zk hK4 ?_
       refine AC_cond_t (congrArg bl hc6) ?_
       refine Zs fun _ hK16 => ?_
       refine Za ?_
       refine Zn hK16 ?_
       refine AC_ret ?_
       refine Zr hdm ?_
       simp only [decide_eq_true_eq, decide_eq_false_iff_not] at *
       first
        | (subst_vars; rfl)
        | (have hcf : ctlB s = false := by
            simp only [ctlB, ctlL, hasS, Bool.or_false, Bool.or_eq_false_iff, decide_eq_false_iff_not]
            and_intros <;> (intro h; subst h; simp_all)
           rw [hcf])
      ·refine Zs fun _ hK17 => ?_
       refine Ze (Ev_seql rfl rfl) ?_
       refine Za ?_
       refine Zn hK17 ?_
       refine Zc (fun hc7 => ?_) fun hc7 => ?_
       ·refine Zk hK4 ?_
        refine AC_cond_t (congrArg bl hc7) ?_
        refine Zs fun _ hK18 => ?_
        refine Za ?_
        refine Zn hK18 ?_
        refine AC_ret ?_
        refine Zr hdm ?_
        simp only [decide_eq_true_eq, decide_eq_false_iff_not] at *
        first
         | (subst_vars; rfl)
         | (have hcf : ctlB s = false := by
             simp only [ctlB, ctlL, hasS, Bool.or_false, Bool.or_eq_false_iff, decide_eq_false_iff_not]
             and_intros <;> (intro h; subst h; simp_all)
            rw [hcf])
       ·refine Zs fun _ hK19 => ?_
        refine Ze (Ev_seql rfl rfl) ?_
        refine Za ?_
        refine Zn hK19 ?_
        refine Zc (fun hc8 => ?_) fun hc8 => ?_
        ·refine Zk hK4 ?_
         refine AC_cond_t (congrArg bl hc8) ?_
         refine Zs fun _ hK20 => ?_
         refine Za ?_
         refine Zn hK20 ?_
         refine AC_ret ?_
         refine Zr hdm ?_
         simp only [decide_eq_true_eq, decide_eq_false_iff_not] at *
         first
          | (subst_vars; rfl)
          | (have hcf : ctlB s = false := by
              simp only [ctlB, ctlL, hasS, Bool.or_false, Bool.or_eq_false_iff, decide_eq_false_iff_not]
              and_intros <;> (intro h; subst h; simp_all)
             rw [hcf])
        ·refine Zs fun _ hK21 => ?_
         refine Ze (Ev_seql rfl rfl) ?_
         refine Za ?_
         refine Zn hK21 ?_
         refine Zc (fun hc9 => ?_) fun hc9 => ?_
         ·refine Zk hK4 ?_
          refine AC_cond_t (congrArg bl hc9) ?_
          refine Zs fun _ hK22 => ?_
          refine Za ?_
          refine Zn hK22 ?_
          refine AC_ret ?_
          refine Zr hdm ?_
          simp only [decide_eq_true_eq, decide_eq_false_iff_not] at *
          first
           | (subst_vars; rfl)
           | (have hcf : ctlB s = false := by
               simp only [ctlB, ctlL, hasS, Bool.or_false, Bool.or_eq_false_iff, decide_eq_false_iff_not]
               and_intros <;> (intro h; subst h; simp_all)
              rw [hcf])
         ·refine Zs fun _ hK23 => ?_
          refine Ze (Ev_seql rfl rfl) ?_
          refine Za ?_
          refine Zn hK23 ?_
          refine Zc (fun hc10 => ?_) fun hc10 => ?_
          ·refine Zk hK4 ?_
           refine AC_cond_t (congrArg bl hc10) ?_
           refine Zs fun _ hK24 => ?_
           refine Za ?_
           refine Zn hK24 ?_
           refine AC_ret ?_
           refine Zr hdm ?_
           simp only [decide_eq_true_eq, decide_eq_false_iff_not] at *
           first
            | (subst_vars; rfl)
            | (have hcf : ctlB s = false := by
                simp only [ctlB, ctlL, hasS, Bool.or_false, Bool.or_eq_false_iff, decide_eq_false_iff_not]
                and_intros <;> (intro h; subst h; simp_all)
               rw [hcf])
          ·refine Zs fun _ hK25 => ?_
           refine Ze (Ev_seql rfl rfl) ?_
           refine Za ?_
           refine Zn hK25 ?_
           refine Zc (fun hc11 => ?_) fun hc11 => ?_
           ·refine Zk hK4 ?_
            refine AC_cond_t (congrArg bl hc11) ?_
            refine Zs fun _ hK26 => ?_
            refine Za ?_
            refine Zn hK26 ?_
            refine AC_ret ?_
            refine Zr hdm ?_
            simp only [decide_eq_true_eq, decide_eq_false_iff_not] at *
            first
             | (subst_vars; rfl)
             | (have hcf : ctlB s = false := by
                 simp only [ctlB, ctlL, hasS, Bool.or_false, Bool.or_eq_false_iff, decide_eq_false_iff_not]
                 and_intros <;> (intro h; subst h; simp_all)
                rw [hcf])
           ·refine AC_region ?_
            refine Ze (Ev_seql rfl rfl) ?_
            refine Za ?_
            refine Zn hK4 ?_
            refine Zc (fun hc12 => ?_) fun hc12 => ?_
            ·refine Zs fun _ hK27 => ?_
             refine Za ?_
             refine Zn hK27 ?_
             refine AC_ret ?_
             refine Zr hdm ?_
             simp only [decide_eq_true_eq, decide_eq_false_iff_not] at *
             first
              | (subst_vars; rfl)
              | (have hcf : ctlB s = false := by
                  simp only [ctlB, ctlL, hasS, Bool.or_false, Bool.or_eq_false_iff, decide_eq_false_iff_not]
                  and_intros <;> (intro h; subst h; simp_all)
                 rw [hcf])
            ·refine AC_seq fun _ hK28 => ?_
             refine Zs fun _ hK29 => ?_
             refine Ze (Ev_seql rfl rfl) ?_
             refine Za ?_
             refine Zn hK29 ?_
             refine Zc (fun hc13 => ?_) fun hc13 => ?_
             ·refine Zk hK28 ?_
              refine AC_cond_t (congrArg bl hc13) ?_
              refine Zs fun _ hK30 => ?_
              refine Za ?_
              refine Zn hK30 ?_
              refine AC_ret ?_
              refine Zr hdm ?_
              simp only [decide_eq_true_eq, decide_eq_false_iff_not] at *
              first
               | (subst_vars; rfl)
               | (have hcf : ctlB s = false := by
                   simp only [ctlB, ctlL, hasS, Bool.or_false, Bool.or_eq_false_iff, decide_eq_false_iff_not]
                   and_intros <;> (intro h; subst h; simp_all)
                  rw [hcf])
             ·refine Zs fun _ hK31 => ?_
              refine Ze (Ev_seql rfl rfl) ?_
              refine Za ?_
              refine Zn hK31 ?_
              refine Zc (fun hc14 => ?_) fun hc14 => ?_
              ·refine Zk hK28 ?_
               refine AC_cond_t (congrArg bl hc14) ?_
               refine Zs fun _ hK32 => ?_
               refine Za ?_
               refine Zn hK32 ?_
               refine AC_ret ?_
               refine Zr hdm ?_
               simp only [decide_eq_true_eq, decide_eq_false_iff_not] at *
               first
                | (subst_vars; rfl)
                | (have hcf : ctlB s = false := by
                    simp only [ctlB, ctlL, hasS, Bool.or_false, Bool.or_eq_false_iff, decide_eq_false_iff_not]
                    and_intros <;> (intro h; subst h; simp_all)
                   rw [hcf])
              ·refine Zs fun _ hK33 => ?_
               refine Ze (Ev_seql rfl rfl) ?_
               refine Za ?_
               refine Zn hK33 ?_
               refine Zc (fun hc15 => ?_) fun hc15 => ?_
               ·refine Zk hK28 ?_
                refine AC_cond_t (congrArg bl hc15) ?_
                refine Zs fun _ hK34 => ?_
                refine Za ?_
                refine Zn hK34 ?_
                refine AC_ret ?_
                refine Zr hdm ?_
                simp only [decide_eq_true_eq, decide_eq_false_iff_not] at *
                first
                 | (subst_vars; rfl)
                 | (have hcf : ctlB s = false := by
                     simp only [ctlB, ctlL, hasS, Bool.or_false, Bool.or_eq_false_iff, decide_eq_false_iff_not]
                     and_intros <;> (intro h; subst h; simp_all)
                    rw [hcf])
               ·refine Zs fun _ hK35 => ?_
                refine Ze (Ev_seql rfl rfl) ?_
                refine Za ?_
                refine Zn hK35 ?_
                refine Zc (fun hc16 => ?_) fun hc16 => ?_
                ·refine Zk hK28 ?_
                 refine AC_cond_t (congrArg bl hc16) ?_
                 refine Zs fun _ hK36 => ?_
                 refine Za ?_
                 refine Zn hK36 ?_
                 refine AC_ret ?_
                 refine Zr hdm ?_
                 simp only [decide_eq_true_eq, decide_eq_false_iff_not] at *
                 first
                  | (subst_vars; rfl)
                  | (have hcf : ctlB s = false := by
                      simp only [ctlB, ctlL, hasS, Bool.or_false, Bool.or_eq_false_iff, decide_eq_false_iff_not]
                      and_intros <;> (intro h; subst h; simp_all)
                     rw [hcf])
                ·refine Zs fun _ hK37 => ?_
                 refine Ze (Ev_seql rfl rfl) ?_
                 refine Za ?_
                 refine Zn hK37 ?_
                 refine Zc (fun hc17 => ?_) fun hc17 => ?_
                 ·refine Zk hK28 ?_
                  refine AC_cond_t (congrArg bl hc17) ?_
                  refine Zs fun _ hK38 => ?_
                  refine Za ?_
                  refine Zn hK38 ?_
                  refine AC_ret ?_
                  refine Zr hdm ?_
                  simp only [decide_eq_true_eq, decide_eq_false_iff_not] at *
                  first
                   | (subst_vars; rfl)
                   | (have hcf : ctlB s = false := by
                       simp only [ctlB, ctlL, hasS, Bool.or_false, Bool.or_eq_false_iff, decide_eq_false_iff_not]
                       and_intros <;> (intro h; subst h; simp_all)
                      rw [hcf])
                 ·refine Zs fun _ hK39 => ?_
                  refine Ze (Ev_seql rfl rfl) ?_
                  refine Za ?_
                  refine Zn hK39 ?_
                  refine Zc (fun hc18 => ?_) fun hc18 => ?_
                  ·refine Zk hK28 ?_
                   refine AC_cond_t (congrArg bl hc18) ?_
                   refine Zs fun _ hK40 => ?_
                   refine Za ?_
                   refine Zn hK40 ?_
                   refine AC_ret ?_
                   refine Zr hdm ?_
                   simp only [decide_eq_true_eq, decide_eq_false_iff_not] at *
                   first
                    | (subst_vars; rfl)
                    | (have hcf : ctlB s = false := by
                        simp only [ctlB, ctlL, hasS, Bool.or_false, Bool.or_eq_false_iff, decide_eq_false_iff_not]
                        and_intros <;> (intro h; subst h; simp_all)
                       rw [hcf])
                  ·refine Zs fun _ hK41 => ?_
                   refine Ze (Ev_seql rfl rfl) ?_
                   refine Za ?_
                   refine Zn hK41 ?_
                   refine Zc (fun hc19 => ?_) fun hc19 => ?_
                   ·refine Zk hK28 ?_
                    refine AC_cond_t (congrArg bl hc19) ?_
                    refine Zs fun _ hK42 => ?_
                    refine Za ?_
                    refine Zn hK42 ?_
                    refine AC_ret ?_
                    refine Zr hdm ?_
                    simp only [decide_eq_true_eq, decide_eq_false_iff_not] at *
                    first
                     | (subst_vars; rfl)
                     | (have hcf : ctlB s = false := by
                         simp only [ctlB, ctlL, hasS, Bool.or_false, Bool.or_eq_false_iff, decide_eq_false_iff_not]
                         and_intros <;> (intro h; subst h; simp_all)
                        rw [hcf])
                   ·refine Zs fun _ hK43 => ?_
                    refine Ze (Ev_seql rfl rfl) ?_
                    refine Za ?_
                    refine Zn hK43 ?_
                    refine Zc (fun hc20 => ?_) fun hc20 => ?_
                    ·refine Zk hK28 ?_
                     refine AC_cond_t (congrArg bl hc20) ?_
                     refine Zs fun _ hK44 => ?_
                     refine Za ?_
                     refine Zn hK44 ?_
                     refine AC_ret ?_
                     refine Zr hdm ?_
                     simp only [decide_eq_true_eq, decide_eq_false_iff_not] at *
                     first
                      | (subst_vars; rfl)
                      | (have hcf : ctlB s = false := by
                          simp only [ctlB, ctlL, hasS, Bool.or_false, Bool.or_eq_false_iff, decide_eq_false_iff_not]
                          and_intros <;> (intro h; subst h; simp_all)
                         rw [hcf])
                    ·refine Zs fun _ hK45 => ?_
                     refine Ze (Ev_seql rfl rfl) ?_
                     refine Za ?_
                     refine Zn hK45 ?_
                     refine Zc (fun hc21 => ?_) fun hc21 => ?_
                     ·refine Zk hK28 ?_
                      refine AC_cond_t (congrArg bl hc21) ?_
                      refine Zs fun _ hK46 => ?_
                      refine Za ?_
                      refine Zn hK46 ?_
                      refine AC_ret ?_
                      refine Zr hdm ?_
                      simp only [decide_eq_true_eq, decide_eq_false_iff_not] at *
                      first
                       | (subst_vars; rfl)
                       | (have hcf : ctlB s = false := by
                           simp only [ctlB, ctlL, hasS, Bool.or_false, Bool.or_eq_false_iff, decide_eq_false_iff_not]
                           and_intros <;> (intro h; subst h; simp_all)
                          rw [hcf])
                     ·refine Zs fun _ hK47 => ?_
                      refine Ze (Ev_seql rfl rfl) ?_
                      refine Za ?_
                      refine Zn hK47 ?_
                      refine Zc (fun hc22 => ?_) fun hc22 => ?_
                      ·refine Zk hK28 ?_
                       refine AC_cond_t (congrArg bl hc22) ?_
                       refine Zs fun _ hK48 => ?_
                       refine Za ?_
                       refine Zn hK48 ?_
                       refine AC_ret ?_
                       refine Zr hdm ?_
                       simp only [decide_eq_true_eq, decide_eq_false_iff_not] at *
                       first
                        | (subst_vars; rfl)
                        | (have hcf : ctlB s = false := by
                            simp only [ctlB, ctlL, hasS, Bool.or_false, Bool.or_eq_false_iff, decide_eq_false_iff_not]
                            and_intros <;> (intro h; subst h; simp_all)
                           rw [hcf])
                      ·refine Zs fun _ hK49 => ?_
                       refine Ze (Ev_seql rfl rfl) ?_
                       refine Za ?_
                       refine Zn hK49 ?_
                       refine Zc (fun hc23 => ?_) fun hc23 => ?_
                       ·refine Zk hK28 ?_
                        refine AC_cond_t (congrArg bl hc23) ?_
                        refine Zs fun _ hK50 => ?_
                        refine Za ?_
                        refine Zn hK50 ?_
                        refine AC_ret ?_
                        refine Zr hdm ?_
                        simp only [decide_eq_true_eq, decide_eq_false_iff_not] at *
                        first
                         | (subst_vars; rfl)
                         | (have hcf : ctlB s = false := by
                             simp only [ctlB, ctlL, hasS, Bool.or_false, Bool.or_eq_false_iff, decide_eq_false_iff_not]
                             and_intros <;> (intro h; subst h; simp_all)
                            rw [hcf])
                       ·refine Zs fun _ hK51 => ?_
                        refine Ze (Ev_seql rfl rfl) ?_
                        refine Za ?_
                        refine Zn hK51 ?_
                        refine Zc (fun hc24 => ?_) fun hc24 => ?_
                        ·refine Zk hK28 ?_
                         refine AC_cond_t (congrArg bl hc24) ?_
                         refine Zs fun _ hK52 => ?_
                         refine Za ?_
                         refine Zn hK52 ?_
                         refine AC_ret ?_
                         refine Zr hdm ?_
                         simp only [decide_eq_true_eq, decide_eq_false_iff_not] at *
                         first
                          | (subst_vars; rfl)
                          | (have hcf : ctlB s = false := by
                              simp only [ctlB, ctlL, hasS, Bool.or_false, Bool.or_eq_false_iff, decide_eq_false_iff_not]
                              and_intros <;> (intro h; subst h; simp_all)
                             rw [hcf])
                        ·refine Zs fun _ hK53 => ?_
                         refine Ze (Ev_seql rfl rfl) ?_
                         refine Za ?_
                         refine Zn hK53 ?_
                         refine Zc (fun hc25 => ?_) fun hc25 => ?_
                         ·refine Zk hK28 ?_
                          refine AC_cond_t (congrArg bl hc25) ?_
                          refine Zs fun _ hK54 => ?_
                          refine Za ?_
                          refine Zn hK54 ?_
                          refine AC_ret ?_
                          refine Zr hdm ?_
                          simp only [decide_eq_true_eq, decide_eq_false_iff_not] at *
                          first
                           | (subst_vars; rfl)
                           | (have hcf : ctlB s = false := by
                               simp only [ctlB, ctlL, hasS, Bool.or_false, Bool.or_eq_false_iff, decide_eq_false_iff_not]
                               and_intros <;> (intro h; subst h; simp_all)
                              rw [hcf])
                         ·refine AC_region ?_
                          refine Ze (Ev_seql rfl rfl) ?_
                          refine Za ?_
                          refine Zn hK28 ?_
                          refine Zc (fun hc26 => ?_) fun hc26 => ?_
                          ·refine Zs fun _ hK55 => ?_
                           refine Za ?_
                           refine Zn hK55 ?_
                           refine AC_ret ?_
                           refine Zr hdm ?_
                           simp only [decide_eq_true_eq, decide_eq_false_iff_not] at *
                           first
                            | (subst_vars; rfl)
                            | (have hcf : ctlB s = false := by
                                simp only [ctlB, ctlL, hasS, Bool.or_false, Bool.or_eq_false_iff, decide_eq_false_iff_not]
                                and_intros <;> (intro h; subst h; simp_all)
                               rw [hcf])
                          ·refine Zk hK2 ?_
                           refine Zs fun _ hK56 => ?_
                           refine Za ?_
                           refine Zn hK56 ?_
                           refine AC_ret ?_
                           refine Zr hdm ?_
                           simp only [decide_eq_true_eq, decide_eq_false_iff_not] at *
                           first
                            | (subst_vars; rfl)
                            | (have hcf : ctlB s = false := by
                                simp only [ctlB, ctlL, hasS, Bool.or_false, Bool.or_eq_false_iff, decide_eq_false_iff_not]
                                and_intros <;> (intro h; subst h; simp_all)
                               rw [hcf])
set_option maxHeartbeats 1000000 in
set_option maxRecDepth 4000 in
theorem c_l23Calls (t : T) : ∀ out : List ByteArray, bulk t ≤ 1099511627776 → out.length + sz t ≤ 1099511627776 → PCall Tryz.prog 65 [inj t, .sl .one (strs out)] (· = [.sl .one (strs (callsF t out))]) := by
 induction t using T.ind with | h k s m ks ih => ?_
 intro out hb hl
 refine PCall_of (n := 58) Tryz.func65 rfl rfl (Nat.le_of_ble_eq_true rfl) fun C hdm hT0 => ?_
 have hT := hT0
 refine Zs fun _ hK1 => ?_
 refine AL_box (Lay.st [.one, .one, .one, .one]) (nf rfl) rfl (by rfl) _ rfl rfl ?_
 refine Za ?_
 refine Zn hK1 ?_
 refine Zs fun _ hK2 => ?_
 refine YL ts41 ta41 ?_
 refine AL_fcall0 hT rfl cl34 (c_specPredOf _ hb) rfl rfl ?_
 refine Za ?_
 refine Zn hK2 ?_
 refine AC_seq fun _ hK3 => ?_
 refine Zs fun _ hK4 => ?_
 refine Zm ?_
 refine Zn hK4 ?_
 refine AC_block ?_
 refine AC_seq fun _ hK5 => ?_
 refine Zs fun _ hK6 => ?_
 refine Ze (Ev_seql rfl rfl) ?_
 refine Za ?_
 refine Zn hK6 ?_
 refine Zc (fun hc1 => ?_) fun hc1 => ?_
 ·have hp0 := of_decide_eq_true hc1
  obtain ⟨x, y, rfl⟩ := len2 (show ks.length = 2 from predS_kids [44] 2 (by omega) rfl hp0)
  have hp : predS (.mk k s m [x, y]) = cComma ∨ predS (.mk k s m [x, y]) = cSemi ∨ predS (.mk k s m [x, y]) = cArrow := .inl hp0
  have hu0 : (injs [x, y])[(0 : Int).toNat]? = some (inj x) := rfl
  have hu1 : (injs [x, y])[(1 : Int).toNat]? = some (inj y) := rfl
  simp only [sz, szs] at hl
  have hle := callsF_len x out
  refine Zk hK5 ?_
  refine AC_cond_t (congrArg bl hc1) ?_
  refine Zs fun _ hK7 => ?_
  refine Ya fa41_3 ?_
  refine Yl ts39 ta39 ?_
  refine Yi te39 ts41 ?_
  refine YP ts41 ta41 ?_
  refine Zm ?_
  refine AL_fcall0 hT rfl cl65 (ih x (by simp) (out) (bulk_mem hb x (by simp)) (by omega)) rfl rfl ?_
  refine Za ?_
  refine Zn hK7 ?_
  refine Zs fun _ hK8 => ?_
  refine Ya fa41_3 ?_
  refine Yl ts39 ta39 ?_
  refine Yi te39 ts41 ?_
  refine YP ts41 ta41 ?_
  refine Zm ?_
  refine AL_fcall0 hT rfl cl65 (ih y (by simp) (callsF x out) (bulk_mem hb y (by simp)) (by omega)) rfl rfl ?_
  refine Za ?_
  refine Zn hK8 ?_
  refine AC_ret ?_
  refine Zr hdm ?_
  exact congrArg (fun l => [D.sl .one (strs l)]) (eachF_two hp).symm
 ·refine Zs fun _ hK9 => ?_
  refine Ze (Ev_seql rfl rfl) ?_
  refine Za ?_
  refine Zn hK9 ?_
  refine Zc (fun hc2 => ?_) fun hc2 => ?_
  ·have hp0 := of_decide_eq_true hc2
   obtain ⟨x, y, rfl⟩ := len2 (show ks.length = 2 from predS_kids [59] 2 (by omega) rfl hp0)
   have hp : predS (.mk k s m [x, y]) = cComma ∨ predS (.mk k s m [x, y]) = cSemi ∨ predS (.mk k s m [x, y]) = cArrow := .inr (.inl hp0)
   have hu0 : (injs [x, y])[(0 : Int).toNat]? = some (inj x) := rfl
   have hu1 : (injs [x, y])[(1 : Int).toNat]? = some (inj y) := rfl
   simp only [sz, szs] at hl
   have hle := callsF_len x out
   refine Zk hK5 ?_
   refine AC_cond_t (congrArg bl hc2) ?_
   refine Zs fun _ hK10 => ?_
   refine Ya fa41_3 ?_
   refine Yl ts39 ta39 ?_
   refine Yi te39 ts41 ?_
   refine YP ts41 ta41 ?_
   refine Zm ?_
   refine AL_fcall0 hT rfl cl65 (ih x (by simp) (out) (bulk_mem hb x (by simp)) (by omega)) rfl rfl ?_
   refine Za ?_
   refine Zn hK10 ?_
   refine Zs fun _ hK11 => ?_
   refine Ya fa41_3 ?_
   refine Yl ts39 ta39 ?_
   refine Yi te39 ts41 ?_
   refine YP ts41 ta41 ?_
   refine Zm ?_
   refine AL_fcall0 hT rfl cl65 (ih y (by simp) (callsF x out) (bulk_mem hb y (by simp)) (by omega)) rfl rfl ?_
   refine Za ?_
   refine Zn hK11 ?_
   refine AC_ret ?_
   refine Zr hdm ?_
   exact congrArg (fun l => [D.sl .one (strs l)]) (eachF_two hp).symm
  ·refine AC_region ?_
   refine Ze (Ev_seql rfl rfl) ?_
   refine Za ?_
   refine Zn hK5 ?_
   refine Zc (fun hc3 => ?_) fun hc3 => ?_
   ·have hp0 := of_decide_eq_true hc3
    obtain ⟨x, y, rfl⟩ := len2 (show ks.length = 2 from predS_kids [45, 62] 2 (by omega) rfl hp0)
    have hp : predS (.mk k s m [x, y]) = cComma ∨ predS (.mk k s m [x, y]) = cSemi ∨ predS (.mk k s m [x, y]) = cArrow := .inr (.inr hp0)
    have hu0 : (injs [x, y])[(0 : Int).toNat]? = some (inj x) := rfl
    have hu1 : (injs [x, y])[(1 : Int).toNat]? = some (inj y) := rfl
    simp only [sz, szs] at hl
    have hle := callsF_len x out
    refine Zs fun _ hK12 => ?_
    refine Ya fa41_3 ?_
    refine Yl ts39 ta39 ?_
    refine Yi te39 ts41 ?_
    refine YP ts41 ta41 ?_
    refine Zm ?_
    refine AL_fcall0 hT rfl cl65 (ih x (by simp) (out) (bulk_mem hb x (by simp)) (by omega)) rfl rfl ?_
    refine Za ?_
    refine Zn hK12 ?_
    refine Zs fun _ hK13 => ?_
    refine Ya fa41_3 ?_
    refine Yl ts39 ta39 ?_
    refine Yi te39 ts41 ?_
    refine YP ts41 ta41 ?_
    refine Zm ?_
    refine AL_fcall0 hT rfl cl65 (ih y (by simp) (callsF x out) (bulk_mem hb y (by simp)) (by omega)) rfl rfl ?_
    refine Za ?_
    refine Zn hK13 ?_
    refine AC_ret ?_
    refine Zr hdm ?_
    exact congrArg (fun l => [D.sl .one (strs l)]) (eachF_two hp).symm
   ·refine AC_seq fun _ hK14 => ?_
    refine Zs fun _ hK15 => ?_
    refine Ze (Ev_seql rfl rfl) ?_
    refine Za ?_
    refine Zn hK15 ?_
    refine Zc (fun hc4 => ?_) fun hc4 => ?_
    ·have hp := of_decide_eq_true hc4
     obtain ⟨x, rfl⟩ := len1 (show ks.length = 1 from predS_kids [92, 43] 1 (by omega) rfl hp)
     have hu0 : (injs [x])[(0 : Int).toNat]? = some (inj x) := rfl
     simp only [sz, szs] at hl
     refine Zk hK14 ?_
     refine AC_cond_t (congrArg bl hc4) ?_
     refine Zs fun _ hK16 => ?_
     refine Ya fa41_3 ?_
     refine Yl ts39 ta39 ?_
     refine Yi te39 ts41 ?_
     refine YP ts41 ta41 ?_
     refine Zm ?_
     refine AL_fcall0 hT rfl cl65 (ih x (by simp) (out) (bulk_mem hb x (by simp)) (by omega)) rfl rfl ?_
     refine Za ?_
     refine Zn hK16 ?_
     refine AC_ret ?_
     refine Zr hdm ?_
     exact congrArg (fun l => [D.sl .one (strs l)]) ((eachF_neg x false true out).trans (eachF_not hp).symm)
    ·refine AC_region ?_
     refine Ze (Ev_seql rfl rfl) ?_
     refine Za ?_
     refine Zn hK14 ?_
     refine Zc (fun hc5 => ?_) fun hc5 => ?_
     ·have hp := of_decide_eq_true hc5
      obtain ⟨x, rfl⟩ := len1 (show ks.length = 1 from predS_kids [99, 97, 108, 108] 1 (by omega) rfl hp)
      have hu0 : (injs [x])[(0 : Int).toNat]? = some (inj x) := rfl
      simp only [sz, szs] at hl
      refine Zs fun _ hK17 => ?_
      refine Ya fa41_3 ?_
      refine Yl ts39 ta39 ?_
      refine Yi te39 ts41 ?_
      refine YP ts41 ta41 ?_
      refine Zm ?_
      refine AL_fcall0 hT rfl cl65 (ih x (by simp) (out) (bulk_mem hb x (by simp)) (by omega)) rfl rfl ?_
      refine Za ?_
      refine Zn hK17 ?_
      refine AC_ret ?_
      refine Zr hdm ?_
      exact congrArg (fun l => [D.sl .one (strs l)]) (eachF_call hp).symm
     ·refine Zs fun _ hK18 => ?_
      refine Ze (Ev_seql rfl rfl) ?_
      refine Za ?_
      refine Zn hK18 ?_
      refine Zc (fun hc6 => ?_) fun hc6 => ?_
      ·have hp := of_decide_eq_true hc6
       obtain ⟨x, y, z, rfl⟩ := len3 (show ks.length = 3 from predS_kids [99, 97, 116, 99, 104] 3 (by omega) rfl hp)
       have hu0 : (injs [x, y, z])[(0 : Int).toNat]? = some (inj x) := rfl
       have hu1 : (injs [x, y, z])[(2 : Int).toNat]? = some (inj z) := rfl
       simp only [sz, szs] at hl
       have hle := callsF_len x out
       refine Zs fun _ hK19 => ?_
       refine Ya fa41_3 ?_
       refine Yl ts39 ta39 ?_
       refine Yi te39 ts41 ?_
       refine YP ts41 ta41 ?_
       refine Zm ?_
       refine AL_fcall0 hT rfl cl65 (ih x (by simp) (out) (bulk_mem hb x (by simp)) (by omega)) rfl rfl ?_
       refine Za ?_
       refine Zn hK19 ?_
       refine Zs fun _ hK20 => ?_
       refine Ya fa41_3 ?_
       refine Yl ts39 ta39 ?_
       refine Yi te39 ts41 ?_
       refine YP ts41 ta41 ?_
       refine Zm ?_
       refine AL_fcall0 hT rfl cl65 (ih z (by simp) (callsF x out) (bulk_mem hb z (by simp)) (by omega)) rfl rfl ?_
       refine Za ?_
       refine Zn hK20 ?_
       refine AC_ret ?_
       refine Zr hdm ?_
       exact congrArg (fun l => [D.sl .one (strs l)]) (eachF_catch hp).symm
      ·refine Zk hK3 ?_
       refine AC_seq fun _ hK21 => ?_
       refine Zs fun _ hK22 => ?_
       refine Zm ?_
       refine Ze (Ev_seql rfl rfl) ?_
       refine Zm ?_
       refine Zb 50 (fun hg7 => ?_) fun hg7 => ?_
       ·iterate 2 refine Zg ?_
        refine Zp ?_
        refine Zn hK22 ?_
        refine AC_cond_t rfl ?_
        refine Zs fun _ hK23 => ?_
        refine Zm ?_
        refine Za ?_
        refine Zn hK23 ?_
        refine AC_ret ?_
        refine Zr hdm ?_
        exact congrArg (fun l => [D.sl .one (strs l)]) ((eachF_end hc1 hc2 hc3 hc4 hc5 hc6).trans (if_pos (by simp_all))).symm
       ·refine Zt ?_
        refine Zm ?_
        refine Zt ?_
        refine AL_fcall0 hT rfl cl98 (c_specControl (predS (.mk k s m ks))) rfl rfl ?_
        refine Zp ?_
        refine Zn hK22 ?_
        refine Zc (fun hc8 => ?_) fun hc8 => ?_
        ·refine Zs fun _ hK24 => ?_
         refine Zm ?_
         refine Za ?_
         refine Zn hK24 ?_
         refine AC_ret ?_
         refine Zr hdm ?_
         exact congrArg (fun l => [D.sl .one (strs l)]) ((eachF_end hc1 hc2 hc3 hc4 hc5 hc6).trans (if_pos (by simp_all))).symm
        ·refine Zk hK21 ?_
         refine Zs fun _ hK25 => ?_
         iterate 2 refine Zm ?_
         refine AL_fcall0 hT rfl cl41 (c_l23Add out (predS (.mk k s m ks)) (by rw [sz] at hl; omega)) rfl rfl ?_
         refine Za ?_
         refine Zn hK25 ?_
         refine AC_ret ?_
         refine Zr hdm ?_
         exact congrArg (fun l => [D.sl .one (strs l)]) (show callsF (.mk k s m ks) out = onceL out (predS (.mk k s m ks)) from (eachF_end hc1 hc2 hc3 hc4 hc5 hc6).trans (if_neg (by simp_all))).symm
set_option maxHeartbeats 1000000 in
set_option maxRecDepth 4000 in
theorem c_specCallsIn (t : T) (hb : bulk t ≤ 1099511627775) : PCall Tryz.prog 28 [inj t] (· = [.sl .one (strs (callsIn t))]) := by
 have hsb := sz_bulk t
 refine PCall_of (n := 10) Tryz.func28 rfl rfl (Nat.le_of_ble_eq_true rfl) fun C hdm hT0 => ?_
 have hT := hT0
 refine Zs fun _ hK1 => ?_
 refine AL_box (Lay.st [.one, .one, .one, .one]) (nf rfl) rfl (by simp [Lay.len, Lay.lens]) _ rfl rfl ?_
 refine Za ?_
 refine Zn hK1 ?_
 refine AC_seq fun _ hK2 => ?_
 refine Zs fun _ hK3 => ?_
 refine YL ts41 ta41 ?_
 refine AL_fcall0 hT rfl cl64 (c_specTermOk t (by omega)) rfl rfl ?_
 refine Ze (Ev_not rfl) ?_
 refine Zn hK3 ?_
 refine Zc (fun hc1 => ?_) fun hc1 => ?_
 ·refine Zs fun _ hK4 => ?_
  refine AL_bD .one rfl te25 ts9 tz9 rfl rfl (by decide) (by decide) (by rfl) rfl ?_
  refine Za ?_
  refine Zn hK4 ?_
  refine AC_ret ?_
  refine Zr hdm ?_
  rw [callsIn, if_neg (by simp_all)]
  rfl
 ·refine Zk hK2 ?_
  refine Zs fun _ hK5 => ?_
  refine YL ts41 ta41 ?_
  refine AL_bD .one rfl te25 ts9 tz9 rfl rfl (by decide) (by decide) (by rfl) rfl ?_
  refine AL_fcall0 hT rfl cl65 (c_l23Calls t [] (by omega) (by simp; omega)) rfl rfl ?_
  refine Za ?_
  refine Zn hK5 ?_
  refine AC_ret ?_
  refine Zr hdm ?_
  rw [callsIn, if_pos (by simp_all)]
set_option maxHeartbeats 1000000 in
set_option maxRecDepth 4000 in
theorem c_callsIn1 (b0 c0 : Nat) (s : ByteArray) (neg : Bool) (xs : List ByteArray) (hl : (xs.length : Int) + 1 ≤ 1099511627776) : FCall Tryz.prog 63 (Jl 25 9 b0 c0) [.c (.string s), .c (.bool neg), .c (.pointer (some ⟨b0, 0, none⟩))] (xs) (stepO xs s neg) := by
 refine FCall_of (n := 8) Tryz.func63 rfl rfl (Nat.le_of_ble_eq_true rfl) fun C0 F hdm hT hJ => ?_
 have hM := Mk.refl C0 F
 have hS : ∀ b ∈ F, b ∈ F ∨ C0.w0.heap.size ≤ b := fun b hb => .inl hb
 obtain ⟨⟨o, A, cur, hp0, hp1, hp2, hp3, hcur, hlb, hne, rfl⟩, hjd, hjs⟩ := hJ
 have hB : Blk C0 b0 cur.toList 25 := ⟨hp0, hjd b0 (by simp), hjs b0 (by simp)⟩
 have hsc := hlb.scalar
 have hcur : cur.toList[0]? = some A := by simpa using hcur
 have hL : LBh C0 9 (strs xs) A o := ⟨hlb, fun b c ho => hjd b (by subst ho; simp [blkO]), fun b c ho => hjs b (by subst ho; simp [blkO])⟩
 refine AC_region ?_
 refine Ze (Ev_load_raw rfl hB hcur ts25 ta25 (by assumption)) ?_
 refine Zm ?_
 refine AL_lcall hT [] (pre := []) (suf := [.c (.string s)]) rfl cl52 rfl rfl rfl rfl (c_once xs s (by omega)) hL rfl fun C1 A1 o1 hm1 hL1 hs1 hT => ?_
 have hlt0 := hB.lt
 have hB := hB.marked hm1 (fun h => by obtain ⟨c, h⟩ := blkO_mem.1 h; exact hne c h)
 have hsc1 := hL1.lb.scalar
 refine AL_rstore rfl rfl hB (by rw [Array.length_toList]; omega) ts25 (by assumption) rfl fun D1 hk1 hb1 => ?_
 obtain ⟨hM2, hJ2, hS2⟩ := Jl_step hlt0 hne hm1 hL1 hs1 hk1 hb1 (by rw [Array.length_toList]; omega) hp2 hp3
 refine AL_nil ?_
 exact jend2 rfl hM2 hdm rfl hJ2 hS2 rfl
set_option maxHeartbeats 1000000 in
set_option maxRecDepth 4000 in
theorem c_eachCall {A : Type} (J : Jx A) (kk : FuncId) (xs : List Value) (hxs : xs.all Value.scalar = true) (hcl : Callable Tryz.prog kk) (step : A → ByteArray → Bool → A) (μ : A → Int) (hμ : ∀ a s n, μ (step a s n) ≤ μ a + 1) (hf : ∀ s n a, μ a + 1 ≤ 1099511627776 → FCall Tryz.prog kk J ([.c (.string s), .c (.bool n)] ++ xs.map D.c) a (step a s n)) (t : T) : ∀ (neg : Bool) (a : A), bulk t ≤ 1099511627776 → μ a + sz t ≤ 1099511627776 → FCall Tryz.prog 45 (J) [inj t, .c (.bool neg), .c (.func (.func kk) #[] xs.toArray)] (a) (eachF step t neg a) := by
 induction t using T.ind with | h k s m ks ih => ?_
 intro neg a hb hl
 refine FCall_of (n := 72) Tryz.func45 rfl rfl (Nat.le_of_ble_eq_true rfl) fun C0 F hdm hT hJ => ?_
 have hM := Mk.refl C0 F
 have hS : ∀ b ∈ F, b ∈ F ∨ C0.w0.heap.size ≤ b := fun b hb => .inl hb
 refine Zs fun _ hK1 => ?_
 refine AL_box (Lay.st [.one, .one, .one, .one]) (nf rfl) rfl (by rfl) _ rfl rfl ?_
 refine Zn hK1 ?_
 refine Zs fun _ hK2 => ?_
 refine YL ts41 ta41 ?_
 refine AL_fcall0 hT rfl cl44 (c_predOf _ hb) rfl rfl ?_
 refine Za ?_
 refine Zn hK2 ?_
 refine Zs fun _ hK3 => ?_
 refine Zm ?_
 refine Zn hK3 ?_
 refine AC_block ?_
 refine AC_seq fun _ hK4 => ?_
 refine Zs fun _ hK5 => ?_
 refine Ze (Ev_seql rfl rfl) ?_
 refine Za ?_
 refine Zn hK5 ?_
 refine Zc (fun hc1 => ?_) fun hc1 => ?_
 ·have hp0 := of_decide_eq_true hc1
  obtain ⟨x, y, rfl⟩ := len2 (show ks.length = 2 from predS_kids [44] 2 (by omega) rfl hp0)
  have hp : predS (.mk k s m [x, y]) = cComma ∨ predS (.mk k s m [x, y]) = cSemi ∨ predS (.mk k s m [x, y]) = cArrow := .inl hp0
  have hu0 : (injs [x, y])[(0 : Int).toNat]? = some (inj x) := rfl
  have hu1 : (injs [x, y])[(1 : Int).toNat]? = some (inj y) := rfl
  simp only [sz, szs] at hl
  have hle := eachF_le hμ x neg a
  refine Zk hK4 ?_
  refine AC_cond_t (congrArg bl hc1) ?_
  refine Zs fun _ hK6 => ?_
  refine Ya fa41_3 ?_
  refine Yl ts39 ta39 ?_
  refine Yi te39 ts41 ?_
  refine YP ts41 ta41 ?_
  iterate 2 refine Zm ?_
  refine AL_jcall hT (ds := [inj x, .c (.bool neg), .c (.func (.func kk) #[] xs.toArray)]) (.plain rfl) rfl cl45 rfl (ih x (by simp) neg (a) (bulk_mem hb x (by simp)) (by omega)) hJ rfl fun C1 F1 hm1 hJ hs1 hT => ?_
  obtain ⟨hM, hS⟩ := jstep hM hS hm1 hs1
  clear hm1 hs1
  refine Zn hK6 ?_
  refine AC_region ?_
  refine Ya fa41_3 ?_
  refine Yl ts39 ta39 ?_
  refine Yi te39 ts41 ?_
  refine YP ts41 ta41 ?_
  iterate 2 refine Zm ?_
  refine AL_jcall hT (ds := [inj y, .c (.bool neg), .c (.func (.func kk) #[] xs.toArray)]) (.plain rfl) rfl cl45 rfl (ih y (by simp) neg (eachF step x neg a) (bulk_mem hb y (by simp)) (by omega)) hJ rfl fun C1 F1 hm1 hJ hs1 hT => ?_
  obtain ⟨hM, hS⟩ := jstep hM hS hm1 hs1
  clear hm1 hs1
  refine AL_nil ?_
  refine jend2 rfl hM hdm rfl hJ hS ?_
  exact eachF_two hp
 ·refine Zs fun _ hK7 => ?_
  refine Ze (Ev_seql rfl rfl) ?_
  refine Za ?_
  refine Zn hK7 ?_
  refine Zc (fun hc2 => ?_) fun hc2 => ?_
  ·have hp0 := of_decide_eq_true hc2
   obtain ⟨x, y, rfl⟩ := len2 (show ks.length = 2 from predS_kids [59] 2 (by omega) rfl hp0)
   have hp : predS (.mk k s m [x, y]) = cComma ∨ predS (.mk k s m [x, y]) = cSemi ∨ predS (.mk k s m [x, y]) = cArrow := .inr (.inl hp0)
   have hu0 : (injs [x, y])[(0 : Int).toNat]? = some (inj x) := rfl
   have hu1 : (injs [x, y])[(1 : Int).toNat]? = some (inj y) := rfl
   simp only [sz, szs] at hl
   have hle := eachF_le hμ x neg a
   refine Zk hK4 ?_
   refine AC_cond_t (congrArg bl hc2) ?_
   refine Zs fun _ hK8 => ?_
   refine Ya fa41_3 ?_
   refine Yl ts39 ta39 ?_
   refine Yi te39 ts41 ?_
   refine YP ts41 ta41 ?_
   iterate 2 refine Zm ?_
   refine AL_jcall hT (ds := [inj x, .c (.bool neg), .c (.func (.func kk) #[] xs.toArray)]) (.plain rfl) rfl cl45 rfl (ih x (by simp) neg (a) (bulk_mem hb x (by simp)) (by omega)) hJ rfl fun C1 F1 hm1 hJ hs1 hT => ?_
   obtain ⟨hM, hS⟩ := jstep hM hS hm1 hs1
   clear hm1 hs1
   refine Zn hK8 ?_
   refine AC_region ?_
   refine Ya fa41_3 ?_
   refine Yl ts39 ta39 ?_
   refine Yi te39 ts41 ?_
   refine YP ts41 ta41 ?_
   iterate 2 refine Zm ?_
   refine AL_jcall hT (ds := [inj y, .c (.bool neg), .c (.func (.func kk) #[] xs.toArray)]) (.plain rfl) rfl cl45 rfl (ih y (by simp) neg (eachF step x neg a) (bulk_mem hb y (by simp)) (by omega)) hJ rfl fun C1 F1 hm1 hJ hs1 hT => ?_
   obtain ⟨hM, hS⟩ := jstep hM hS hm1 hs1
   clear hm1 hs1
   refine AL_nil ?_
   refine jend2 rfl hM hdm rfl hJ hS ?_
   exact eachF_two hp
  ·refine AC_region ?_
   refine Ze (Ev_seql rfl rfl) ?_
   refine Za ?_
   refine Zn hK4 ?_
   refine Zc (fun hc3 => ?_) fun hc3 => ?_
   ·have hp0 := of_decide_eq_true hc3
    obtain ⟨x, y, rfl⟩ := len2 (show ks.length = 2 from predS_kids [45, 62] 2 (by omega) rfl hp0)
    have hp : predS (.mk k s m [x, y]) = cComma ∨ predS (.mk k s m [x, y]) = cSemi ∨ predS (.mk k s m [x, y]) = cArrow := .inr (.inr hp0)
    have hu0 : (injs [x, y])[(0 : Int).toNat]? = some (inj x) := rfl
    have hu1 : (injs [x, y])[(1 : Int).toNat]? = some (inj y) := rfl
    simp only [sz, szs] at hl
    have hle := eachF_le hμ x neg a
    refine Zs fun _ hK9 => ?_
    refine Ya fa41_3 ?_
    refine Yl ts39 ta39 ?_
    refine Yi te39 ts41 ?_
    refine YP ts41 ta41 ?_
    iterate 2 refine Zm ?_
    refine AL_jcall hT (ds := [inj x, .c (.bool neg), .c (.func (.func kk) #[] xs.toArray)]) (.plain rfl) rfl cl45 rfl (ih x (by simp) neg (a) (bulk_mem hb x (by simp)) (by omega)) hJ rfl fun C1 F1 hm1 hJ hs1 hT => ?_
    obtain ⟨hM, hS⟩ := jstep hM hS hm1 hs1
    clear hm1 hs1
    refine Zn hK9 ?_
    refine AC_region ?_
    refine Ya fa41_3 ?_
    refine Yl ts39 ta39 ?_
    refine Yi te39 ts41 ?_
    refine YP ts41 ta41 ?_
    iterate 2 refine Zm ?_
    refine AL_jcall hT (ds := [inj y, .c (.bool neg), .c (.func (.func kk) #[] xs.toArray)]) (.plain rfl) rfl cl45 rfl (ih y (by simp) neg (eachF step x neg a) (bulk_mem hb y (by simp)) (by omega)) hJ rfl fun C1 F1 hm1 hJ hs1 hT => ?_
    obtain ⟨hM, hS⟩ := jstep hM hS hm1 hs1
    clear hm1 hs1
    refine AL_nil ?_
    refine jend2 rfl hM hdm rfl hJ hS ?_
    exact eachF_two hp
   ·refine Zs fun _ hK10 => ?_
    refine Ze (Ev_seql rfl rfl) ?_
    refine Za ?_
    refine Zn hK10 ?_
    refine Zc (fun hc4 => ?_) fun hc4 => ?_
    ·have hp := of_decide_eq_true hc4
     obtain ⟨x, rfl⟩ := len1 (show ks.length = 1 from predS_kids [92, 43] 1 (by omega) rfl hp)
     have hu0 : (injs [x])[(0 : Int).toNat]? = some (inj x) := rfl
     simp only [sz, szs] at hl
     refine AC_region ?_
     refine Ya fa41_3 ?_
     refine Yl ts39 ta39 ?_
     refine Yi te39 ts41 ?_
     refine YP ts41 ta41 ?_
     refine Zm ?_
     refine AL_jcall hT (ds := [inj x, .c (.bool true), .c (.func (.func kk) #[] xs.toArray)]) (.plain rfl) rfl cl45 rfl (ih x (by simp) true (a) (bulk_mem hb x (by simp)) (by omega)) hJ rfl fun C1 F1 hm1 hJ hs1 hT => ?_
     obtain ⟨hM, hS⟩ := jstep hM hS hm1 hs1
     clear hm1 hs1
     refine AL_nil ?_
     refine jend2 rfl hM hdm rfl hJ hS ?_
     exact eachF_not hp
    ·refine Zs fun _ hK11 => ?_
     refine Ze (Ev_seql rfl rfl) ?_
     refine Za ?_
     refine Zn hK11 ?_
     refine Zc (fun hc5 => ?_) fun hc5 => ?_
     ·have hp := of_decide_eq_true hc5
      obtain ⟨x, rfl⟩ := len1 (show ks.length = 1 from predS_kids [99, 97, 108, 108] 1 (by omega) rfl hp)
      have hu0 : (injs [x])[(0 : Int).toNat]? = some (inj x) := rfl
      simp only [sz, szs] at hl
      refine AC_region ?_
      refine Ya fa41_3 ?_
      refine Yl ts39 ta39 ?_
      refine Yi te39 ts41 ?_
      refine YP ts41 ta41 ?_
      iterate 2 refine Zm ?_
      refine AL_jcall hT (ds := [inj x, .c (.bool neg), .c (.func (.func kk) #[] xs.toArray)]) (.plain rfl) rfl cl45 rfl (ih x (by simp) neg (a) (bulk_mem hb x (by simp)) (by omega)) hJ rfl fun C1 F1 hm1 hJ hs1 hT => ?_
      obtain ⟨hM, hS⟩ := jstep hM hS hm1 hs1
      clear hm1 hs1
      refine AL_nil ?_
      refine jend2 rfl hM hdm rfl hJ hS ?_
      exact eachF_call hp
     ·refine Zs fun _ hK12 => ?_
      refine Ze (Ev_seql rfl rfl) ?_
      refine Za ?_
      refine Zn hK12 ?_
      refine Zc (fun hc6 => ?_) fun hc6 => ?_
      ·have hp := of_decide_eq_true hc6
       obtain ⟨x, y, z, rfl⟩ := len3 (show ks.length = 3 from predS_kids [99, 97, 116, 99, 104] 3 (by omega) rfl hp)
       have hu0 : (injs [x, y, z])[(0 : Int).toNat]? = some (inj x) := rfl
       have hu1 : (injs [x, y, z])[(2 : Int).toNat]? = some (inj z) := rfl
       simp only [sz, szs] at hl
       have hle := eachF_le hμ x neg a
       refine Zs fun _ hK13 => ?_
       refine Ya fa41_3 ?_
       refine Yl ts39 ta39 ?_
       refine Yi te39 ts41 ?_
       refine YP ts41 ta41 ?_
       iterate 2 refine Zm ?_
       refine AL_jcall hT (ds := [inj x, .c (.bool neg), .c (.func (.func kk) #[] xs.toArray)]) (.plain rfl) rfl cl45 rfl (ih x (by simp) neg (a) (bulk_mem hb x (by simp)) (by omega)) hJ rfl fun C1 F1 hm1 hJ hs1 hT => ?_
       obtain ⟨hM, hS⟩ := jstep hM hS hm1 hs1
       clear hm1 hs1
       refine Zn hK13 ?_
       refine AC_region ?_
       refine Ya fa41_3 ?_
       refine Yl ts39 ta39 ?_
       refine Yi te39 ts41 ?_
       refine YP ts41 ta41 ?_
       iterate 2 refine Zm ?_
       refine AL_jcall hT (ds := [inj z, .c (.bool neg), .c (.func (.func kk) #[] xs.toArray)]) (.plain rfl) rfl cl45 rfl (ih z (by simp) neg (eachF step x neg a) (bulk_mem hb z (by simp)) (by omega)) hJ rfl fun C1 F1 hm1 hJ hs1 hT => ?_
       obtain ⟨hM, hS⟩ := jstep hM hS hm1 hs1
       clear hm1 hs1
       refine AL_nil ?_
       refine jend2 rfl hM hdm rfl hJ hS ?_
       exact eachF_catch hp
      ·refine Zs fun _ hK14 => ?_
       refine Zm ?_
       refine Ze (Ev_sneq rfl rfl) ?_
       refine Zm ?_
       refine Zb 12 (fun hg7 => ?_) fun hg7 => ?_
       ·refine Zt ?_
        refine Zm ?_
        refine Zt ?_
        refine AL_fcall0 hT rfl cl87 (c_control (predS (.mk k s m ks))) rfl rfl ?_
        refine Zt ?_
        refine Ze (Ev_not rfl) ?_
        refine Zp ?_
        refine Zn hK14 ?_
        refine Zc (fun hc8 => ?_) fun hc8 => ?_
        ·refine AC_region ?_
         iterate 3 refine Zm ?_
         refine AL_jcall hT (ds := [.c (.string (predS (.mk k s m ks))), .c (.bool neg)]) (.clo rfl) hxs hcl rfl (hf (predS (.mk k s m ks)) neg a (by rw [sz] at hl; omega)) hJ rfl fun C1 F1 hm1 hJ hs1 hT => ?_
         obtain ⟨hM, hS⟩ := jstep hM hS hm1 hs1
         refine AL_nil ?_
         refine jend2 rfl hM hdm rfl hJ hS ?_
         exact (eachF_end hc1 hc2 hc3 hc4 hc5 hc6).trans (if_neg (by simp_all))
        ·refine AC_skip ?_
         refine jend2 rfl hM hdm rfl hJ hS ?_
         exact (eachF_end hc1 hc2 hc3 hc4 hc5 hc6).trans (if_pos (by simp_all))
       ·iterate 3 refine Zg ?_
        refine Zp ?_
        refine Zn hK14 ?_
        refine AC_cond_f rfl ?_
        refine AC_skip ?_
        refine jend2 rfl hM hdm rfl hJ hS ?_
        exact (eachF_end hc1 hc2 hc3 hc4 hc5 hc6).trans (if_pos (by simp_all))
set_option maxHeartbeats 1000000 in
set_option maxRecDepth 4000 in
theorem c_callsIn (t : T) (hb : bulk t ≤ 1099511627775) : OCall Tryz.prog 27 [inj t] (.sl .one (strs (callsIn t))) := by
 have hsb := sz_bulk t
 generalize hg : callsIn t = R
 refine OCall_of (n := 10) Tryz.func27 rfl rfl (Nat.le_of_ble_eq_true rfl) fun C0 hdm hT0 => ?_
 have hX0 := CExt.refl C0
 have hT := hT0
 refine Zs fun _ hK1 => ?_
 refine AL_box (Lay.st [.one, .one, .one, .one]) (nf rfl) rfl (by simp [Lay.len, Lay.lens]) _ rfl rfl ?_
 refine Za ?_
 refine Zn hK1 ?_
 refine Zs fun _ hK2 => ?_
 refine AL_alloc zo25 _ rfl rfl ?_
 refine Zn hK2 ?_
 refine AC_seq fun _ hK3 => ?_
 refine Zs fun _ hK4 => ?_
 refine YL ts41 ta41 ?_
 refine AL_fcall0 hT rfl cl42 (c_termOk t (by omega)) rfl rfl ?_
 refine Zn hK4 ?_
 refine Zc (fun hc1 => ?_) fun hc1 => ?_
 ·have hR : R = callsF t [] := by rw [← hg, callsIn, if_pos hc1]
  subst hR
  refine AC_region ?_
  refine YL ts41 ta41 ?_
  refine Ze (Ev_funcV rfl rfl) ?_
  refine AL_ncall hT (pre := [inj t, .c (.bool false)]) (ys := callsF t []) (e := 9) 1 [_, _] rfl cl45 rfl rfl rfl rfl (fun b0 c0 => c_eachCall (Jl 25 9 b0 c0) 63 [.pointer (some ⟨b0, 0, none⟩)] rfl cl63 stepO (fun a => (a.length : Int)) stepO_le (fun s n a ha => c_callsIn1 b0 c0 s n a ha) t false [] (by omega) (by simp only [List.length_nil]; omega)) _ rfl rfl ?_
  refine Zn hK3 ?_
  refine Zs fun _ hK5 => ?_
  refine Yl ts25 ta25 ?_
  refine Za ?_
  refine Zn hK5 ?_
  refine AC_ret ?_
  refine reto_ok hX0 hdm (.tmp rfl rfl .nil) (.ref rfl rfl (by simp) (OwVs_strs (by rfl)) (by simp)) rfl rfl
 ·have hR : R = [] := by rw [← hg, callsIn, if_neg (by simp [hc1])]
  subst hR
  refine Zk hK3 ?_
  refine Zs fun _ hK6 => ?_
  refine Yl ts25 ta25 ?_
  refine Za ?_
  refine Zn hK6 ?_
  refine AC_ret ?_
  exact reto_ok hX0 hdm (.tmp rfl rfl .nil) .nil rfl rfl
end Go.Proofs.YtjgliechbnommaaGreatDoor
set_option linter.unusedVariables false
set_option linter.unusedSimpArgs false
namespace Go.Proofs.YtjgliechbnommaaGreatDoor
open Go.Eng
theorem cl102 : Callable Tryz.prog 102 := Zq Tryz.func102
theorem cl113 : Callable Tryz.prog 113 := Zq Tryz.func113
theorem cl27 : Callable Tryz.prog 27 := Zq Tryz.func27
theorem cl28 : Callable Tryz.prog 28 := Zq Tryz.func28
theorem cl51 : Callable Tryz.prog 51 := Zq Tryz.func51
theorem cl54 : Callable Tryz.prog 54 := Zq Tryz.func54
theorem cl89 : Callable Tryz.prog 89 := Zq Tryz.func89
theorem cl90 : Callable Tryz.prog 90 := Zq Tryz.func90
theorem cl92 : Callable Tryz.prog 92 := Zq Tryz.func92
theorem fa54_1 : tyField Tryz.prog 54 1 = some (4, true) := by kernel_rfl
theorem fa54_2 : tyField Tryz.prog 54 2 = some (8, true) := by kernel_rfl
theorem ta27 : tyAgg Tryz.prog 27 = some true := by kernel_rfl
theorem tb54 : tyBytes Tryz.prog 54 = some 128 := by kernel_rfl
theorem tpl54 : tyPlaces Tryz.prog 54 = some (layPlaces 0 [(Lay.st [.one, .one, .one, .one]), (Lay.st [.one, .one, .one, .one]), .one]) := by kernel_rfl
theorem ts27 : tySize Tryz.prog 27 = some 2 := by kernel_rfl
set_option maxHeartbeats 1000000 in
set_option maxRecDepth 4000 in
theorem c_copyClause (c : Cl) : PCall Tryz.prog 92 [injC c] (· = [injC c]) := by
 obtain ⟨h, b, f⟩ := c
 refine PCall_of (n := 12) Tryz.func92 rfl rfl (Nat.le_of_ble_eq_true rfl) fun C hdm hT0 => ?_
 have hT := hT0
 refine Zs fun _ hK1 => ?_
 refine AL_box (Lay.st [(Lay.st [.one, .one, .one, .one]), (Lay.st [.one, .one, .one, .one]), .one]) (nf rfl) rfl (by rfl) _ rfl rfl ?_
 refine AL_alloc zo54 _ rfl rfl ?_
 refine Zn hK1 ?_
 refine AC_seq fun _ hK2 => ?_
 refine AC_draw hT follows [0, 1, 2, 3, 4, 5, 6, 7, 8, 9] (by kernel_rfl) ?_
 refine DT_ev rfl (EA_fa_ptr rfl fa54_0 rfl rfl) rfl ?_
 refine DT_ev rfl (EA_load_ptr rfl rfl rfl rfl rfl rfl ts41 ta41 (by simp) (by intro h; cases h)) rfl ?_
 refine DT_fcall0 rfl rfl cl102 (c_copyTerm h) rfl rfl ?_
 refine DT_ev rfl (EA_fa_ptr rfl fa54_1 rfl rfl) rfl ?_
 refine DT_ev rfl (EA_load_ptr rfl rfl rfl rfl rfl rfl ts41 ta41 (by simp) (by intro h; cases h)) rfl ?_
 refine DT_fcall0 rfl rfl cl102 (c_copyTerm b) rfl rfl ?_
 refine DT_ev rfl (EA_fa_ptr rfl fa54_2 rfl rfl) rfl ?_
 refine DT_ev rfl (EA_load_ptr rfl rfl rfl rfl rfl rfl ts9 ta9 rfl (fun _ => rfl)) rfl ?_
 refine DT_ev rfl (EA_build (fs := [(Lay.st [.one, .one, .one, .one]), (Lay.st [.one, .one, .one, .one]), .one]) (zs := [.agg [.one, .one, .one, .one] [.c (.int .i64 0), .c (.string ⟨#[]⟩), .c (.int .i64 0), .c (.slice none 0 0)], .agg [.one, .one, .one, .one] [.c (.int .i64 0), .c (.string ⟨#[]⟩), .c (.int .i64 0), .c (.slice none 0 0)], .c (.string ⟨#[]⟩)]) tz54 rfl tpl54 (.cons rfl rfl (by (simp [inj_lenL, Lay.len, Lay.lens]; done)) (.cons rfl rfl (by (simp [inj_lenL, Lay.len, Lay.lens]; done)) (.cons rfl rfl (by rfl) .nil)))) rfl ?_
 refine DT_store rfl rfl (nf rfl) rfl rfl rfl rfl rfl rfl (by rfl) ts54 rfl rfl ?_
 refine Zd hK2 ?_
 refine AC_ret ?_
 exact ret_ok hdm (.cell rfl rfl rfl rfl rfl rfl ts54 ta54 (by rfl) (by intro h; cases h) .nil) (.cons (by exact .agg (.cons .d (.cons .d (.cons .d .nil)))) .nil) rfl
set_option maxHeartbeats 1000000 in
set_option maxRecDepth 4000 in
theorem c_l34Clause (c : Cl) : PCall Tryz.prog 113 [injC c] (· = [injC c]) := by
 obtain ⟨h, b, f⟩ := c
 refine PCall_of (n := 12) Tryz.func113 rfl rfl (Nat.le_of_ble_eq_true rfl) fun C hdm hT0 => ?_
 have hT := hT0
 refine Zs fun _ hK1 => ?_
 refine AL_box (Lay.st [(Lay.st [.one, .one, .one, .one]), (Lay.st [.one, .one, .one, .one]), .one]) (nf rfl) rfl (by rfl) _ rfl rfl ?_
 refine AL_alloc zo54 _ rfl rfl ?_
 refine Zn hK1 ?_
 refine Zs fun _ hK2 => ?_
 refine Ya fa54_0 ?_
 refine YL ts41 ta41 ?_
 refine AL_fcall0 hT rfl cl143 (c_l34Term h) rfl rfl ?_
 refine Ya fa54_0 ?_
 refine Ys ts41 ?_
 refine Zn hK2 ?_
 refine Zs fun _ hK3 => ?_
 refine Ya fa54_1 ?_
 refine YL ts41 ta41 ?_
 refine AL_fcall0 hT rfl cl143 (c_l34Term b) rfl rfl ?_
 refine Ya fa54_1 ?_
 refine Ys ts41 ?_
 refine Zn hK3 ?_
 refine Zs fun _ hK4 => ?_
 refine YL ts54 ta54 ?_
 refine Ys ts54 ?_
 refine Zn hK4 ?_
 refine AC_ret ?_
 exact ret_ok hdm (.cell rfl rfl rfl rfl rfl rfl ts54 ta54 (by rfl) (by intro h; cases h) .nil) (.cons (by exact .agg (.cons .d (.cons .d (.cons .d .nil)))) .nil) rfl
set_option maxHeartbeats 1000000 in
set_option maxRecDepth 4000 in
theorem c_l34Clauses (cs : List Cl) : PCall Tryz.prog 90 [.sl LC (injCs cs)] (· = [.sl LC (injCs cs)]) := by
 refine PCall_of (n := 21) Tryz.func90 rfl rfl (Nat.le_of_ble_eq_true rfl) fun C hdm hT0 => ?_
 have hT := hT0
 refine Zs fun _ hK1 => ?_
 refine Za ?_
 refine Zn hK1 ?_
 refine Zs fun _ hK2 => ?_
 refine AL_bV (Lay.st [(Lay.st [.one, .one, .one, .one]), (Lay.st [.one, .one, .one, .one]), .one]) rfl te24 ts54 tz54 rfl rfl (by decide) (by decide) (by rfl) _ rfl rfl ?_
 refine Za ?_
 refine Zn hK2 ?_
 refine AC_seq fun _ hK3 => ?_
 refine Zs fun _ hK4 => ?_
 refine Za ?_
 refine Zn hK4 ?_
 refine AC_block ?_
 refine AC_loopS [0] (Nat × List Cl) (fun ⟨j, out⟩ => [(4, i64 j), (3, .ref LC 0 0 (injCs out).length)]) (fun ⟨j, out⟩ => [some ⟨54, LC, (injCs out).map V.d⟩]) (fun st => cs.length - st.1) (fun ⟨j, out⟩ => j ≤ cs.length ∧ (cs = out ++ cs.drop j ∧ out.length ≤ j)) ((0, [])) ?_ ?_ ?_
 ·exact enterS [some 0] rfl rfl (BxTo_some rfl rfl rfl rfl (by exact .nil) BxTo_nil) Sl_
 ·exact ⟨Nat.zero_le _, by simp, by simp⟩
 rintro ⟨j, out⟩ ⟨hj, ⟨hI, ho⟩⟩
 show AC _ _ _ _ _ (FS [0] _ [(4, i64 j), (3, .ref LC 0 0 (injCs out).length)]) [some ⟨54, LC, (injCs out).map V.d⟩]
 refine AC_seq fun _ hK5 => ?_
 refine Zs fun _ hK6 => ?_
 iterate 2 refine Zm ?_
 refine AL_lim (x := (Operand.tmp 7)) rfl fun hl1 => ?_
 try simp only [injs_length, ints_length, strs_length, injCs_length, u8s_length, List.length_map] at hl1
 refine Ze (Ev_len_injCs te24 rfl) ?_
 refine Ze (Ev_lss rfl rfl) ?_
 refine Zn hK6 ?_
 refine Zc (fun hc1 => ?_) fun hc1 => ?_
 ·have hlt : j < cs.length := by simpa using hc1
  obtain ⟨u, hu⟩ : ∃ x, cs[j]? = some x := ⟨_, List.getElem?_eq_getElem hlt⟩
  have hu2 := injCs_get hu
  have hdr := drop_get hu
  refine Zk hK5 ?_
  refine AC_seq fun _ hK7 => ?_
  refine AC_block ?_
  refine AC_region ?_
  iterate 3 refine Zm ?_
  refine Yi te24 ts54 ?_
  refine YP ts54 ta54 ?_
  refine AL_fcall0 hT rfl cl113 (c_l34Clause u) rfl rfl ?_
  refine AL_bD (Lay.st [(Lay.st [.one, .one, .one, .one]), (Lay.st [.one, .one, .one, .one]), .one]) rfl te24 ts54 tz54 rfl rfl (by decide) (by decide) (by rfl) rfl ?_
  refine AL_append rfl rfl rfl te24 ts54 tz54 rfl tb54 (by decide) (by decide) rfl (by (simp; done)) (Src_sl rfl) (by simp only [lim]; (simp; omega)) _ rfl rfl ?_
  refine Za ?_
  refine Zn hK7 ?_
  refine AC_region ?_
  refine Zm ?_
  refine Ze (Ev_add rfl rfl _ (wrap_id (by omega) (by omega))) ?_
  refine Za ?_
  refine AL_nil ?_
  refine closeS (j + 1, out ++ [u]) [some 1] rfl rfl (by show cs.length - (j + 1) < cs.length - j; omega) ⟨hlt, ?_⟩ (BxTo_some rfl rfl rfl rfl (by exact VwL_app (by (simp [injCs]; done))) BxTo_nil) Sl_
  exact ⟨by rw [List.append_assoc, List.singleton_append, ← hdr]; exact hI, by simp; omega⟩
 ·have hj2 : j = cs.length := by
   have : ¬ j < cs.length := by simpa using hc1
   omega
  subst hj2
  rw [List.drop_length] at hI
  refine Zx hK3 ?_
  refine Zs fun _ hK8 => ?_
  refine Zm ?_
  refine Za ?_
  refine Zn hK8 ?_
  refine AC_ret ?_
  refine ret_ok hdm (.tmp rfl rfl .nil) (.cons (.ref trivial rfl rfl (by simp) (ReadsL_d _)) .nil) ?_
  rw [List.append_nil] at hI
  rw [← hI]
set_option maxHeartbeats 1000000 in
set_option maxRecDepth 4000 in
theorem c_clausesOf (d : Dbt) (p : ByteArray) (hb : bulkD d ≤ 1099511627776) : PCall Tryz.prog 54 [injD d, .c (.string p)] (· = [.sl LC (injCs (clsOf d.cs p))]) := by
 obtain ⟨cs, op⟩ := d
 obtain ⟨hnc, hbc, hno, hbo⟩ := bulkD_bd hb
 refine PCall_of (n := 27) Tryz.func54 rfl rfl (Nat.le_of_ble_eq_true rfl) fun C hdm hT0 => ?_
 have hT := hT0
 refine Zs fun _ hK1 => ?_
 refine AL_box (Lay.st [.one, .one]) (nf rfl) rfl (by rfl) _ rfl rfl ?_
 refine Za ?_
 refine Zn hK1 ?_
 refine Zs fun _ hK2 => ?_
 refine Za ?_
 refine Zn hK2 ?_
 refine AC_seq fun _ hK3 => ?_
 refine Zs fun _ hK4 => ?_
 refine Ya fa27_0 ?_
 refine Yl ts24 ta24 ?_
 refine AL_lim (x := (Operand.tmp 9)) rfl fun hl1 => ?_
 try simp only [injs_length, ints_length, strs_length, injCs_length, u8s_length, List.length_map] at hl1
 refine Ze (Ev_len_injCs te24 rfl) ?_
 refine Zm ?_
 refine Zn hK4 ?_
 refine AC_block ?_
 refine AC_loopS [1, 9, 10] (Nat × List Cl) (fun ⟨j, out⟩ => [(11, i64 j), (5, .ref LC 0 0 (injCs out).length)]) (fun ⟨j, out⟩ => [some ⟨54, LC, (injCs out).map V.d⟩]) (fun st => cs.length - st.1) (fun ⟨j, out⟩ => j ≤ cs.length ∧ (clsOf cs p = out ++ clsOf (cs.drop j) p ∧ out.length ≤ j)) ((0, [])) ?_ ?_ ?_
 ·refine Wk.then (Wk_nil_slot 5 54 LC rfl 1 rfl ?_)
  exact enterS [some 1] rfl rfl (BxTo_some rfl rfl rfl rfl (by exact .nil) BxTo_nil) Sl_
 ·exact ⟨Nat.zero_le _, by simp, by simp⟩
 rintro ⟨j, out⟩ ⟨hj, ⟨hI, ho⟩⟩
 show AC _ _ _ _ _ (FS [1, 9, 10] _ [(11, i64 j), (5, .ref LC 0 0 (injCs out).length)]) [some ⟨54, LC, (injCs out).map V.d⟩]
 refine Zs fun _ hK5 => ?_
 refine Ze (Ev_lss rfl rfl) ?_
 refine Zn hK5 ?_
 refine AC_seq fun _ hK6 => ?_
 refine Zc (fun hc1 => ?_) fun hc1 => ?_
 ·have hlt : j < cs.length := by simpa using hc1
  obtain ⟨u, hu⟩ : ∃ x, cs[j]? = some x := ⟨_, List.getElem?_eq_getElem hlt⟩
  have hu2 := injCs_get hu
  have hdr := drop_get hu
  obtain ⟨hbu, _, _⟩ := bulkCs_bd (List.mem_of_getElem? hu) hbc
  rw [hdr, clsOf] at hI
  refine Zk hK6 ?_
  refine AC_seq fun _ hK7 => ?_
  refine AC_block ?_
  refine Zs fun _ hK8 => ?_
  refine Yi te24 ts54 ?_
  refine YP ts54 ta54 ?_
  refine AL_alloc zo54 _ rfl rfl ?_
  refine Ys ts54 ?_
  refine Zn hK8 ?_
  refine Zs fun _ hK9 => ?_
  refine Ya fa54_0 ?_
  refine YL ts41 ta41 ?_
  refine AL_fcall0 hT rfl cl44 (c_predOf u.h (by omega)) rfl rfl ?_
  refine Zm ?_
  refine Ze (Ev_seql rfl rfl) ?_
  refine Zn hK9 ?_
  refine Zc (fun hc2 => ?_) fun hc2 => ?_
  ·refine AC_region ?_
   refine Zm ?_
   refine YL ts54 ta54 ?_
   refine AL_fcall0 hT rfl cl92 (c_copyClause u) rfl rfl ?_
   refine AL_bD (Lay.st [(Lay.st [.one, .one, .one, .one]), (Lay.st [.one, .one, .one, .one]), .one]) rfl te24 ts54 tz54 rfl rfl (by decide) (by decide) (by rfl) rfl ?_
   refine AL_append rfl rfl rfl te24 ts54 tz54 rfl tb54 (by decide) (by decide) rfl (by (simp; done)) (Src_sl rfl) (by simp only [lim]; (simp; omega)) _ rfl rfl ?_
   refine Za ?_
   refine Zn hK7 ?_
   refine AC_region ?_
   refine Ze (Ev_add rfl rfl _ (wrap_id (by omega) (by omega))) ?_
   refine Zm ?_
   refine AL_nil ?_
   refine closeS (j + 1, out ++ [u]) [some 2] rfl rfl (by show cs.length - (j + 1) < cs.length - j; omega) ⟨hlt, ?_⟩ (BxTo_some rfl rfl rfl rfl (by exact VwL_app (by (simp [injCs]; done))) BxTo_nil) Sl_
   exact ⟨by rw [hI, ite_dec hc2]; simp, by simp; omega⟩
  ·refine Zk hK7 ?_
   refine AC_region ?_
   refine Ze (Ev_add rfl rfl _ (wrap_id (by omega) (by omega))) ?_
   refine Zm ?_
   refine AL_nil ?_
   refine closeS (j + 1, out) [some 0] rfl rfl (by show cs.length - (j + 1) < cs.length - j; omega) ⟨hlt, ?_⟩ (BxTo_some rfl rfl rfl rfl (by exact VwL_dd (by rfl)) BxTo_nil) Sl_
   exact ⟨by rw [hI, ite_decn hc2], by omega⟩
 ·have hj2 : j = cs.length := by
   have : ¬ j < cs.length := by simpa using hc1
   omega
  subst hj2
  rw [List.drop_length] at hI
  refine Zx hK3 ?_
  refine Zs fun _ hK10 => ?_
  refine Zm ?_
  refine Za ?_
  refine Zn hK10 ?_
  refine AC_ret ?_
  refine ret_ok hdm (.tmp rfl rfl .nil) (.cons (.ref trivial rfl rfl (by simp) (ReadsL_d _)) .nil) ?_
  rw [clsOf, List.append_nil] at hI
  rw [hI]
set_option maxHeartbeats 1000000 in
set_option maxRecDepth 4000 in
theorem c_clausesRaw (d : Dbt) (p : ByteArray) (hb : bulkD d ≤ 1099511627776) : PCall Tryz.prog 89 [injD d, .c (.string p)] (· = [.sl LC (injCs (clsOf d.cs p))]) := by
 obtain ⟨cs, op⟩ := d
 obtain ⟨hnc, hbc, hno, hbo⟩ := bulkD_bd hb
 refine PCall_of (n := 33) Tryz.func89 rfl rfl (Nat.le_of_ble_eq_true rfl) fun C hdm hT0 => ?_
 have hT := hT0
 refine Zs fun _ hK1 => ?_
 refine AL_box (Lay.st [.one, .one]) (nf rfl) rfl (by rfl) _ rfl rfl ?_
 refine Za ?_
 refine Zn hK1 ?_
 refine Zs fun _ hK2 => ?_
 refine AL_bV (Lay.st [(Lay.st [.one, .one, .one, .one]), (Lay.st [.one, .one, .one, .one]), .one]) rfl te24 ts54 tz54 rfl rfl (by decide) (by decide) (by rfl) _ rfl rfl ?_
 refine Za ?_
 refine Zn hK2 ?_
 refine AC_seq fun _ hK3 => ?_
 refine Zs fun _ hK4 => ?_
 refine Za ?_
 refine Zn hK4 ?_
 refine AC_block ?_
 refine AC_loopS [1] (Nat × List Cl) (fun ⟨j, out⟩ => [(6, i64 j), (5, .ref LC 0 0 (injCs out).length), (2, .d (.rp (Lay.st [.one, .one]) (injD ⟨cs, op⟩) []))]) (fun ⟨j, out⟩ => [some ⟨54, LC, (injCs out).map V.d⟩]) (fun st => cs.length - st.1) (fun ⟨j, out⟩ => j ≤ cs.length ∧ (clsOf cs p = out ++ clsOf (cs.drop j) p ∧ out.length ≤ j)) ((0, [])) ?_ ?_ ?_
 ·exact enterS [some 1] rfl rfl (BxTo_some rfl rfl rfl rfl (by exact .nil) BxTo_nil) Sl_
 ·exact ⟨Nat.zero_le _, by simp, by simp⟩
 rintro ⟨j, out⟩ ⟨hj, ⟨hI, ho⟩⟩
 show AC _ _ _ _ _ (FS [1] _ [(6, i64 j), (5, .ref LC 0 0 (injCs out).length), (2, .d (.rp (Lay.st [.one, .one]) (injD ⟨cs, op⟩) []))]) [some ⟨54, LC, (injCs out).map V.d⟩]
 refine AC_seq fun _ hK5 => ?_
 refine Zs fun _ hK6 => ?_
 refine Zm ?_
 refine Yr fa27_0 ?_
 refine Yp ts24 ta24 ?_
 refine AL_lim (x := (Operand.tmp 10)) rfl fun hl1 => ?_
 try simp only [injs_length, ints_length, strs_length, injCs_length, u8s_length, List.length_map] at hl1
 refine Ze (Ev_len_injCs te24 rfl) ?_
 refine Ze (Ev_lss rfl rfl) ?_
 refine Zn hK6 ?_
 refine Zc (fun hc1 => ?_) fun hc1 => ?_
 ·have hlt : j < cs.length := by simpa using hc1
  obtain ⟨u, hu⟩ : ∃ x, cs[j]? = some x := ⟨_, List.getElem?_eq_getElem hlt⟩
  have hu2 := injCs_get hu
  have hdr := drop_get hu
  obtain ⟨hbu, _, _⟩ := bulkCs_bd (List.mem_of_getElem? hu) hbc
  rw [hdr, clsOf] at hI
  refine Zk hK5 ?_
  refine AC_seq fun _ hK7 => ?_
  refine AC_block ?_
  refine Zs fun _ hK8 => ?_
  refine Yr fa27_0 ?_
  refine Yp ts24 ta24 ?_
  refine Zm ?_
  refine Yi te24 ts54 ?_
  refine Yr fa54_0 ?_
  refine YP ts41 ta41 ?_
  refine AL_fcall0 hT rfl cl34 (c_specPredOf u.h (by omega)) rfl rfl ?_
  refine Zm ?_
  refine Ze (Ev_seql rfl rfl) ?_
  refine Zn hK8 ?_
  refine Zc (fun hc2 => ?_) fun hc2 => ?_
  ·refine AC_region ?_
   refine Zm ?_
   refine Yr fa27_0 ?_
   refine Yp ts24 ta24 ?_
   refine Zm ?_
   refine Yi te24 ts54 ?_
   refine YP ts54 ta54 ?_
   refine AL_bD (Lay.st [(Lay.st [.one, .one, .one, .one]), (Lay.st [.one, .one, .one, .one]), .one]) rfl te24 ts54 tz54 rfl rfl (by decide) (by decide) (by rfl) rfl ?_
   refine AL_append rfl rfl rfl te24 ts54 tz54 rfl tb54 (by decide) (by decide) rfl (by (simp; done)) (Src_sl rfl) (by simp only [lim]; (simp; omega)) _ rfl rfl ?_
   refine Za ?_
   refine Zn hK7 ?_
   refine AC_region ?_
   refine Zm ?_
   refine Ze (Ev_add rfl rfl _ (wrap_id (by omega) (by omega))) ?_
   refine Za ?_
   refine AL_nil ?_
   refine closeS (j + 1, out ++ [u]) [some 1] rfl rfl (by show cs.length - (j + 1) < cs.length - j; omega) ⟨hlt, ?_⟩ (BxTo_some rfl rfl rfl rfl (by exact VwL_app (by (simp [injCs]; done))) BxTo_nil) Sl_
   exact ⟨by rw [hI, ite_dec hc2]; simp, by simp; omega⟩
  ·refine Zk hK7 ?_
   refine AC_region ?_
   refine Zm ?_
   refine Ze (Ev_add rfl rfl _ (wrap_id (by omega) (by omega))) ?_
   refine Za ?_
   refine AL_nil ?_
   refine closeS (j + 1, out) [some 0] rfl rfl (by show cs.length - (j + 1) < cs.length - j; omega) ⟨hlt, ?_⟩ (BxTo_some rfl rfl rfl rfl (by exact VwL_dd (by rfl)) BxTo_nil) Sl_
   exact ⟨by rw [hI, ite_decn hc2], by omega⟩
 ·have hj2 : j = cs.length := by
   have : ¬ j < cs.length := by simpa using hc1
   omega
  subst hj2
  rw [List.drop_length] at hI
  refine Zx hK3 ?_
  refine Zs fun _ hK9 => ?_
  refine Zm ?_
  refine Za ?_
  refine Zn hK9 ?_
  refine AC_ret ?_
  refine ret_ok hdm (.tmp rfl rfl .nil) (.cons (.ref trivial rfl rfl (by simp) (ReadsL_d _)) .nil) ?_
  rw [clsOf, List.append_nil] at hI
  rw [hI]
set_option maxHeartbeats 1000000 in
set_option maxRecDepth 4000 in
theorem c_specClausesOf (d : Dbt) (p : ByteArray) (hb : bulkD d ≤ 1099511627776) : PCall Tryz.prog 51 [injD d, .c (.string p)] (· = [.sl LC (injCs (clsOf d.cs p))]) := by
 refine PCall_of (n := 11) Tryz.func51 rfl rfl (Nat.le_of_ble_eq_true rfl) fun C hdm hT0 => ?_
 have hT := hT0
 refine Zs fun _ hK1 => ?_
 refine AL_box (Lay.st [.one, .one]) (nf rfl) rfl (by rfl) _ rfl rfl ?_
 refine Za ?_
 refine Zn hK1 ?_
 refine Zs fun _ hK2 => ?_
 refine YL ts27 ta27 ?_
 refine Zm ?_
 refine AL_fcall0 hT rfl cl89 (c_clausesRaw d p hb) rfl rfl ?_
 refine Za ?_
 refine Zn hK2 ?_
 refine Zs fun _ hK3 => ?_
 refine Zm ?_
 refine AL_fcall0 hT rfl cl90 (c_l34Clauses (clsOf d.cs p)) rfl rfl ?_
 refine Za ?_
 refine Zn hK3 ?_
 refine AC_ret ?_
 exact Zr hdm rfl
set_option maxHeartbeats 1000000 in
set_option maxRecDepth 4000 in
theorem c_callsOf (d : Dbt) (p : ByteArray) (hb : bulkD d ≤ 1048576) : OCall Tryz.prog 19 [injD d, .c (.string p)] (.sl .one (strs (callsOf d p))) := by
 have hcl := callsOf_len d p
 have hw := wC_bulk d.cs
 have hw2 := wC_clsOf d.cs p
 obtain ⟨hnc, hbc, hno, hbo⟩ := bulkD_bd (cs := d.cs) (op := d.op) hb
 have hmem := fun c (h : c ∈ clsOf d.cs p) => bulkCs_bd (clsOf_mem h) hbc
 have hll := clsOf_len d.cs p
 obtain ⟨xs, hxs⟩ : ∃ xs, xs = clsOf d.cs p := ⟨_, rfl⟩
 unfold callsOf at hcl ⊢
 rw [← hxs] at hcl hw2 hmem hll ⊢
 refine OCall_of (n := 32) Tryz.func19 rfl rfl (Nat.le_of_ble_eq_true rfl) fun C0 hdm hT0 => ?_
 have hX0 := CExt.refl C0
 have hT := hT0
 refine Zs fun _ hK1 => ?_
 refine AL_box (Lay.st [.one, .one]) (nf rfl) rfl (by rfl) _ rfl rfl ?_
 refine Za ?_
 refine Zn hK1 ?_
 refine Zs fun _ hK2 => ?_
 refine Za ?_
 refine Zn hK2 ?_
 refine AC_seq fun _ hK3 => ?_
 refine Zs fun _ hK4 => ?_
 refine YL ts27 ta27 ?_
 refine Zm ?_
 refine AL_fcall0 hT rfl cl54 (hxs ▸ c_clausesOf d p (by omega)) rfl rfl ?_
 refine AL_lim (x := (Operand.tmp 12)) rfl fun hl1 => ?_
 try simp only [injs_length, ints_length, strs_length, injCs_length, u8s_length, List.length_map] at hl1
 refine Ze (Ev_len_injCs te24 rfl) ?_
 refine Zm ?_
 refine Zn hK4 ?_
 refine AC_block ?_
 refine AC_loopS [12, 13] (Nat × List ByteArray) (fun ⟨j, out⟩ => [(14, i64 j), (5, .ref .one 0 0 (strs out).length)]) (fun ⟨j, out⟩ => [some ⟨9, .one, (strs out).map V.d⟩]) (fun st => xs.length - st.1) (fun ⟨j, out⟩ => j ≤ xs.length ∧ (callsL xs [] = callsL (xs.drop j) out ∧ out.length + wC (xs.drop j) ≤ 2097152)) ((0, [])) ?_ ?_ ?_
 ·refine Wk.then (Wk_nil_slot 5 9 .one rfl 1 rfl ?_)
  exact enterS [some 1] rfl rfl (BxTo_some rfl rfl rfl rfl (by exact .nil) BxTo_nil) Sl_
 ·exact ⟨Nat.zero_le _, by simp, by simp; omega⟩
 rintro ⟨j, out⟩ ⟨hj, ⟨hI, ho⟩⟩
 show AC _ _ _ _ _ (FS [12, 13] _ [(14, i64 j), (5, .ref .one 0 0 (strs out).length)]) [some ⟨9, .one, (strs out).map V.d⟩]
 refine Zs fun _ hK5 => ?_
 refine Ze (Ev_lss rfl rfl) ?_
 refine Zn hK5 ?_
 refine AC_seq fun _ hK6 => ?_
 refine Zc (fun hc1 => ?_) fun hc1 => ?_
 ·have hlt : j < xs.length := by simpa using hc1
  obtain ⟨u, hu⟩ : ∃ x, xs[j]? = some x := ⟨_, List.getElem?_eq_getElem hlt⟩
  have hu2 := injCs_get hu
  have hdr := drop_get hu
  obtain ⟨_, hbu, _⟩ := hmem u (List.mem_of_getElem? hu)
  rw [hdr] at hI ho
  rw [callsL] at hI
  rw [wC] at ho
  refine Zk hK6 ?_
  refine AC_seq fun _ hK7 => ?_
  refine AC_block ?_
  refine Zs fun _ hK8 => ?_
  refine Yi te24 ts54 ?_
  refine YP ts54 ta54 ?_
  refine AL_alloc zo54 _ rfl rfl ?_
  refine Ys ts54 ?_
  refine Zn hK8 ?_
  refine Zs fun _ hK9 => ?_
  refine Ya fa54_1 ?_
  refine YL ts41 ta41 ?_
  refine AL_fcall0 hT rfl cl27 ((c_callsIn u.b (by omega)).pcall) rfl rfl ?_
  refine AL_lim (x := (Operand.tmp 20)) rfl fun hl2 => ?_
  try simp only [injs_length, ints_length, strs_length, injCs_length, u8s_length, List.length_map] at hl2
  refine Ze (Ev_len_strs te25 rfl) ?_
  refine Zm ?_
  refine Zn hK9 ?_
  refine AC_block ?_
  refine AC_loopS [12, 13, 14, 20, 21] (Nat × List ByteArray) (fun ⟨i, ou2⟩ => [(22, i64 i), (5, .ref .one 0 0 (strs ou2).length)]) (fun ⟨i, ou2⟩ => [some ⟨9, .one, (strs ou2).map V.d⟩]) (fun st => (callsIn u.b).length - st.1) (fun ⟨i, ou2⟩ => i ≤ (callsIn u.b).length ∧ (addAll out (callsIn u.b) = addAll ou2 ((callsIn u.b).drop i) ∧ ou2.length + ((callsIn u.b).drop i).length + wC (xs.drop (j + 1)) ≤ 2097152)) ((0, out)) ?_ ?_ ?_
  ·exact enterS [some 0] rfl rfl (BxTo_some rfl rfl rfl rfl (by exact VwL_dd (by rfl)) BxTo_nil) Sl_
  ·exact ⟨Nat.zero_le _, by simp, by simp; omega⟩
  rintro ⟨i, ou2⟩ ⟨hj, ⟨hI2, ho2⟩⟩
  show AC _ _ _ _ _ (FS [12, 13, 14, 20, 21] _ [(22, i64 i), (5, .ref .one 0 0 (strs ou2).length)]) [some ⟨9, .one, (strs ou2).map V.d⟩]
  refine Zs fun _ hK10 => ?_
  refine Ze (Ev_lss rfl rfl) ?_
  refine Zn hK10 ?_
  refine AC_seq fun _ hK11 => ?_
  refine Zc (fun hc2 => ?_) fun hc2 => ?_
  ·have hlt : i < (callsIn u.b).length := by simpa using hc2
   obtain ⟨v, hu⟩ : ∃ x, (callsIn u.b)[i]? = some x := ⟨_, List.getElem?_eq_getElem hlt⟩
   have hu2 := strs_get hu
   have hdr := drop_get hu
   rw [hdr] at hI2 ho2
   rw [addAll] at hI2
   rw [List.length_cons] at ho2
   have hol := onceL_len ou2 v
   refine Zk hK11 ?_
   refine AC_seq fun _ hK12 => ?_
   refine AC_block ?_
   refine Zs fun _ hK13 => ?_
   refine Yi te25 ts9 ?_
   refine Yp ts9 ta9 ?_
   refine Za ?_
   refine Zn hK13 ?_
   refine AC_region ?_
   iterate 2 refine Zm ?_
   refine AL_bcall hT _ _ [] rfl cl52 rfl rfl rfl rfl (c_once ou2 v (by omega)) rfl rfl (by rfl) _ rfl rfl ?_
   refine Za ?_
   refine Zn hK12 ?_
   refine AC_region ?_
   refine Ze (Ev_add rfl rfl _ (wrap_id (by omega) (by omega))) ?_
   refine Zm ?_
   refine AL_nil ?_
   refine closeS (i + 1, onceL ou2 v) [some 1] rfl rfl (by show (callsIn u.b).length - (i + 1) < (callsIn u.b).length - i; omega) ⟨hlt, ?_⟩ (BxTo_some rfl rfl rfl rfl (by exact VwL_dd (by rfl)) BxTo_nil) Sl_
   exact ⟨hI2, by omega⟩
  ·have hj2 : i = (callsIn u.b).length := by
    have : ¬ i < (callsIn u.b).length := by simpa using hc2
    omega
   subst hj2
   refine Zx hK7 ?_
   refine AC_region ?_
   refine Ze (Ev_add rfl rfl _ (wrap_id (by omega) (by omega))) ?_
   refine Zm ?_
   refine AL_nil ?_
   refine closeS (j + 1, ou2) [some 0] rfl rfl (by show xs.length - (j + 1) < xs.length - j; omega) ⟨hlt, ?_⟩ (BxTo_some rfl rfl rfl rfl (by exact VwL_dd (by rfl)) BxTo_nil) Sl_
   rw [List.drop_length, addAll] at hI2
   rw [List.drop_length] at ho2
   exact ⟨by rw [hI, hI2], by simp at ho2; omega⟩
 ·have hj2 : j = xs.length := by
   have : ¬ j < xs.length := by simpa using hc1
   omega
  subst hj2
  rw [List.drop_length] at hI
  refine Zx hK3 ?_
  refine Zs fun _ hK14 => ?_
  refine Zm ?_
  refine Za ?_
  refine Zn hK14 ?_
  refine AC_ret ?_
  rw [callsL] at hI
  rw [hI]
  refine reto_ok hX0 hdm (.tmp rfl rfl .nil) (.ref rfl rfl (by simp) (OwVs_strs (by simp)) (by simp)) rfl rfl
set_option maxHeartbeats 1000000 in
set_option maxRecDepth 4000 in
theorem c_specCallsOf (d : Dbt) (p : ByteArray) (hb : bulkD d ≤ 1048576) : PCall Tryz.prog 14 [injD d, .c (.string p)] (· = [.sl .one (strs (callsOf d p))]) := by
 have hcl := callsOf_len d p
 have hw := wC_bulk d.cs
 have hw2 := wC_clsOf d.cs p
 obtain ⟨hnc, hbc, hno, hbo⟩ := bulkD_bd (cs := d.cs) (op := d.op) hb
 have hmem := fun c (h : c ∈ clsOf d.cs p) => bulkCs_bd (clsOf_mem h) hbc
 have hll := clsOf_len d.cs p
 obtain ⟨xs, hxs⟩ : ∃ xs, xs = clsOf d.cs p := ⟨_, rfl⟩
 unfold callsOf at hcl ⊢
 rw [← hxs] at hcl hw2 hmem hll ⊢
 refine PCall_of (n := 39) Tryz.func14 rfl rfl (Nat.le_of_ble_eq_true rfl) fun C hdm hT0 => ?_
 have hT := hT0
 refine Zs fun _ hK1 => ?_
 refine AL_box (Lay.st [.one, .one]) (nf rfl) rfl (by rfl) _ rfl rfl ?_
 refine Za ?_
 refine Zn hK1 ?_
 refine Zs fun _ hK2 => ?_
 refine AL_bD .one rfl te25 ts9 tz9 rfl rfl (by decide) (by decide) (by rfl) rfl ?_
 refine Za ?_
 refine Zn hK2 ?_
 refine Zs fun _ hK3 => ?_
 refine YL ts27 ta27 ?_
 refine Zm ?_
 refine AL_fcall0 hT rfl cl51 (hxs ▸ c_specClausesOf d p (by omega)) rfl rfl ?_
 refine Za ?_
 refine Zn hK3 ?_
 refine AC_seq fun _ hK4 => ?_
 refine Zs fun _ hK5 => ?_
 refine Za ?_
 refine Zn hK5 ?_
 refine AC_block ?_
 refine AC_loopS [6] (Nat × List ByteArray) (fun ⟨j, out⟩ => [(7, i64 j), (5, .d (.sl .one (strs out)))]) (fun ⟨j, out⟩ => []) (fun st => xs.length - st.1) (fun ⟨j, out⟩ => j ≤ xs.length ∧ (callsL xs [] = callsL (xs.drop j) out ∧ out.length + wC (xs.drop j) ≤ 2097152)) ((0, [])) ?_ ?_ ?_
 ·exact enterS [] rfl rfl BxTo_nil Sl_
 ·exact ⟨Nat.zero_le _, by simp, by simp; omega⟩
 rintro ⟨j, out⟩ ⟨hj, ⟨hI, ho⟩⟩
 show AC _ _ _ _ _ (FS [6] _ [(7, i64 j), (5, .d (.sl .one (strs out)))]) []
 refine AC_seq fun _ hK6 => ?_
 refine Zs fun _ hK7 => ?_
 iterate 2 refine Zm ?_
 refine AL_lim (x := (Operand.tmp 15)) rfl fun hl1 => ?_
 try simp only [injs_length, ints_length, strs_length, injCs_length, u8s_length, List.length_map] at hl1
 refine Ze (Ev_len_injCs te24 rfl) ?_
 refine Ze (Ev_lss rfl rfl) ?_
 refine Zn hK7 ?_
 refine Zc (fun hc1 => ?_) fun hc1 => ?_
 ·have hlt : j < xs.length := by simpa using hc1
  obtain ⟨u, hu⟩ : ∃ x, xs[j]? = some x := ⟨_, List.getElem?_eq_getElem hlt⟩
  have hu2 := injCs_get hu
  have hdr := drop_get hu
  obtain ⟨_, hbu, _⟩ := hmem u (List.mem_of_getElem? hu)
  rw [hdr] at hI ho
  rw [callsL] at hI
  rw [wC] at ho
  refine Zk hK6 ?_
  refine AC_seq fun _ hK8 => ?_
  refine AC_block ?_
  refine Zs fun _ hK9 => ?_
  iterate 2 refine Zm ?_
  refine Yi te24 ts54 ?_
  refine Yr fa54_1 ?_
  refine YP ts41 ta41 ?_
  refine AL_fcall0 hT rfl cl28 (c_specCallsIn u.b (by omega)) rfl rfl ?_
  refine Za ?_
  refine Zn hK9 ?_
  refine Zs fun _ hK10 => ?_
  refine Za ?_
  refine Zn hK10 ?_
  refine AC_block ?_
  refine AC_loopS [6, 7, 8] (Nat × List ByteArray) (fun ⟨i, ou2⟩ => [(9, i64 i), (5, .d (.sl .one (strs ou2)))]) (fun ⟨i, ou2⟩ => []) (fun st => (callsIn u.b).length - st.1) (fun ⟨i, ou2⟩ => i ≤ (callsIn u.b).length ∧ (addAll out (callsIn u.b) = addAll ou2 ((callsIn u.b).drop i) ∧ ou2.length + ((callsIn u.b).drop i).length + wC (xs.drop (j + 1)) ≤ 2097152)) ((0, out)) ?_ ?_ ?_
  ·exact enterS [] rfl rfl BxTo_nil Sl_
  ·exact ⟨Nat.zero_le _, by simp, by simp; omega⟩
  rintro ⟨i, ou2⟩ ⟨hj, ⟨hI2, ho2⟩⟩
  show AC _ _ _ _ _ (FS [6, 7, 8] _ [(9, i64 i), (5, .d (.sl .one (strs ou2)))]) []
  refine AC_seq fun _ hK11 => ?_
  refine Zs fun _ hK12 => ?_
  iterate 2 refine Zm ?_
  refine AL_lim (x := (Operand.tmp 27)) rfl fun hl2 => ?_
  try simp only [injs_length, ints_length, strs_length, injCs_length, u8s_length, List.length_map] at hl2
  refine Ze (Ev_len_strs te25 rfl) ?_
  refine Ze (Ev_lss rfl rfl) ?_
  refine Zn hK12 ?_
  refine Zc (fun hc2 => ?_) fun hc2 => ?_
  ·have hlt : i < (callsIn u.b).length := by simpa using hc2
   obtain ⟨v, hu⟩ : ∃ x, (callsIn u.b)[i]? = some x := ⟨_, List.getElem?_eq_getElem hlt⟩
   have hu2 := strs_get hu
   have hdr := drop_get hu
   rw [hdr] at hI2 ho2
   rw [addAll] at hI2
   rw [List.length_cons] at ho2
   have hol := onceL_len ou2 v
   refine Zk hK11 ?_
   refine AC_seq fun _ hK13 => ?_
   refine AC_block ?_
   refine AC_region ?_
   iterate 3 refine Zm ?_
   refine Yi te25 ts9 ?_
   refine Yp ts9 ta9 ?_
   refine AL_fcall0 hT rfl cl41 (c_l23Add ou2 v (by omega)) rfl rfl ?_
   refine Za ?_
   refine Zn hK13 ?_
   refine AC_region ?_
   refine Zm ?_
   refine Ze (Ev_add rfl rfl _ (wrap_id (by omega) (by omega))) ?_
   refine Za ?_
   refine AL_nil ?_
   refine closeS (i + 1, onceL ou2 v) [] rfl rfl (by show (callsIn u.b).length - (i + 1) < (callsIn u.b).length - i; omega) ⟨hlt, ?_⟩ BxTo_nil Sl_
   exact ⟨hI2, by omega⟩
  ·have hj2 : i = (callsIn u.b).length := by
    have : ¬ i < (callsIn u.b).length := by simpa using hc2
    omega
   subst hj2
   refine Zx hK8 ?_
   refine AC_region ?_
   refine Zm ?_
   refine Ze (Ev_add rfl rfl _ (wrap_id (by omega) (by omega))) ?_
   refine Za ?_
   refine AL_nil ?_
   refine closeS (j + 1, ou2) [] rfl rfl (by show xs.length - (j + 1) < xs.length - j; omega) ⟨hlt, ?_⟩ BxTo_nil Sl_
   rw [List.drop_length, addAll] at hI2
   rw [List.drop_length] at ho2
   exact ⟨by rw [hI, hI2], by simp at ho2; omega⟩
 ·have hj2 : j = xs.length := by
   have : ¬ j < xs.length := by simpa using hc1
   omega
  subst hj2
  rw [List.drop_length] at hI
  refine Zx hK4 ?_
  refine Zs fun _ hK14 => ?_
  refine Zm ?_
  refine Za ?_
  refine Zn hK14 ?_
  refine AC_ret ?_
  refine Zr hdm ?_
  rw [callsL] at hI
  rw [hI]
end Go.Proofs.YtjgliechbnommaaGreatDoor
set_option linter.unusedVariables false
set_option linter.unusedSimpArgs false
namespace Go.Proofs.YtjgliechbnommaaGreatDoor
open Go.Eng
theorem cl14 : Callable Tryz.prog 14 := Zq Tryz.func14
theorem cl19 : Callable Tryz.prog 19 := Zq Tryz.func19
set_option maxHeartbeats 1000000 in
set_option maxRecDepth 4000 in
theorem c_callsOfN (d : Dbt) (p : ByteArray) (hb : bulkD d ≤ 1048576) : NCall Tryz.prog 19 [injD d, .c (.string p)] 9 (callsOf d p) := by
 have hcl := callsOf_len d p
 have hw := wC_bulk d.cs
 have hw2 := wC_clsOf d.cs p
 obtain ⟨hnc, hbc, hno, hbo⟩ := bulkD_bd (cs := d.cs) (op := d.op) hb
 have hmem := fun c (h : c ∈ clsOf d.cs p) => bulkCs_bd (clsOf_mem h) hbc
 have hll := clsOf_len d.cs p
 obtain ⟨xs, hxs⟩ : ∃ xs, xs = clsOf d.cs p := ⟨_, rfl⟩
 unfold callsOf at hcl ⊢
 rw [← hxs] at hcl hw2 hmem hll ⊢
 refine NCall_of (n := 32) Tryz.func19 rfl rfl (Nat.le_of_ble_eq_true rfl) fun C hdm hT => ?_
 refine Zs fun _ hK1 => ?_
 refine AL_box (Lay.st [.one, .one]) (nf rfl) rfl (by rfl) _ rfl rfl ?_
 refine Za ?_
 refine Zn hK1 ?_
 refine Zs fun _ hK2 => ?_
 refine Za ?_
 refine Zn hK2 ?_
 refine AC_seq fun _ hK3 => ?_
 refine Zs fun _ hK4 => ?_
 refine YL ts27 ta27 ?_
 refine Zm ?_
 refine AL_fcall0 hT rfl cl54 (hxs ▸ c_clausesOf d p (by omega)) rfl rfl ?_
 refine AL_lim (x := (Operand.tmp 12)) rfl fun hl1 => ?_
 try simp only [injs_length, ints_length, strs_length, injCs_length, u8s_length, List.length_map] at hl1
 refine Ze (Ev_len_injCs te24 rfl) ?_
 refine Zm ?_
 refine Zn hK4 ?_
 refine AC_block ?_
 refine AC_loopS [12, 13] (Nat × List ByteArray) (fun ⟨j, out⟩ => [(14, i64 j), (5, .ref .one 0 0 (strs out).length)]) (fun ⟨j, out⟩ => [some ⟨9, .one, (strs out).map V.d⟩]) (fun st => xs.length - st.1) (fun ⟨j, out⟩ => j ≤ xs.length ∧ (callsL xs [] = callsL (xs.drop j) out ∧ out.length + wC (xs.drop j) ≤ 2097152)) ((0, [])) ?_ ?_ ?_
 ·refine Wk.then (Wk_nil_slot 5 9 .one rfl 1 rfl ?_)
  exact enterS [some 1] rfl rfl (BxTo_some rfl rfl rfl rfl (by exact .nil) BxTo_nil) Sl_
 ·exact ⟨Nat.zero_le _, by simp, by simp; omega⟩
 rintro ⟨j, out⟩ ⟨hj, ⟨hI, ho⟩⟩
 show AC _ _ _ _ _ (FS [12, 13] _ [(14, i64 j), (5, .ref .one 0 0 (strs out).length)]) [some ⟨9, .one, (strs out).map V.d⟩]
 refine Zs fun _ hK5 => ?_
 refine Ze (Ev_lss rfl rfl) ?_
 refine Zn hK5 ?_
 refine AC_seq fun _ hK6 => ?_
 refine Zc (fun hc1 => ?_) fun hc1 => ?_
 ·have hlt : j < xs.length := by simpa using hc1
  obtain ⟨u, hu⟩ : ∃ x, xs[j]? = some x := ⟨_, List.getElem?_eq_getElem hlt⟩
  have hu2 := injCs_get hu
  have hdr := drop_get hu
  obtain ⟨_, hbu, _⟩ := hmem u (List.mem_of_getElem? hu)
  rw [hdr] at hI ho
  rw [callsL] at hI
  rw [wC] at ho
  refine Zk hK6 ?_
  refine AC_seq fun _ hK7 => ?_
  refine AC_block ?_
  refine Zs fun _ hK8 => ?_
  refine Yi te24 ts54 ?_
  refine YP ts54 ta54 ?_
  refine AL_alloc zo54 _ rfl rfl ?_
  refine Ys ts54 ?_
  refine Zn hK8 ?_
  refine Zs fun _ hK9 => ?_
  refine Ya fa54_1 ?_
  refine YL ts41 ta41 ?_
  refine AL_fcall0 hT rfl cl27 ((c_callsIn u.b (by omega)).pcall) rfl rfl ?_
  refine AL_lim (x := (Operand.tmp 20)) rfl fun hl2 => ?_
  try simp only [injs_length, ints_length, strs_length, injCs_length, u8s_length, List.length_map] at hl2
  refine Ze (Ev_len_strs te25 rfl) ?_
  refine Zm ?_
  refine Zn hK9 ?_
  refine AC_block ?_
  refine AC_loopS [12, 13, 14, 20, 21] (Nat × List ByteArray) (fun ⟨i, ou2⟩ => [(22, i64 i), (5, .ref .one 0 0 (strs ou2).length)]) (fun ⟨i, ou2⟩ => [some ⟨9, .one, (strs ou2).map V.d⟩]) (fun st => (callsIn u.b).length - st.1) (fun ⟨i, ou2⟩ => i ≤ (callsIn u.b).length ∧ (addAll out (callsIn u.b) = addAll ou2 ((callsIn u.b).drop i) ∧ ou2.length + ((callsIn u.b).drop i).length + wC (xs.drop (j + 1)) ≤ 2097152)) ((0, out)) ?_ ?_ ?_
  ·exact enterS [some 0] rfl rfl (BxTo_some rfl rfl rfl rfl (by exact VwL_dd (by rfl)) BxTo_nil) Sl_
  ·exact ⟨Nat.zero_le _, by simp, by simp; omega⟩
  rintro ⟨i, ou2⟩ ⟨hj, ⟨hI2, ho2⟩⟩
  show AC _ _ _ _ _ (FS [12, 13, 14, 20, 21] _ [(22, i64 i), (5, .ref .one 0 0 (strs ou2).length)]) [some ⟨9, .one, (strs ou2).map V.d⟩]
  refine Zs fun _ hK10 => ?_
  refine Ze (Ev_lss rfl rfl) ?_
  refine Zn hK10 ?_
  refine AC_seq fun _ hK11 => ?_
  refine Zc (fun hc2 => ?_) fun hc2 => ?_
  ·have hlt : i < (callsIn u.b).length := by simpa using hc2
   obtain ⟨v, hu⟩ : ∃ x, (callsIn u.b)[i]? = some x := ⟨_, List.getElem?_eq_getElem hlt⟩
   have hu2 := strs_get hu
   have hdr := drop_get hu
   rw [hdr] at hI2 ho2
   rw [addAll] at hI2
   rw [List.length_cons] at ho2
   have hol := onceL_len ou2 v
   refine Zk hK11 ?_
   refine AC_seq fun _ hK12 => ?_
   refine AC_block ?_
   refine Zs fun _ hK13 => ?_
   refine Yi te25 ts9 ?_
   refine Yp ts9 ta9 ?_
   refine Za ?_
   refine Zn hK13 ?_
   refine AC_region ?_
   iterate 2 refine Zm ?_
   refine AL_bcall hT _ _ [] rfl cl52 rfl rfl rfl rfl (c_once ou2 v (by omega)) rfl rfl (by rfl) _ rfl rfl ?_
   refine Za ?_
   refine Zn hK12 ?_
   refine AC_region ?_
   refine Ze (Ev_add rfl rfl _ (wrap_id (by omega) (by omega))) ?_
   refine Zm ?_
   refine AL_nil ?_
   refine closeS (i + 1, onceL ou2 v) [some 1] rfl rfl (by show (callsIn u.b).length - (i + 1) < (callsIn u.b).length - i; omega) ⟨hlt, ?_⟩ (BxTo_some rfl rfl rfl rfl (by exact VwL_dd (by rfl)) BxTo_nil) Sl_
   exact ⟨hI2, by omega⟩
  ·have hj2 : i = (callsIn u.b).length := by
    have : ¬ i < (callsIn u.b).length := by simpa using hc2
    omega
   subst hj2
   refine Zx hK7 ?_
   refine AC_region ?_
   refine Ze (Ev_add rfl rfl _ (wrap_id (by omega) (by omega))) ?_
   refine Zm ?_
   refine AL_nil ?_
   refine closeS (j + 1, ou2) [some 0] rfl rfl (by show xs.length - (j + 1) < xs.length - j; omega) ⟨hlt, ?_⟩ (BxTo_some rfl rfl rfl rfl (by exact VwL_dd (by rfl)) BxTo_nil) Sl_
   rw [List.drop_length, addAll] at hI2
   rw [List.drop_length] at ho2
   exact ⟨by rw [hI, hI2], by simp at ho2; omega⟩
 ·have hj2 : j = xs.length := by
   have : ¬ j < xs.length := by simpa using hc1
   omega
  subst hj2
  rw [List.drop_length] at hI
  refine Zx hK3 ?_
  refine Zs fun _ hK14 => ?_
  refine Zm ?_
  refine Za ?_
  refine Zn hK14 ?_
  refine AC_ret ?_
  rw [callsL] at hI
  rw [hI]
  exact retn_ok hdm (.tmp rfl rfl .nil) rfl (by rfl) (by simp)
set_option maxHeartbeats 1000000 in
set_option maxRecDepth 4000 in
theorem c_reachedFromN (d : Dbt) (p : ByteArray) (hb : bulkD d ≤ 1048576) : NCall Tryz.prog 18 [injD d, .c (.string p)] 9 (reachedFrom d p) := by
 have hw := wC_bulk d.cs
 obtain ⟨hnc, hbc, hno, hbo⟩ := bulkD_bd (cs := d.cs) (op := d.op) hb
 have hst := OkR.start d p
 refine NCall_of (n := 34) Tryz.func18 rfl rfl (Nat.le_of_ble_eq_true rfl) fun C hdm hT => ?_
 refine Zs fun _ hK1 => ?_
 refine AL_box (Lay.st [.one, .one]) (nf rfl) rfl (by rfl) _ rfl rfl ?_
 refine Za ?_
 refine Zn hK1 ?_
 refine Zs fun _ hK2 => ?_
 refine YL ts27 ta27 ?_
 refine Zm ?_
 refine AL_nlcall hT rfl cl19 (c_callsOfN d p hb) rfl _ rfl rfl ?_
 refine Za ?_
 refine Zn hK2 ?_
 refine AC_seq fun _ hK3 => ?_
 refine Zs fun _ hK4 => ?_
 refine Za ?_
 refine Zn hK4 ?_
 refine AC_block ?_
 refine AC_loopS [] (Nat × List ByteArray) (fun ⟨i, out⟩ => [(6, i64 i), (5, .ref .one 0 0 (strs out).length), (2, .d (.rp (Lay.st [.one, .one]) (injD d) []))]) (fun ⟨i, out⟩ => [some ⟨9, .one, (strs out).map V.d⟩]) (fun st => wC d.cs + 1 - st.1) (fun ⟨i, out⟩ => (reachedFrom d p = reachG d (wC d.cs - i) i out ∧ OkR d out ∧ i ≤ out.length)) ((0, callsOf d p)) ?_ ?_ ?_
 ·exact enterS [some 2] rfl rfl (BxTo_some rfl rfl rfl rfl (by exact VwL_dd (by rfl)) BxTo_nil) Sl_
 ·exact ⟨rfl, hst, Nat.zero_le _⟩
 rintro ⟨i, out⟩ ⟨hI, hK, hi⟩
 show AC _ _ _ _ _ (FS [] _ [(6, i64 i), (5, .ref .one 0 0 (strs out).length), (2, .d (.rp (Lay.st [.one, .one]) (injD d) []))]) [some ⟨9, .one, (strs out).map V.d⟩]
 have hKl := hK.len
 refine AC_seq fun _ hK5 => ?_
 refine Zs fun _ hK6 => ?_
 iterate 2 refine Zm ?_
 refine AL_limB (x := (Operand.tmp 13)) rfl rfl (by (simp; done)) fun hl1 => ?_
 try simp only [injs_length, ints_length, strs_length, injCs_length, u8s_length, List.length_map] at hl1
 refine Ze (Ev_len_ref te25 rfl) ?_
 refine Ze (Ev_lss rfl rfl) ?_
 refine Zn hK6 ?_
 refine Zc (fun hc1 => ?_) fun hc1 => ?_
 ·have hlt0 : i < out.length := by simpa using hc1
  have hcu := fun u => callsOf_len d u
  obtain ⟨u, hou⟩ : ∃ u, out[i]? = some u := ⟨_, List.getElem?_eq_getElem hlt0⟩
  have hu2 := strs_get hou
  have hcu := hcu u
  have hes : ((strs out).map V.d)[0 + ((i : Nat) : Int).toNat]? = some (.d (.c (.string u))) := by rw [Int.toNat_natCast, Nat.zero_add, List.getElem?_map, hu2]; rfl
  refine Zk hK5 ?_
  refine AC_seq fun _ hK7 => ?_
  refine AC_block ?_
  refine AC_seq fun _ hK8 => ?_
  refine AC_draw hT follows [0, 1, 2, 3, 4, 5, 6, 7] (by kernel_rfl) ?_
  refine DT_ev rfl (EA_load_rp rfl rfl rfl ts27 ta27 (by rfl) (by intro h; cases h)) rfl ?_
  refine DT_ev rfl (EA_move) rfl ?_
  refine DT_ev rfl (EA_move) rfl ?_
  refine DT_ev rfl (EA_ix_ref rfl rfl te25 ts9 (by omega) (by (simp; omega))) rfl ?_
  refine DT_ev rfl (EA_load_ptr rfl rfl rfl hes rfl rfl ts9 ta9 rfl (fun _ => rfl)) rfl ?_
  refine DT_fcall0 rfl rfl cl19 ((c_callsOf d u hb).pcall) rfl rfl ?_
  refine DT_ev rfl (EA_len_strs te25 rfl) rfl ?_
  refine DT_ev rfl (EA_move) rfl ?_
  refine Zd hK8 ?_
  refine AC_block ?_
  refine AC_loopS [2, 6, 23, 24] (Nat × List ByteArray) (fun ⟨j, ou2⟩ => [(25, i64 j), (5, .ref .one 0 0 (strs ou2).length)]) (fun ⟨j, ou2⟩ => [some ⟨9, .one, (strs ou2).map V.d⟩]) (fun st => (callsOf d u).length - st.1) (fun ⟨j, ou2⟩ => j ≤ (callsOf d u).length ∧ (addAll out (callsOf d u) = addAll ou2 ((callsOf d u).drop j) ∧ OkR d ou2 ∧ out.length ≤ ou2.length)) ((0, out)) ?_ ?_ ?_
  ·exact enterS [some 0] rfl rfl (BxTo_some rfl rfl rfl rfl (by exact VwL_dd (by rfl)) BxTo_nil) Sl_
  ·exact ⟨Nat.zero_le _, by simp, hK, Nat.le_refl _⟩
  rintro ⟨j, ou2⟩ ⟨hj, ⟨hI2, hK2, ho2⟩⟩
  show AC _ _ _ _ _ (FS [2, 6, 23, 24] _ [(25, i64 j), (5, .ref .one 0 0 (strs ou2).length)]) [some ⟨9, .one, (strs ou2).map V.d⟩]
  refine Zs fun _ hK9 => ?_
  refine Ze (Ev_lss rfl rfl) ?_
  refine Zn hK9 ?_
  refine AC_seq fun _ hK10 => ?_
  refine Zc (fun hc2 => ?_) fun hc2 => ?_
  ·have hlt : j < (callsOf d u).length := by simpa using hc2
   obtain ⟨v, hu⟩ : ∃ x, (callsOf d u)[j]? = some x := ⟨_, List.getElem?_eq_getElem hlt⟩
   have hu2 := strs_get hu
   have hdr := drop_get hu
   rw [hdr] at hI2
   rw [addAll] at hI2
   have hKl2 := hK2.len
   have hol : ou2.length ≤ (onceL ou2 v).length := by unfold onceL; split <;> simp
   refine Zk hK10 ?_
   refine AC_seq fun _ hK11 => ?_
   refine AC_block ?_
   refine Zs fun _ hK12 => ?_
   refine Yi te25 ts9 ?_
   refine Yp ts9 ta9 ?_
   refine Za ?_
   refine Zn hK12 ?_
   refine AC_region ?_
   iterate 2 refine Zm ?_
   refine AL_bcall hT _ _ [] rfl cl52 rfl rfl rfl rfl (c_once ou2 v (by omega)) rfl rfl (by rfl) _ rfl rfl ?_
   refine Za ?_
   refine Zn hK11 ?_
   refine AC_region ?_
   refine Ze (Ev_add rfl rfl _ (wrap_id (by omega) (by omega))) ?_
   refine Zm ?_
   refine AL_nil ?_
   refine closeS (j + 1, onceL ou2 v) [some 1] rfl rfl (by show (callsOf d u).length - (j + 1) < (callsOf d u).length - j; omega) ⟨hlt, ?_⟩ (BxTo_some rfl rfl rfl rfl (by exact VwL_dd (by rfl)) BxTo_nil) Sl_
   exact ⟨hI2, hK2.once (callsOf_sub (List.mem_of_getElem? hu)), by omega⟩
  ·have hj2 : j = (callsOf d u).length := by
    have : ¬ j < (callsOf d u).length := by simpa using hc2
    omega
   subst hj2
   refine Zx hK7 ?_
   refine AC_region ?_
   refine Zm ?_
   refine Ze (Ev_add rfl rfl _ (wrap_id (by omega) (by omega))) ?_
   refine Za ?_
   refine AL_nil ?_
   refine closeS (i + 1, ou2) [some 0] rfl rfl (by show wC d.cs + 1 - (i + 1) < wC d.cs + 1 - i; omega) ?_ (BxTo_some rfl rfl rfl rfl (by exact VwL_dd (by rfl)) BxTo_nil) Sl_
   rw [List.drop_length, addAll] at hI2
   exact ⟨by rw [hI, reachG_step hK hou, hI2], hK2, by omega⟩
 ·have hend : reachedFrom d p = out := hI.trans (reachG_end (by simpa using hc1))
  refine Zx hK3 ?_
  refine Zs fun _ hK13 => ?_
  refine Zm ?_
  refine Za ?_
  refine Zn hK13 ?_
  refine AC_ret ?_
  rw [hend]
  exact retn_ok hdm (.tmp rfl rfl .nil) rfl (by rfl) (by simp)
set_option maxHeartbeats 1000000 in
set_option maxRecDepth 4000 in
theorem c_specReachedFrom (d : Dbt) (p : ByteArray) (hb : bulkD d ≤ 1048576) : PCall Tryz.prog 30 [injD d, .c (.string p)] (· = [.sl .one (strs (reachedFrom d p))]) := by
 have hw := wC_bulk d.cs
 obtain ⟨hnc, hbc, hno, hbo⟩ := bulkD_bd (cs := d.cs) (op := d.op) hb
 have hst := OkR.start d p
 refine PCall_of (n := 37) Tryz.func30 rfl rfl (Nat.le_of_ble_eq_true rfl) fun C hdm hT0 => ?_
 have hT := hT0
 refine Zs fun _ hK1 => ?_
 refine AL_box (Lay.st [.one, .one]) (nf rfl) rfl (by rfl) _ rfl rfl ?_
 refine Za ?_
 refine Zn hK1 ?_
 refine Zs fun _ hK2 => ?_
 refine YL ts27 ta27 ?_
 refine Zm ?_
 refine AL_fcall0 hT rfl cl14 (c_specCallsOf d p hb) rfl rfl ?_
 refine Za ?_
 refine Zn hK2 ?_
 refine AC_seq fun _ hK3 => ?_
 refine Zs fun _ hK4 => ?_
 refine Za ?_
 refine Zn hK4 ?_
 refine AC_block ?_
 refine AC_loopS [] (Nat × List ByteArray) (fun ⟨i, out⟩ => [(6, i64 i), (5, .d (.sl .one (strs out))), (2, .d (.rp (Lay.st [.one, .one]) (injD d) []))]) (fun ⟨i, out⟩ => []) (fun st => wC d.cs + 1 - st.1) (fun ⟨i, out⟩ => (reachedFrom d p = reachG d (wC d.cs - i) i out ∧ OkR d out ∧ i ≤ out.length)) ((0, callsOf d p)) ?_ ?_ ?_
 ·exact enterS [] rfl rfl BxTo_nil Sl_
 ·exact ⟨rfl, hst, Nat.zero_le _⟩
 rintro ⟨i, out⟩ ⟨hI, hK, hi⟩
 show AC _ _ _ _ _ (FS [] _ [(6, i64 i), (5, .d (.sl .one (strs out))), (2, .d (.rp (Lay.st [.one, .one]) (injD d) []))]) []
 have hKl := hK.len
 refine AC_seq fun _ hK5 => ?_
 refine Zs fun _ hK6 => ?_
 iterate 2 refine Zm ?_
 refine AL_lim (x := (Operand.tmp 13)) rfl fun hl1 => ?_
 try simp only [injs_length, ints_length, strs_length, injCs_length, u8s_length, List.length_map] at hl1
 refine Ze (Ev_len_strs te25 rfl) ?_
 refine Ze (Ev_lss rfl rfl) ?_
 refine Zn hK6 ?_
 refine Zc (fun hc1 => ?_) fun hc1 => ?_
 ·have hlt0 : i < out.length := by simpa using hc1
  have hcu := fun u => callsOf_len d u
  obtain ⟨u, hou⟩ : ∃ u, out[i]? = some u := ⟨_, List.getElem?_eq_getElem hlt0⟩
  have hu2 := strs_get hou
  have hcu := hcu u
  have hes : ((strs out).map V.d)[0 + ((i : Nat) : Int).toNat]? = some (.d (.c (.string u))) := by rw [Int.toNat_natCast, Nat.zero_add, List.getElem?_map, hu2]; rfl
  refine Zk hK5 ?_
  refine AC_seq fun _ hK7 => ?_
  refine AC_block ?_
  refine AC_seq fun _ hK8 => ?_
  refine AC_draw hT follows [0, 1, 2, 3, 4, 5, 6] (by kernel_rfl) ?_
  refine DT_ev rfl (EA_load_rp rfl rfl rfl ts27 ta27 (by rfl) (by intro h; cases h)) rfl ?_
  refine DT_ev rfl (EA_move) rfl ?_
  refine DT_ev rfl (EA_move) rfl ?_
  refine DT_ev rfl (EA_ix_sl rfl rfl te25 ts9 (by omega) (by assumption)) rfl ?_
  refine DT_ev rfl (EA_load_rp rfl rfl rfl ts9 ta9 rfl (fun _ => rfl)) rfl ?_
  refine DT_fcall0 rfl rfl cl14 (c_specCallsOf d u hb) rfl rfl ?_
  refine DT_ev rfl (EA_assign) rfl ?_
  refine Zd hK8 ?_
  refine Zs fun _ hK9 => ?_
  refine Za ?_
  refine Zn hK9 ?_
  refine AC_block ?_
  refine AC_loopS [2, 6, 7] (Nat × List ByteArray) (fun ⟨j, ou2⟩ => [(8, i64 j), (5, .d (.sl .one (strs ou2)))]) (fun ⟨j, ou2⟩ => []) (fun st => (callsOf d u).length - st.1) (fun ⟨j, ou2⟩ => j ≤ (callsOf d u).length ∧ (addAll out (callsOf d u) = addAll ou2 ((callsOf d u).drop j) ∧ OkR d ou2 ∧ out.length ≤ ou2.length)) ((0, out)) ?_ ?_ ?_
  ·exact enterS [] rfl rfl BxTo_nil Sl_
  ·exact ⟨Nat.zero_le _, by simp, hK, Nat.le_refl _⟩
  rintro ⟨j, ou2⟩ ⟨hj, ⟨hI2, hK2, ho2⟩⟩
  show AC _ _ _ _ _ (FS [2, 6, 7] _ [(8, i64 j), (5, .d (.sl .one (strs ou2)))]) []
  refine AC_seq fun _ hK10 => ?_
  refine Zs fun _ hK11 => ?_
  iterate 2 refine Zm ?_
  refine AL_lim (x := (Operand.tmp 25)) rfl fun hl2 => ?_
  try simp only [injs_length, ints_length, strs_length, injCs_length, u8s_length, List.length_map] at hl2
  refine Ze (Ev_len_strs te25 rfl) ?_
  refine Ze (Ev_lss rfl rfl) ?_
  refine Zn hK11 ?_
  refine Zc (fun hc2 => ?_) fun hc2 => ?_
  ·have hlt : j < (callsOf d u).length := by simpa using hc2
   obtain ⟨v, hu⟩ : ∃ x, (callsOf d u)[j]? = some x := ⟨_, List.getElem?_eq_getElem hlt⟩
   have hu2 := strs_get hu
   have hdr := drop_get hu
   rw [hdr] at hI2
   rw [addAll] at hI2
   have hKl2 := hK2.len
   have hol : ou2.length ≤ (onceL ou2 v).length := by unfold onceL; split <;> simp
   refine Zk hK10 ?_
   refine AC_seq fun _ hK12 => ?_
   refine AC_block ?_
   refine AC_region ?_
   iterate 3 refine Zm ?_
   refine Yi te25 ts9 ?_
   refine Yp ts9 ta9 ?_
   refine AL_fcall0 hT rfl cl41 (c_l23Add ou2 v (by omega)) rfl rfl ?_
   refine Za ?_
   refine Zn hK12 ?_
   refine AC_region ?_
   refine Zm ?_
   refine Ze (Ev_add rfl rfl _ (wrap_id (by omega) (by omega))) ?_
   refine Za ?_
   refine AL_nil ?_
   refine closeS (j + 1, onceL ou2 v) [] rfl rfl (by show (callsOf d u).length - (j + 1) < (callsOf d u).length - j; omega) ⟨hlt, ?_⟩ BxTo_nil Sl_
   exact ⟨hI2, hK2.once (callsOf_sub (List.mem_of_getElem? hu)), by omega⟩
  ·have hj2 : j = (callsOf d u).length := by
    have : ¬ j < (callsOf d u).length := by simpa using hc2
    omega
   subst hj2
   refine Zx hK7 ?_
   refine AC_region ?_
   refine Zm ?_
   refine Ze (Ev_add rfl rfl _ (wrap_id (by omega) (by omega))) ?_
   refine Za ?_
   refine AL_nil ?_
   refine closeS (i + 1, ou2) [] rfl rfl (by show wC d.cs + 1 - (i + 1) < wC d.cs + 1 - i; omega) ?_ BxTo_nil Sl_
   rw [List.drop_length, addAll] at hI2
   exact ⟨by rw [hI, reachG_step hK hou, hI2], hK2, by omega⟩
 ·have hend : reachedFrom d p = out := hI.trans (reachG_end (by simpa using hc1))
  refine Zx hK3 ?_
  refine Zs fun _ hK13 => ?_
  refine Zm ?_
  refine Za ?_
  refine Zn hK13 ?_
  refine AC_ret ?_
  refine Zr hdm ?_
  rw [hend]
end Go.Proofs.YtjgliechbnommaaGreatDoor
set_option linter.unusedVariables false
set_option linter.unusedSimpArgs false
namespace Go.Proofs.YtjgliechbnommaaGreatDoor
open Go.Eng
theorem cl18 : Callable Tryz.prog 18 := Zq Tryz.func18
theorem cl30 : Callable Tryz.prog 30 := Zq Tryz.func30
set_option maxHeartbeats 1000000 in
set_option maxRecDepth 4000 in
theorem c_recursive (d : Dbt) (p : ByteArray) (hb : bulkD d ≤ 1048576) : PCall Tryz.prog 21 [injD d, .c (.string p)] (· = [.c (.bool (hasS (reachedFrom d p) p))]) := by
 refine PCall_of (n := 10) Tryz.func21 rfl rfl (Nat.le_of_ble_eq_true rfl) fun C hdm hT0 => ?_
 have hT := hT0
 refine Zs fun _ hK1 => ?_
 refine AL_box (Lay.st [.one, .one]) (nf rfl) rfl (by rfl) _ rfl rfl ?_
 refine Za ?_
 refine Zn hK1 ?_
 refine Zs fun _ hK2 => ?_
 refine YL ts27 ta27 ?_
 refine Zm ?_
 refine AL_fcall0 hT rfl cl18 ((c_reachedFromN d p hb).ocall.pcall) rfl rfl ?_
 refine Zm ?_
 refine AL_fcall0 hT rfl cl55 (c_containsS (reachedFrom d p) p) rfl rfl ?_
 refine Za ?_
 refine Zn hK2 ?_
 refine AC_ret ?_
 exact Zr hdm rfl
set_option maxHeartbeats 1000000 in
set_option maxRecDepth 4000 in
theorem c_specRecursive (d : Dbt) (p : ByteArray) (hb : bulkD d ≤ 1048576) : PCall Tryz.prog 12 [injD d, .c (.string p)] (· = [.c (.bool (hasS (reachedFrom d p) p))]) := by
 refine PCall_of (n := 10) Tryz.func12 rfl rfl (Nat.le_of_ble_eq_true rfl) fun C hdm hT0 => ?_
 have hT := hT0
 refine Zs fun _ hK1 => ?_
 refine AL_box (Lay.st [.one, .one]) (nf rfl) rfl (by rfl) _ rfl rfl ?_
 refine Za ?_
 refine Zn hK1 ?_
 refine Zs fun _ hK2 => ?_
 refine YL ts27 ta27 ?_
 refine Zm ?_
 refine AL_fcall0 hT rfl cl30 (c_specReachedFrom d p hb) rfl rfl ?_
 refine Zm ?_
 refine AL_fcall0 hT rfl cl50 (c_l23Has (reachedFrom d p) p) rfl rfl ?_
 refine Za ?_
 refine Zn hK2 ?_
 refine AC_ret ?_
 exact Zr hdm rfl
end Go.Proofs.YtjgliechbnommaaGreatDoor
set_option linter.unusedVariables false
set_option linter.unusedSimpArgs false
namespace Go.Proofs.YtjgliechbnommaaGreatDoor
open Go.Eng
theorem cl16 : Callable Tryz.prog 16 := Zq Tryz.func16
theorem cl20 : Callable Tryz.prog 20 := Zq Tryz.func20
theorem cl53 : Callable Tryz.prog 53 := Zq Tryz.func53
theorem cl75 : Callable Tryz.prog 75 := Zq Tryz.func75
theorem cl77 : Callable Tryz.prog 77 := Zq Tryz.func77
theorem cl9 : Callable Tryz.prog 9 := Zq Tryz.func9
theorem cl91 : Callable Tryz.prog 91 := Zq Tryz.func91
theorem fa27_1 : tyField Tryz.prog 27 1 = some (1, true) := by kernel_rfl
set_option maxHeartbeats 1000000 in
set_option maxRecDepth 4000 in
theorem c_indexF (g : Cl → Bool) (kk : FuncId) (caps : List D) (hcl : Callable Tryz.prog kk) (hna : caps.all (fun d => !d.isAgg) = true) (xs : List Cl) (hto : ∀ c ∈ xs, PCall Tryz.prog kk ([injC c] ++ caps) (· = [.c (.bool (g c))])) : PCall Tryz.prog 77 [.sl LC (injCs xs), .fn kk caps] (· = [.c (.int .i64 (idxF g xs 0))]) := by
 refine PCall_of (n := 19) Tryz.func77 rfl rfl (Nat.le_of_ble_eq_true rfl) fun C hdm hT0 => ?_
 have hT := hT0
 refine Zs fun _ hK1 => ?_
 refine Za ?_
 refine Zn hK1 ?_
 refine AC_seq fun _ hK2 => ?_
 refine Zs fun _ hK3 => ?_
 refine Zm ?_
 refine AL_lim (x := (Operand.tmp 6)) rfl fun hl1 => ?_
 try simp only [injs_length, ints_length, strs_length, injCs_length, u8s_length, List.length_map] at hl1
 refine Ze (Ev_len_injCs te24 rfl) ?_
 refine Zm ?_
 refine Zn hK3 ?_
 refine AC_block ?_
 refine AC_loopS [0, 1, 7] (Nat) (fun j => [(8, i64 j)]) (fun j => []) (fun st => xs.length - st) (fun j => j ≤ xs.length ∧ idxF g xs 0 = idxF g (xs.drop j) j) (0) ?_ ?_ ?_
 ·exact enterS [] rfl rfl BxTo_nil Sl_
 ·exact ⟨Nat.zero_le _, by simp⟩
 rintro j ⟨hj, hI⟩
 show AC _ _ _ _ _ (FS [0, 1, 7] _ [(8, i64 j)]) []
 refine Zs fun _ hK4 => ?_
 refine Ze (Ev_lss rfl rfl) ?_
 refine Zn hK4 ?_
 refine AC_seq fun _ hK5 => ?_
 refine Zc (fun hc1 => ?_) fun hc1 => ?_
 ·have hlt : j < xs.length := by simpa using hc1
  obtain ⟨u, hu⟩ : ∃ x, xs[j]? = some x := ⟨_, List.getElem?_eq_getElem hlt⟩
  have hu2 := injCs_get hu
  have hdr := drop_get hu
  refine Zk hK5 ?_
  refine AC_seq fun _ hK6 => ?_
  refine AC_block ?_
  refine Zs fun _ hK7 => ?_
  refine Zm ?_
  refine Za ?_
  refine Zn hK7 ?_
  refine Zs fun _ hK8 => ?_
  iterate 3 refine Zm ?_
  refine Yi te24 ts54 ?_
  refine YP ts54 ta54 ?_
  refine AL_fcall hT rfl hna hcl (hto u (List.mem_of_getElem? hu)) rfl rfl ?_
  refine Zn hK8 ?_
  refine Zc (fun hc2 => ?_) fun hc2 => ?_
  ·refine Zs fun _ hK9 => ?_
   refine Zm ?_
   refine Za ?_
   refine Zn hK9 ?_
   refine AC_ret ?_
   refine Zr hdm ?_
   try rw [hI]
   try rw [hdr]
   try simp_all [List.length_pos_iff, idxF]
  ·refine Zk hK6 ?_
   refine AC_region ?_
   refine Ze (Ev_add rfl rfl _ (wrap_id (by omega) (by omega))) ?_
   refine Zm ?_
   refine AL_nil ?_
   refine closeS (j + 1) [] rfl rfl (by show xs.length - (j + 1) < xs.length - j; omega) ⟨hlt, ?_⟩ BxTo_nil Sl_
   rw [hI]
   try rw [hdr]
   try simp_all [idxF]
 ·have hj2 : j = xs.length := by
   have : ¬ j < xs.length := by simpa using hc1
   omega
  subst hj2
  rw [List.drop_length] at hI
  refine Zx hK2 ?_
  refine Zs fun _ hK10 => ?_
  refine Za ?_
  refine Zn hK10 ?_
  refine AC_ret ?_
  refine Zr hdm ?_
  try rw [hI]
  try simp_all [List.length_pos_iff, idxF]
set_option maxHeartbeats 1000000 in
set_option maxRecDepth 4000 in
theorem c_containsF (g : Cl → Bool) (kk : FuncId) (caps : List D) (hcl : Callable Tryz.prog kk) (hna : caps.all (fun d => !d.isAgg) = true) (xs : List Cl) (hto : ∀ c ∈ xs, PCall Tryz.prog kk ([injC c] ++ caps) (· = [.c (.bool (g c))])) : PCall Tryz.prog 75 [.sl LC (injCs xs), .fn kk caps] (· = [.c (.bool (xs.any g))]) := by
 refine PCall_of (n := 9) Tryz.func75 rfl rfl (Nat.le_of_ble_eq_true rfl) fun C hdm hT0 => ?_
 have hT := hT0
 refine Zs fun _ hK1 => ?_
 refine Za ?_
 refine Zn hK1 ?_
 refine Zs fun _ hK2 => ?_
 iterate 2 refine Zm ?_
 refine AL_fcall0 hT rfl cl77 (c_indexF g kk caps hcl hna xs hto) rfl rfl ?_
 refine Ze (Ev_geq rfl rfl) ?_
 refine Za ?_
 refine Zn hK2 ?_
 refine AC_ret ?_
 refine Zr hdm ?_
 rw [idxF_any]
set_option maxHeartbeats 1000000 in
set_option maxRecDepth 4000 in
theorem c_known1 (p : ByteArray) (c : Cl) (hb : bulk c.h ≤ 1099511627776) : PCall Tryz.prog 91 [injC c, .rp .one (.c (.string p)) []] (· = [.c (.bool (decide (predS c.h = p)))]) := by
 obtain ⟨h, b, f⟩ := c
 refine PCall_of (n := 9) Tryz.func91 rfl rfl (Nat.le_of_ble_eq_true rfl) fun C hdm hT0 => ?_
 have hT := hT0
 refine Zs fun _ hK1 => ?_
 refine AL_box (Lay.st [(Lay.st [.one, .one, .one, .one]), (Lay.st [.one, .one, .one, .one]), .one]) (nf rfl) rfl (by rfl) _ rfl rfl ?_
 refine Za ?_
 refine Zn hK1 ?_
 refine AC_seq fun _ hK2 => ?_
 refine AC_draw hT follows [0, 1, 2, 3, 4, 5] (by kernel_rfl) ?_
 refine DT_ev rfl (EA_fa_ptr rfl fa54_0 rfl rfl) rfl ?_
 refine DT_ev rfl (EA_load_ptr rfl rfl rfl rfl rfl rfl ts41 ta41 (by simp) (by intro h; cases h)) rfl ?_
 refine DT_fcall0 rfl rfl cl44 (c_predOf h hb) rfl rfl ?_
 refine DT_ev rfl (EA_load_rp rfl rfl rfl ts9 ta9 rfl (fun _ => rfl)) rfl ?_
 refine DT_ev rfl (EA_seql rfl rfl) rfl ?_
 refine DT_ev rfl (EA_assign) rfl ?_
 refine Zd hK2 ?_
 refine AC_ret ?_
 exact Zr hdm rfl
set_option maxHeartbeats 1000000 in
set_option maxRecDepth 4000 in
theorem c_known (d : Dbt) (p : ByteArray) (hb : bulkD d ≤ 1048576) : PCall Tryz.prog 53 [injD d, .c (.string p)] (· = [.c (.bool (knownB d p))]) := by
 obtain ⟨cs, op⟩ := d
 obtain ⟨hnc, hbc, hno, hbo⟩ := bulkD_bd hb
 refine PCall_of (n := 15) Tryz.func53 rfl rfl (Nat.le_of_ble_eq_true rfl) fun C hdm hT0 => ?_
 have hT := hT0
 refine Zs fun _ hK1 => ?_
 refine AL_box (Lay.st [.one, .one]) (nf rfl) rfl (by rfl) _ rfl rfl ?_
 refine AL_box .one (nf rfl) rfl (by rfl) _ rfl rfl ?_
 refine Za ?_
 refine Zn hK1 ?_
 refine AC_seq fun _ hK2 => ?_
 refine AC_wk (Wk_to [] [(2, .d (.rp LD (injD ⟨cs, op⟩) [])), (3, .d (.rp .one (.c (.string p)) []))] [] rfl rfl BxTo_nil Sl_ ?_)
 refine AC_region ?_
 refine Yr fa27_1 ?_
 refine Yp ts25 ta25 ?_
 refine Yp ts9 ta9 ?_
 refine AL_fcall0 hT rfl cl55 (c_containsS op p) rfl rfl ?_
 refine Zm ?_
 refine Zb 9 (fun hg1 => ?_) fun hg1 => ?_
 ·iterate 4 refine Zg ?_
  refine Zp ?_
  refine Za ?_
  refine Zn hK2 ?_
  refine AC_ret ?_
  refine Zr hdm ?_
  simp_all [knownB]
 ·refine Zt ?_
  refine Yr fa27_0 ?_
  refine Zt ?_
  refine Yp ts24 ta24 ?_
  refine Zt ?_
  refine Ze (Ev_func (ds := [.rp .one (.c (.string p)) []]) rfl rfl) ?_
  refine Zt ?_
  refine AL_fcall0 hT rfl cl75 (c_containsF (fun c => decide (predS c.h = p)) 91 [.rp .one (.c (.string p)) []] cl91 rfl cs (fun c hc => c_known1 p c (by have := (bulkCs_bd hc hbc).1; omega))) rfl rfl ?_
  refine Zp ?_
  refine Za ?_
  refine Zn hK2 ?_
  refine AC_ret ?_
  refine Zr hdm ?_
  simp_all [knownB]
set_option maxHeartbeats 1000000 in
set_option maxRecDepth 4000 in
theorem c_specKnown (d : Dbt) (p : ByteArray) (hb : bulkD d ≤ 1048576) : PCall Tryz.prog 20 [injD d, .c (.string p)] (· = [.c (.bool (knownB d p))]) := by
 obtain ⟨cs, op⟩ := d
 refine PCall_of (n := 25) Tryz.func20 rfl rfl (Nat.le_of_ble_eq_true rfl) fun C hdm hT0 => ?_
 have hT := hT0
 refine Zs fun _ hK1 => ?_
 refine AL_box (Lay.st [.one, .one]) (nf rfl) rfl (by rfl) _ rfl rfl ?_
 refine Za ?_
 refine Zn hK1 ?_
 refine AC_seq fun _ hK2 => ?_
 refine Zs fun _ hK3 => ?_
 refine Za ?_
 refine Zn hK3 ?_
 refine AC_block ?_
 refine AC_loopS [1] (Nat) (fun j => [(5, i64 j), (2, .d (.rp (Lay.st [.one, .one]) (injD ⟨cs, op⟩) []))]) (fun j => []) (fun st => op.length - st) (fun j => j ≤ op.length ∧ hasS op p = hasS (op.drop j) p) (0) ?_ ?_ ?_
 ·exact enterS [] rfl rfl BxTo_nil Sl_
 ·exact ⟨Nat.zero_le _, by simp⟩
 rintro j ⟨hj, hI⟩
 show AC _ _ _ _ _ (FS [1] _ [(5, i64 j), (2, .d (.rp (Lay.st [.one, .one]) (injD ⟨cs, op⟩) []))]) []
 refine AC_seq fun _ hK4 => ?_
 refine Zs fun _ hK5 => ?_
 refine Zm ?_
 refine Yr fa27_1 ?_
 refine Yp ts25 ta25 ?_
 refine AL_lim (x := (Operand.tmp 8)) rfl fun hl1 => ?_
 try simp only [injs_length, ints_length, strs_length, injCs_length, u8s_length, List.length_map] at hl1
 refine Ze (Ev_len_strs te25 rfl) ?_
 refine Ze (Ev_lss rfl rfl) ?_
 refine Zn hK5 ?_
 refine Zc (fun hc1 => ?_) fun hc1 => ?_
 ·have hlt : j < op.length := by simpa using hc1
  obtain ⟨u, hu⟩ : ∃ x, op[j]? = some x := ⟨_, List.getElem?_eq_getElem hlt⟩
  have hu2 := strs_get hu
  have hdr := drop_get hu
  refine Zk hK4 ?_
  refine AC_seq fun _ hK6 => ?_
  refine AC_block ?_
  refine Zs fun _ hK7 => ?_
  refine Yr fa27_1 ?_
  refine Yp ts25 ta25 ?_
  refine Zm ?_
  refine Yi te25 ts9 ?_
  refine Yp ts9 ta9 ?_
  refine Zm ?_
  refine Ze (Ev_seql rfl rfl) ?_
  refine Zn hK7 ?_
  refine Zc (fun hc2 => ?_) fun hc2 => ?_
  ·refine Zs fun _ hK8 => ?_
   refine Za ?_
   refine Zn hK8 ?_
   refine AC_ret ?_
   refine Zr hdm ?_
   rw [knownB]
   simp_all [hasS]
  ·refine Zk hK6 ?_
   refine AC_region ?_
   refine Zm ?_
   refine Ze (Ev_add rfl rfl _ (wrap_id (by omega) (by omega))) ?_
   refine Za ?_
   refine AL_nil ?_
   refine closeS (j + 1) [] rfl rfl (by show op.length - (j + 1) < op.length - j; omega) ⟨hlt, ?_⟩ BxTo_nil Sl_
   rw [hI]
   try rw [hdr]
   try simp_all [hasS]
 ·have hj2 : j = op.length := by
   have : ¬ j < op.length := by simpa using hc1
   omega
  subst hj2
  rw [List.drop_length] at hI
  refine Zx hK2 ?_
  refine Zs fun _ hK9 => ?_
  refine YP ts27 ta27 ?_
  refine Zm ?_
  refine AL_fcall0 hT rfl cl51 (c_specClausesOf ⟨cs, op⟩ p (by omega)) rfl rfl ?_
  refine AL_lim (x := (Operand.tmp 22)) rfl fun hl2 => ?_
  try simp only [injs_length, ints_length, strs_length, injCs_length, u8s_length, List.length_map] at hl2
  refine Ze (Ev_len_injCs te24 rfl) ?_
  refine Ze (Ev_gtr rfl rfl) ?_
  refine Za ?_
  refine Zn hK9 ?_
  refine AC_ret ?_
  refine Zr hdm ?_
  rw [hasS] at hI
  simp only [knownB, hI, Bool.false_or]
  rw [← clsOf_any]
set_option maxHeartbeats 1000000 in
set_option maxRecDepth 4000 in
theorem c_missingIn (d : Dbt) (hb : bulkD d ≤ 1048576) : NCall Tryz.prog 17 [injD d] 9 (missIn d) := by
 have hw := wC_bulk d.cs
 obtain ⟨hnc, hbc, hno, hbo⟩ := bulkD_bd (cs := d.cs) (op := d.op) hb
 have hpl := predsF_len d.cs []
 have hcu := fun u => callsOf_len d u
 simp only [List.length_nil] at hpl
 obtain ⟨ps, hps⟩ : ∃ ps, ps = predsF d.cs [] := ⟨_, rfl⟩
 have hmd : missIn d = missP d ps [] := by rw [hps]; rfl
 rw [← hps] at hpl
 refine NCall_of (n := 33) Tryz.func17 rfl rfl (Nat.le_of_ble_eq_true rfl) fun C hdm hT => ?_
 refine Zs fun _ hK1 => ?_
 refine AL_box (Lay.st [.one, .one]) (nf rfl) rfl (by rfl) _ rfl rfl ?_
 refine Za ?_
 refine Zn hK1 ?_
 refine Zs fun _ hK2 => ?_
 refine Za ?_
 refine Zn hK2 ?_
 refine AC_seq fun _ hK3 => ?_
 refine Zs fun _ hK4 => ?_
 refine YL ts27 ta27 ?_
 refine AL_fcall0 hT rfl cl16 (hps ▸ (c_predsOf d hb).pcall) rfl rfl ?_
 refine AL_lim (x := (Operand.tmp 9)) rfl fun hl1 => ?_
 try simp only [injs_length, ints_length, strs_length, injCs_length, u8s_length, List.length_map] at hl1
 refine Ze (Ev_len_strs te25 rfl) ?_
 refine Zm ?_
 refine Zn hK4 ?_
 refine AC_block ?_
 refine AC_loopS [9, 10] (Nat × List ByteArray) (fun ⟨j, out⟩ => [(11, i64 j), (3, .ref .one 0 0 (strs out).length), (1, .d (.rp (Lay.st [.one, .one]) (injD d) []))]) (fun ⟨j, out⟩ => [some ⟨9, .one, (strs out).map V.d⟩]) (fun st => ps.length - st.1) (fun ⟨j, out⟩ => j ≤ ps.length ∧ (missIn d = missP d (ps.drop j) out ∧ OkR d out)) ((0, [])) ?_ ?_ ?_
 ·refine Wk.then (Wk_nil_slot 3 9 .one rfl 1 rfl ?_)
  exact enterS [some 1] rfl rfl (BxTo_some rfl rfl rfl rfl (by exact .nil) BxTo_nil) Sl_
 ·exact ⟨Nat.zero_le _, by simpa using hmd, List.nodup_nil, fun _ h => by cases h⟩
 rintro ⟨j, out⟩ ⟨hj, ⟨hI, hK⟩⟩
 show AC _ _ _ _ _ (FS [9, 10] _ [(11, i64 j), (3, .ref .one 0 0 (strs out).length), (1, .d (.rp (Lay.st [.one, .one]) (injD d) []))]) [some ⟨9, .one, (strs out).map V.d⟩]
 refine Zs fun _ hK5 => ?_
 refine Ze (Ev_lss rfl rfl) ?_
 refine Zn hK5 ?_
 refine AC_seq fun _ hK6 => ?_
 refine Zc (fun hc1 => ?_) fun hc1 => ?_
 ·have hlt : j < ps.length := by simpa using hc1
  obtain ⟨u, hu⟩ : ∃ x, ps[j]? = some x := ⟨_, List.getElem?_eq_getElem hlt⟩
  have hu2 := strs_get hu
  have hdr := drop_get hu
  rw [hdr, missP] at hI
  have hKl := hK.len
  have hcv := hcu u
  refine Zk hK6 ?_
  refine AC_seq fun _ hK7 => ?_
  refine AC_block ?_
  refine Zs fun _ hK8 => ?_
  refine Yi te25 ts9 ?_
  refine Yp ts9 ta9 ?_
  refine Za ?_
  refine Zn hK8 ?_
  refine Zs fun _ hK9 => ?_
  refine YP ts27 ta27 ?_
  refine Zm ?_
  refine AL_fcall0 hT rfl cl19 ((c_callsOf d u hb).pcall) rfl rfl ?_
  refine AL_lim (x := (Operand.tmp 17)) rfl fun hl2 => ?_
  try simp only [injs_length, ints_length, strs_length, injCs_length, u8s_length, List.length_map] at hl2
  refine Ze (Ev_len_strs te25 rfl) ?_
  refine Zm ?_
  refine Zn hK9 ?_
  refine AC_block ?_
  refine AC_loopS [1, 9, 10, 11, 17, 18] (Nat × List ByteArray) (fun ⟨i, ou2⟩ => [(19, i64 i), (3, .ref .one 0 0 (strs ou2).length)]) (fun ⟨i, ou2⟩ => [some ⟨9, .one, (strs ou2).map V.d⟩]) (fun st => (callsOf d u).length - st.1) (fun ⟨i, ou2⟩ => i ≤ (callsOf d u).length ∧ (addMiss d out (callsOf d u) = addMiss d ou2 ((callsOf d u).drop i) ∧ OkR d ou2)) ((0, out)) ?_ ?_ ?_
  ·exact enterS [some 0] rfl rfl (BxTo_some rfl rfl rfl rfl (by exact VwL_dd (by rfl)) BxTo_nil) Sl_
  ·exact ⟨Nat.zero_le _, by simp, hK⟩
  rintro ⟨i, ou2⟩ ⟨hj, ⟨hI2, hK2⟩⟩
  show AC _ _ _ _ _ (FS [1, 9, 10, 11, 17, 18] _ [(19, i64 i), (3, .ref .one 0 0 (strs ou2).length)]) [some ⟨9, .one, (strs ou2).map V.d⟩]
  refine Zs fun _ hK10 => ?_
  refine Ze (Ev_lss rfl rfl) ?_
  refine Zn hK10 ?_
  refine AC_seq fun _ hK11 => ?_
  refine Zc (fun hc2 => ?_) fun hc2 => ?_
  ·have hlt : i < (callsOf d u).length := by simpa using hc2
   obtain ⟨v, hu⟩ : ∃ x, (callsOf d u)[i]? = some x := ⟨_, List.getElem?_eq_getElem hlt⟩
   have hu2 := strs_get hu
   have hdr := drop_get hu
   rw [hdr] at hI2
   rw [addMiss] at hI2
   have hKl2 := hK2.len
   refine Zk hK11 ?_
   refine AC_seq fun _ hK12 => ?_
   refine AC_block ?_
   refine Zs fun _ hK13 => ?_
   refine Yi te25 ts9 ?_
   refine Yp ts9 ta9 ?_
   refine Za ?_
   refine Zn hK13 ?_
   refine Zs fun _ hK14 => ?_
   refine YP ts27 ta27 ?_
   refine Zm ?_
   refine AL_fcall0 hT rfl cl53 (c_known d v hb) rfl rfl ?_
   refine Ze (Ev_not rfl) ?_
   refine Zn hK14 ?_
   refine Zc (fun hc3 => ?_) fun hc3 => ?_
   ·refine AC_region ?_
    iterate 2 refine Zm ?_
    refine AL_bcall hT _ _ [] rfl cl52 rfl rfl rfl rfl (c_once ou2 v (by omega)) rfl rfl (by rfl) _ rfl rfl ?_
    refine Za ?_
    refine Zn hK12 ?_
    refine AC_region ?_
    refine Ze (Ev_add rfl rfl _ (wrap_id (by omega) (by omega))) ?_
    refine Zm ?_
    refine AL_nil ?_
    refine closeS (i + 1, onceL ou2 v) [some 1] rfl rfl (by show (callsOf d u).length - (i + 1) < (callsOf d u).length - i; omega) ⟨hlt, ?_⟩ (BxTo_some rfl rfl rfl rfl (by exact VwL_dd (by rfl)) BxTo_nil) Sl_
    exact ⟨by rw [hI2, if_neg (by simp_all)], hK2.once (callsOf_sub (List.mem_of_getElem? hu))⟩
   ·refine Zk hK12 ?_
    refine AC_region ?_
    refine Ze (Ev_add rfl rfl _ (wrap_id (by omega) (by omega))) ?_
    refine Zm ?_
    refine AL_nil ?_
    refine closeS (i + 1, ou2) [some 0] rfl rfl (by show (callsOf d u).length - (i + 1) < (callsOf d u).length - i; omega) ⟨hlt, ?_⟩ (BxTo_some rfl rfl rfl rfl (by exact VwL_dd (by rfl)) BxTo_nil) Sl_
    exact ⟨by rw [hI2, if_pos (by simp_all)], hK2⟩
  ·have hj2 : i = (callsOf d u).length := by
    have : ¬ i < (callsOf d u).length := by simpa using hc2
    omega
   subst hj2
   refine Zx hK7 ?_
   refine AC_region ?_
   refine Ze (Ev_add rfl rfl _ (wrap_id (by omega) (by omega))) ?_
   refine Zm ?_
   refine AL_nil ?_
   refine closeS (j + 1, ou2) [some 0] rfl rfl (by show ps.length - (j + 1) < ps.length - j; omega) ⟨hlt, ?_⟩ (BxTo_some rfl rfl rfl rfl (by exact VwL_dd (by rfl)) BxTo_nil) Sl_
   rw [List.drop_length, addMiss] at hI2
   exact ⟨by rw [hI, hI2], hK2⟩
 ·have hj2 : j = ps.length := by
   have : ¬ j < ps.length := by simpa using hc1
   omega
  subst hj2
  rw [List.drop_length] at hI
  refine Zx hK3 ?_
  refine Zs fun _ hK15 => ?_
  refine Zm ?_
  refine Za ?_
  refine Zn hK15 ?_
  refine AC_ret ?_
  rw [missP] at hI
  rw [hI]
  exact retn_ok hdm (.tmp rfl rfl .nil) rfl (by rfl) (by simp)
set_option maxHeartbeats 1000000 in
set_option maxRecDepth 4000 in
theorem c_specMissingIn (d : Dbt) (hb : bulkD d ≤ 1048576) : PCall Tryz.prog 29 [injD d] (· = [.sl .one (strs (missIn d))]) := by
 have hw := wC_bulk d.cs
 obtain ⟨hnc, hbc, hno, hbo⟩ := bulkD_bd (cs := d.cs) (op := d.op) hb
 have hpl := predsF_len d.cs []
 have hcu := fun u => callsOf_len d u
 simp only [List.length_nil] at hpl
 obtain ⟨ps, hps⟩ : ∃ ps, ps = predsF d.cs [] := ⟨_, rfl⟩
 have hmd : missIn d = missP d ps [] := by rw [hps]; rfl
 rw [← hps] at hpl
 refine PCall_of (n := 43) Tryz.func29 rfl rfl (Nat.le_of_ble_eq_true rfl) fun C hdm hT0 => ?_
 have hT := hT0
 refine Zs fun _ hK1 => ?_
 refine AL_box (Lay.st [.one, .one]) (nf rfl) rfl (by rfl) _ rfl rfl ?_
 refine Za ?_
 refine Zn hK1 ?_
 refine Zs fun _ hK2 => ?_
 refine AL_bD .one rfl te25 ts9 tz9 rfl rfl (by decide) (by decide) (by rfl) rfl ?_
 refine Za ?_
 refine Zn hK2 ?_
 refine Zs fun _ hK3 => ?_
 refine YL ts27 ta27 ?_
 refine AL_fcall0 hT rfl cl9 (hps ▸ c_specPredsOf d hb) rfl rfl ?_
 refine Za ?_
 refine Zn hK3 ?_
 refine AC_seq fun _ hK4 => ?_
 refine Zs fun _ hK5 => ?_
 refine Za ?_
 refine Zn hK5 ?_
 refine AC_block ?_
 refine AC_loopS [4] (Nat × List ByteArray) (fun ⟨j, out⟩ => [(5, i64 j), (3, .d (.sl .one (strs out))), (1, .d (.rp (Lay.st [.one, .one]) (injD d) []))]) (fun ⟨j, out⟩ => []) (fun st => ps.length - st.1) (fun ⟨j, out⟩ => j ≤ ps.length ∧ (missIn d = missP d (ps.drop j) out ∧ OkR d out)) ((0, [])) ?_ ?_ ?_
 ·exact enterS [] rfl rfl BxTo_nil Sl_
 ·exact ⟨Nat.zero_le _, by simpa using hmd, List.nodup_nil, fun _ h => by cases h⟩
 rintro ⟨j, out⟩ ⟨hj, ⟨hI, hK⟩⟩
 show AC _ _ _ _ _ (FS [4] _ [(5, i64 j), (3, .d (.sl .one (strs out))), (1, .d (.rp (Lay.st [.one, .one]) (injD d) []))]) []
 refine AC_seq fun _ hK6 => ?_
 refine Zs fun _ hK7 => ?_
 iterate 2 refine Zm ?_
 refine AL_lim (x := (Operand.tmp 12)) rfl fun hl1 => ?_
 try simp only [injs_length, ints_length, strs_length, injCs_length, u8s_length, List.length_map] at hl1
 refine Ze (Ev_len_strs te25 rfl) ?_
 refine Ze (Ev_lss rfl rfl) ?_
 refine Zn hK7 ?_
 refine Zc (fun hc1 => ?_) fun hc1 => ?_
 ·have hlt : j < ps.length := by simpa using hc1
  obtain ⟨u, hu⟩ : ∃ x, ps[j]? = some x := ⟨_, List.getElem?_eq_getElem hlt⟩
  have hu2 := strs_get hu
  have hdr := drop_get hu
  rw [hdr, missP] at hI
  have hKl := hK.len
  have hcv := hcu u
  refine Zk hK6 ?_
  refine AC_seq fun _ hK8 => ?_
  refine AC_block ?_
  refine AC_seq fun _ hK9 => ?_
  refine AC_draw hT follows [0, 1, 2, 3, 4, 5, 6] (by kernel_rfl) ?_
  refine DT_ev rfl (EA_load_rp rfl rfl rfl ts27 ta27 (by rfl) (by intro h; cases h)) rfl ?_
  refine DT_ev rfl (EA_move) rfl ?_
  refine DT_ev rfl (EA_move) rfl ?_
  refine DT_ev rfl (EA_ix_sl rfl rfl te25 ts9 (by omega) (by assumption)) rfl ?_
  refine DT_ev rfl (EA_load_rp rfl rfl rfl ts9 ta9 rfl (fun _ => rfl)) rfl ?_
  refine DT_fcall0 rfl rfl cl14 (c_specCallsOf d u hb) rfl rfl ?_
  refine DT_ev rfl (EA_assign) rfl ?_
  refine Zd hK9 ?_
  refine Zs fun _ hK10 => ?_
  refine Za ?_
  refine Zn hK10 ?_
  refine AC_block ?_
  refine AC_loopS [1, 4, 5, 6] (Nat × List ByteArray) (fun ⟨i, ou2⟩ => [(7, i64 i), (3, .d (.sl .one (strs ou2)))]) (fun ⟨i, ou2⟩ => []) (fun st => (callsOf d u).length - st.1) (fun ⟨i, ou2⟩ => i ≤ (callsOf d u).length ∧ (addMiss d out (callsOf d u) = addMiss d ou2 ((callsOf d u).drop i) ∧ OkR d ou2)) ((0, out)) ?_ ?_ ?_
  ·exact enterS [] rfl rfl BxTo_nil Sl_
  ·exact ⟨Nat.zero_le _, by simp, hK⟩
  rintro ⟨i, ou2⟩ ⟨hj, ⟨hI2, hK2⟩⟩
  show AC _ _ _ _ _ (FS [1, 4, 5, 6] _ [(7, i64 i), (3, .d (.sl .one (strs ou2)))]) []
  refine AC_seq fun _ hK11 => ?_
  refine Zs fun _ hK12 => ?_
  iterate 2 refine Zm ?_
  refine AL_lim (x := (Operand.tmp 24)) rfl fun hl2 => ?_
  try simp only [injs_length, ints_length, strs_length, injCs_length, u8s_length, List.length_map] at hl2
  refine Ze (Ev_len_strs te25 rfl) ?_
  refine Ze (Ev_lss rfl rfl) ?_
  refine Zn hK12 ?_
  refine Zc (fun hc2 => ?_) fun hc2 => ?_
  ·have hlt : i < (callsOf d u).length := by simpa using hc2
   obtain ⟨v, hu⟩ : ∃ x, (callsOf d u)[i]? = some x := ⟨_, List.getElem?_eq_getElem hlt⟩
   have hu2 := strs_get hu
   have hdr := drop_get hu
   rw [hdr] at hI2
   rw [addMiss] at hI2
   have hKl2 := hK2.len
   refine Zk hK11 ?_
   refine AC_seq fun _ hK13 => ?_
   refine AC_block ?_
   refine AC_seq fun _ hK14 => ?_
   refine AC_draw hT follows [0, 1, 2, 3, 4, 5, 6] (by kernel_rfl) ?_
   refine DT_ev rfl (EA_load_rp rfl rfl rfl ts27 ta27 (by rfl) (by intro h; cases h)) rfl ?_
   refine DT_ev rfl (EA_move) rfl ?_
   refine DT_ev rfl (EA_move) rfl ?_
   refine DT_ev rfl (EA_ix_sl rfl rfl te25 ts9 (by omega) (by assumption)) rfl ?_
   refine DT_ev rfl (EA_load_rp rfl rfl rfl ts9 ta9 rfl (fun _ => rfl)) rfl ?_
   refine DT_fcall0 rfl rfl cl20 (c_specKnown d v hb) rfl rfl ?_
   refine DT_ev rfl (EA_not rfl) rfl ?_
   refine Zd hK14 ?_
   refine Zc (fun hc3 => ?_) fun hc3 => ?_
   ·refine AC_region ?_
    iterate 3 refine Zm ?_
    refine Yi te25 ts9 ?_
    refine Yp ts9 ta9 ?_
    refine AL_fcall0 hT rfl cl41 (c_l23Add ou2 v (by omega)) rfl rfl ?_
    refine Za ?_
    refine Zn hK13 ?_
    refine AC_region ?_
    refine Zm ?_
    refine Ze (Ev_add rfl rfl _ (wrap_id (by omega) (by omega))) ?_
    refine Za ?_
    refine AL_nil ?_
    refine closeS (i + 1, onceL ou2 v) [] rfl rfl (by show (callsOf d u).length - (i + 1) < (callsOf d u).length - i; omega) ⟨hlt, ?_⟩ BxTo_nil Sl_
    exact ⟨by rw [hI2, if_neg (by simp_all)], hK2.once (callsOf_sub (List.mem_of_getElem? hu))⟩
   ·refine Zk hK13 ?_
    refine AC_region ?_
    refine Zm ?_
    refine Ze (Ev_add rfl rfl _ (wrap_id (by omega) (by omega))) ?_
    refine Za ?_
    refine AL_nil ?_
    refine closeS (i + 1, ou2) [] rfl rfl (by show (callsOf d u).length - (i + 1) < (callsOf d u).length - i; omega) ⟨hlt, ?_⟩ BxTo_nil Sl_
    exact ⟨by rw [hI2, if_pos (by simp_all)], hK2⟩
  ·have hj2 : i = (callsOf d u).length := by
    have : ¬ i < (callsOf d u).length := by simpa using hc2
    omega
   subst hj2
   refine Zx hK8 ?_
   refine AC_region ?_
   refine Zm ?_
   refine Ze (Ev_add rfl rfl _ (wrap_id (by omega) (by omega))) ?_
   refine Za ?_
   refine AL_nil ?_
   refine closeS (j + 1, ou2) [] rfl rfl (by show ps.length - (j + 1) < ps.length - j; omega) ⟨hlt, ?_⟩ BxTo_nil Sl_
   rw [List.drop_length, addMiss] at hI2
   exact ⟨by rw [hI, hI2], hK2⟩
 ·have hj2 : j = ps.length := by
   have : ¬ j < ps.length := by simpa using hc1
   omega
  subst hj2
  rw [List.drop_length] at hI
  refine Zx hK4 ?_
  refine Zs fun _ hK15 => ?_
  refine Zm ?_
  refine Za ?_
  refine Zn hK15 ?_
  refine AC_ret ?_
  refine Zr hdm ?_
  rw [missP] at hI
  rw [hI]
end Go.Proofs.YtjgliechbnommaaGreatDoor
set_option linter.unusedVariables false
set_option linter.unusedSimpArgs false
namespace Go.Proofs.YtjgliechbnommaaGreatDoor
open Go.Eng
set_option maxHeartbeats 1000000 in
set_option maxRecDepth 4000 in
theorem c_unreached (d : Dbt) (es : List ByteArray) (hb : bulkD d + (es.length + bulkSs es) ≤ 1048576) : NCall Tryz.prog 23 [injD d, .sl .one (strs es)] 9 (unreached d es) := by
 have hsn := bulkSs_nn es
 obtain ⟨hnc, hbc, hno, hbo⟩ := bulkD_bd (cs := d.cs) (op := d.op) (B := 1048576) (by show bulkD d ≤ _; omega)
 have hwr := wR_bd hb
 have hpl := predsF_len d.cs []
 simp only [List.length_nil] at hpl
 have hcu := fun u => reachedFrom_len d u
 obtain ⟨ps, hps⟩ : ∃ ps, ps = predsF d.cs [] := ⟨_, rfl⟩
 have hmd : unreached d es = ps.filter fun x => !hasS (appR d es es) x := by rw [hps]; exact unreached_app d es
 rw [← hps] at hpl
 refine NCall_of (n := 42) Tryz.func23 rfl rfl (Nat.le_of_ble_eq_true rfl) fun C hdm hT => ?_
 refine Zs fun _ hK1 => ?_
 refine AL_box (Lay.st [.one, .one]) (nf rfl) rfl (by rfl) _ rfl rfl ?_
 refine Za ?_
 refine Zn hK1 ?_
 refine Zs fun _ hK2 => ?_
 refine Zm ?_
 refine AL_appendn (l := .one) rfl te25 ts9 tz9 rfl tb9 (by decide) (by decide) rfl (by simp only [lim]; simp; omega) _ rfl rfl ?_
 refine Za ?_
 refine Zn hK2 ?_
 refine AC_seq fun _ hK3 => ?_
 refine Zs fun _ hK4 => ?_
 refine Zm ?_
 refine AL_lim (x := (Operand.tmp 13)) rfl fun hl1 => ?_
 try simp only [injs_length, ints_length, strs_length, injCs_length, u8s_length, List.length_map] at hl1
 refine Ze (Ev_len_strs te25 rfl) ?_
 refine Zm ?_
 refine Zn hK4 ?_
 refine AC_block ?_
 refine AC_loopS [13, 14] (Nat × List ByteArray) (fun ⟨j, out⟩ => [(15, i64 j), (5, .ref .one 0 0 (strs out).length), (2, .d (.rp (Lay.st [.one, .one]) (injD d) []))]) (fun ⟨j, out⟩ => [some ⟨9, .one, (strs out).map V.d⟩]) (fun st => es.length - st.1) (fun ⟨j, out⟩ => j ≤ es.length ∧ (appR d es es = appR d (es.drop j) out ∧ out.length + wR d (es.drop j) ≤ 1099511627776)) ((0, es)) ?_ ?_ ?_
 ·exact enterS [some 2] rfl rfl (BxTo_some rfl rfl rfl rfl (by exact VwL_dd (by rfl)) BxTo_nil) Sl_
 ·exact ⟨Nat.zero_le _, by simp, by simpa using hwr⟩
 rintro ⟨j, out⟩ ⟨hj, ⟨hI, ho⟩⟩
 show AC _ _ _ _ _ (FS [13, 14] _ [(15, i64 j), (5, .ref .one 0 0 (strs out).length), (2, .d (.rp (Lay.st [.one, .one]) (injD d) []))]) [some ⟨9, .one, (strs out).map V.d⟩]
 refine Zs fun _ hK5 => ?_
 refine Ze (Ev_lss rfl rfl) ?_
 refine Zn hK5 ?_
 refine AC_seq fun _ hK6 => ?_
 refine Zc (fun hc1 => ?_) fun hc1 => ?_
 ·have hlt : j < es.length := by simpa using hc1
  obtain ⟨u, hu⟩ : ∃ x, es[j]? = some x := ⟨_, List.getElem?_eq_getElem hlt⟩
  have hu2 := strs_get hu
  have hdr := drop_get hu
  rw [hdr, appR] at hI
  rw [hdr, wR] at ho
  refine Zk hK6 ?_
  refine AC_seq fun _ hK7 => ?_
  refine AC_block ?_
  refine Zs fun _ hK8 => ?_
  refine Yi te25 ts9 ?_
  refine Yp ts9 ta9 ?_
  refine Za ?_
  refine Zn hK8 ?_
  refine AC_region ?_
  refine Zm ?_
  refine YP ts27 ta27 ?_
  refine Zm ?_
  refine AL_fcall0 hT rfl cl18 ((c_reachedFromN d u (by omega)).ocall.pcall) rfl rfl ?_
  refine AL_append rfl rfl rfl te25 ts9 tz9 rfl tb9 (by decide) (by decide) rfl (by (simp; done)) (Src_sl rfl) (by simp only [lim]; (simp; omega)) _ rfl rfl ?_
  refine Za ?_
  refine Zn hK7 ?_
  refine AC_region ?_
  refine Ze (Ev_add rfl rfl _ (wrap_id (by omega) (by omega))) ?_
  refine Zm ?_
  refine AL_nil ?_
  refine closeS (j + 1, out ++ reachedFrom d u) [some 1] rfl rfl (by show es.length - (j + 1) < es.length - j; omega) ⟨hlt, ?_⟩ (BxTo_some rfl rfl rfl rfl (by exact VwL_app (by simp [strs])) BxTo_nil) Sl_
  exact ⟨hI, by simp only [List.length_append]; omega⟩
 ·have hj2 : j = es.length := by
   have : ¬ j < es.length := by simpa using hc1
   omega
  subst hj2
  rw [List.drop_length] at hI
  refine Zx hK3 ?_
  refine Zs fun _ hK9 => ?_
  refine Za ?_
  refine Zn hK9 ?_
  refine AC_seq fun _ hK10 => ?_
  refine Zs fun _ hK11 => ?_
  refine YP ts27 ta27 ?_
  refine AL_fcall0 hT rfl cl16 (hps ▸ (c_predsOf d (by omega)).pcall) rfl rfl ?_
  refine AL_lim (x := (Operand.tmp 26)) rfl fun hl2 => ?_
  try simp only [injs_length, ints_length, strs_length, injCs_length, u8s_length, List.length_map] at hl2
  refine Ze (Ev_len_strs te25 rfl) ?_
  refine Zm ?_
  refine Zn hK11 ?_
  refine AC_block ?_
  refine AC_loopS [26, 27] (Nat × List ByteArray) (fun ⟨j2, fo⟩ => [(28, i64 j2), (8, .ref .one 0 0 (strs fo).length), (5, .d (.sl .one (strs out)))]) (fun ⟨j2, fo⟩ => [some ⟨9, .one, (strs fo).map V.d⟩]) (fun st => ps.length - st.1) (fun ⟨j2, fo⟩ => j2 ≤ ps.length ∧ (ps.filter (fun x => !hasS out x) = fo ++ (ps.drop j2).filter (fun x => !hasS out x) ∧ fo.length ≤ j2)) ((0, [])) ?_ ?_ ?_
  ·refine Wk.then (Wk_nil_slot 8 9 .one rfl 1 rfl ?_)
   exact enterS [some 1] rfl rfl (BxTo_some rfl rfl rfl rfl (by exact .nil) BxTo_nil) (SlTo_cons (by exact .rd .d) (SlTo_cons (Vw_refe rfl (by rfl)) (SlTo_cons (by exact .rd (.ref (srcFree rfl) rfl rfl (by simp) (ReadsL_d _))) Sl_)))
  ·exact ⟨Nat.zero_le _, by simp, by simp⟩
  rintro ⟨j2, fo⟩ ⟨hj, ⟨hI3, ho3⟩⟩
  show AC _ _ _ _ _ (FS [26, 27] _ [(28, i64 j2), (8, .ref .one 0 0 (strs fo).length), (5, .d (.sl .one (strs out)))]) [some ⟨9, .one, (strs fo).map V.d⟩]
  refine Zs fun _ hK12 => ?_
  refine Ze (Ev_lss rfl rfl) ?_
  refine Zn hK12 ?_
  refine AC_seq fun _ hK13 => ?_
  refine Zc (fun hc2 => ?_) fun hc2 => ?_
  ·have hlt : j2 < ps.length := by simpa using hc2
   obtain ⟨v, hu⟩ : ∃ x, ps[j2]? = some x := ⟨_, List.getElem?_eq_getElem hlt⟩
   have hu2 := strs_get hu
   have hdr := drop_get hu
   rw [hdr, List.filter_cons] at hI3
   refine Zk hK13 ?_
   refine AC_seq fun _ hK14 => ?_
   refine AC_block ?_
   refine Zs fun _ hK15 => ?_
   refine Yi te25 ts9 ?_
   refine Yp ts9 ta9 ?_
   refine Za ?_
   refine Zn hK15 ?_
   refine Zs fun _ hK16 => ?_
   iterate 2 refine Zm ?_
   refine AL_fcall0 hT rfl cl55 (c_containsS out v) rfl rfl ?_
   refine Ze (Ev_not rfl) ?_
   refine Zn hK16 ?_
   refine Zc (fun hc3 => ?_) fun hc3 => ?_
   ·refine AC_region ?_
    iterate 2 refine Zm ?_
    refine AL_bD .one rfl te25 ts9 tz9 rfl rfl (by decide) (by decide) (by rfl) rfl ?_
    refine AL_append rfl rfl rfl te25 ts9 tz9 rfl tb9 (by decide) (by decide) rfl (by (simp; done)) (Src_sl rfl) (by simp only [lim]; (simp; omega)) _ rfl rfl ?_
    refine Za ?_
    refine Zn hK14 ?_
    refine AC_region ?_
    refine Ze (Ev_add rfl rfl _ (wrap_id (by omega) (by omega))) ?_
    refine Zm ?_
    refine AL_nil ?_
    refine closeS (j2 + 1, fo ++ [v]) [some 1] rfl rfl (by show ps.length - (j2 + 1) < ps.length - j2; omega) ⟨hlt, ?_⟩ (BxTo_some rfl rfl rfl rfl (by exact VwL_app (by simp [ints, strs])) BxTo_nil) Sl_
    exact ⟨by rw [hI3, if_pos (by simp_all)]; simp, by simp; omega⟩
   ·refine Zk hK14 ?_
    refine AC_region ?_
    refine Ze (Ev_add rfl rfl _ (wrap_id (by omega) (by omega))) ?_
    refine Zm ?_
    refine AL_nil ?_
    refine closeS (j2 + 1, fo) [some 0] rfl rfl (by show ps.length - (j2 + 1) < ps.length - j2; omega) ⟨hlt, ?_⟩ (BxTo_some rfl rfl rfl rfl (by exact VwL_dd (by rfl)) BxTo_nil) Sl_
    exact ⟨by rw [hI3, if_neg (by simp_all)], by omega⟩
  ·have hj2 : j2 = ps.length := by
    have : ¬ j2 < ps.length := by simpa using hc2
    omega
   subst hj2
   refine Zx hK10 ?_
   refine Zs fun _ hK17 => ?_
   refine Zm ?_
   refine Za ?_
   refine Zn hK17 ?_
   refine AC_ret ?_
   rw [appR] at hI
   rw [List.drop_length] at hI3
   simp only [List.filter_nil, List.append_nil] at hI3
   rw [show unreached d es = fo from by rw [hmd, hI, hI3]]
   exact retn_ok hdm (.tmp rfl rfl .nil) rfl (by rfl) (by simp)
set_option maxHeartbeats 1000000 in
set_option maxRecDepth 4000 in
theorem c_specUnreached (d : Dbt) (es : List ByteArray) (hb : bulkD d + (es.length + bulkSs es) ≤ 1048576) : PCall Tryz.prog 31 [injD d, .sl .one (strs es)] (· = [.sl .one (strs (unreached d es))]) := by
 have hsn := bulkSs_nn es
 obtain ⟨hnc, hbc, hno, hbo⟩ := bulkD_bd (cs := d.cs) (op := d.op) (B := 1048576) (by show bulkD d ≤ _; omega)
 have hwr := wR_bd hb
 have hpl := predsF_len d.cs []
 simp only [List.length_nil] at hpl
 have hcu := fun u => reachedFrom_len d u
 obtain ⟨ps, hps⟩ : ∃ ps, ps = predsF d.cs [] := ⟨_, rfl⟩
 have hmd : unreached d es = ps.filter fun x => !hasS (addR d es es) x := by rw [hps]; exact unreached_add d es
 rw [← hps] at hpl
 refine PCall_of (n := 63) Tryz.func31 rfl rfl (Nat.le_of_ble_eq_true rfl) fun C hdm hT0 => ?_
 have hT := hT0
 refine Zs fun _ hK1 => ?_
 refine AL_box (Lay.st [.one, .one]) (nf rfl) rfl (by rfl) _ rfl rfl ?_
 refine Za ?_
 refine Zn hK1 ?_
 refine Zs fun _ hK2 => ?_
 refine AL_bV .one rfl te25 ts9 tz9 rfl rfl (by decide) (by decide) (by rfl) _ rfl rfl ?_
 refine Zm ?_
 refine AL_append rfl rfl rfl te25 ts9 tz9 rfl tb9 (by decide) (by decide) rfl (by rfl) (Src_sl rfl) (by simp only [lim]; (simp; omega)) _ rfl rfl ?_
 refine Za ?_
 refine Zn hK2 ?_
 refine AC_seq fun _ hK3 => ?_
 refine Zs fun _ hK4 => ?_
 refine Za ?_
 refine Zn hK4 ?_
 refine AC_block ?_
 refine AC_loopS [1] (Nat × List ByteArray) (fun ⟨j, out⟩ => [(6, i64 j), (5, .d (.sl .one (strs out))), (2, .d (.rp (Lay.st [.one, .one]) (injD d) []))]) (fun ⟨j, out⟩ => []) (fun st => es.length - st.1) (fun ⟨j, out⟩ => j ≤ es.length ∧ (addR d es es = addR d (es.drop j) out ∧ out.length + wR d (es.drop j) ≤ 1099511627776)) ((0, es)) ?_ ?_ ?_
 ·exact enterS [] rfl rfl BxTo_nil (SlTo_cons (by exact .rd .d) (SlTo_cons (by exact .rd (.ref (srcFree rfl) rfl rfl (by simp) (ReadsL_eq (by simp)))) Sl_))
 ·exact ⟨Nat.zero_le _, by simp, by simpa using hwr⟩
 rintro ⟨j, out⟩ ⟨hj, ⟨hI, ho⟩⟩
 show AC _ _ _ _ _ (FS [1] _ [(6, i64 j), (5, .d (.sl .one (strs out))), (2, .d (.rp (Lay.st [.one, .one]) (injD d) []))]) []
 refine AC_seq fun _ hK5 => ?_
 refine Zs fun _ hK6 => ?_
 iterate 2 refine Zm ?_
 refine AL_lim (x := (Operand.tmp 16)) rfl fun hl1 => ?_
 try simp only [injs_length, ints_length, strs_length, injCs_length, u8s_length, List.length_map] at hl1
 refine Ze (Ev_len_strs te25 rfl) ?_
 refine Ze (Ev_lss rfl rfl) ?_
 refine Zn hK6 ?_
 refine Zc (fun hc1 => ?_) fun hc1 => ?_
 ·have hlt : j < es.length := by simpa using hc1
  obtain ⟨u, hu⟩ : ∃ x, es[j]? = some x := ⟨_, List.getElem?_eq_getElem hlt⟩
  have hu2 := strs_get hu
  have hdr := drop_get hu
  rw [hdr, addR] at hI
  rw [hdr, wR] at ho
  have hcv := hcu u
  refine Zk hK5 ?_
  refine AC_seq fun _ hK7 => ?_
  refine AC_block ?_
  refine AC_seq fun _ hK8 => ?_
  refine AC_draw hT follows [0, 1, 2, 3, 4, 5, 6] (by kernel_rfl) ?_
  refine DT_ev rfl (EA_load_rp rfl rfl rfl ts27 ta27 (by rfl) (by intro h; cases h)) rfl ?_
  refine DT_ev rfl (EA_move) rfl ?_
  refine DT_ev rfl (EA_move) rfl ?_
  refine DT_ev rfl (EA_ix_sl rfl rfl te25 ts9 (by omega) (by assumption)) rfl ?_
  refine DT_ev rfl (EA_load_rp rfl rfl rfl ts9 ta9 rfl (fun _ => rfl)) rfl ?_
  refine DT_fcall0 rfl rfl cl30 (c_specReachedFrom d u (by omega)) rfl rfl ?_
  refine DT_ev rfl (EA_assign) rfl ?_
  refine Zd hK8 ?_
  refine Zs fun _ hK9 => ?_
  refine Za ?_
  refine Zn hK9 ?_
  refine AC_block ?_
  refine AC_loopS [1, 2, 6, 7] (Nat × List ByteArray) (fun ⟨i, ou2⟩ => [(8, i64 i), (5, .d (.sl .one (strs ou2)))]) (fun ⟨i, ou2⟩ => []) (fun st => (reachedFrom d u).length - st.1) (fun ⟨i, ou2⟩ => i ≤ (reachedFrom d u).length ∧ (addAll out (reachedFrom d u) = addAll ou2 ((reachedFrom d u).drop i) ∧ ou2.length + ((reachedFrom d u).drop i).length + wR d (es.drop (j + 1)) ≤ 1099511627776)) ((0, out)) ?_ ?_ ?_
  ·exact enterS [] rfl rfl BxTo_nil Sl_
  ·exact ⟨Nat.zero_le _, by simp, by simp; omega⟩
  rintro ⟨i, ou2⟩ ⟨hj, ⟨hI2, ho2⟩⟩
  show AC _ _ _ _ _ (FS [1, 2, 6, 7] _ [(8, i64 i), (5, .d (.sl .one (strs ou2)))]) []
  refine AC_seq fun _ hK10 => ?_
  refine Zs fun _ hK11 => ?_
  iterate 2 refine Zm ?_
  refine AL_lim (x := (Operand.tmp 28)) rfl fun hl2 => ?_
  try simp only [injs_length, ints_length, strs_length, injCs_length, u8s_length, List.length_map] at hl2
  refine Ze (Ev_len_strs te25 rfl) ?_
  refine Ze (Ev_lss rfl rfl) ?_
  refine Zn hK11 ?_
  refine Zc (fun hc2 => ?_) fun hc2 => ?_
  ·have hlt : i < (reachedFrom d u).length := by simpa using hc2
   obtain ⟨v, hu⟩ : ∃ x, (reachedFrom d u)[i]? = some x := ⟨_, List.getElem?_eq_getElem hlt⟩
   have hu2 := strs_get hu
   have hdr := drop_get hu
   rw [hdr] at hI2 ho2
   rw [addAll] at hI2
   rw [List.length_cons] at ho2
   have hol := onceL_len ou2 v
   refine Zk hK10 ?_
   refine AC_seq fun _ hK12 => ?_
   refine AC_block ?_
   refine AC_region ?_
   iterate 3 refine Zm ?_
   refine Yi te25 ts9 ?_
   refine Yp ts9 ta9 ?_
   refine AL_fcall0 hT rfl cl41 (c_l23Add ou2 v (by omega)) rfl rfl ?_
   refine Za ?_
   refine Zn hK12 ?_
   refine AC_region ?_
   refine Zm ?_
   refine Ze (Ev_add rfl rfl _ (wrap_id (by omega) (by omega))) ?_
   refine Za ?_
   refine AL_nil ?_
   refine closeS (i + 1, onceL ou2 v) [] rfl rfl (by show (reachedFrom d u).length - (i + 1) < (reachedFrom d u).length - i; omega) ⟨hlt, ?_⟩ BxTo_nil Sl_
   exact ⟨hI2, by omega⟩
  ·have hj2 : i = (reachedFrom d u).length := by
    have : ¬ i < (reachedFrom d u).length := by simpa using hc2
    omega
   subst hj2
   refine Zx hK7 ?_
   refine AC_region ?_
   refine Zm ?_
   refine Ze (Ev_add rfl rfl _ (wrap_id (by omega) (by omega))) ?_
   refine Za ?_
   refine AL_nil ?_
   refine closeS (j + 1, ou2) [] rfl rfl (by show es.length - (j + 1) < es.length - j; omega) ⟨hlt, ?_⟩ BxTo_nil Sl_
   rw [List.drop_length, addAll] at hI2
   rw [List.drop_length] at ho2
   exact ⟨by rw [hI, hI2], by simp at ho2; omega⟩
 ·have hj2 : j = es.length := by
   have : ¬ j < es.length := by simpa using hc1
   omega
  subst hj2
  rw [List.drop_length] at hI
  refine Zx hK3 ?_
  refine Zs fun _ hK13 => ?_
  refine AL_bV .one rfl te25 ts9 tz9 rfl rfl (by decide) (by decide) (by rfl) _ rfl rfl ?_
  refine Za ?_
  refine Zn hK13 ?_
  refine Zs fun _ hK14 => ?_
  refine YP ts27 ta27 ?_
  refine AL_fcall0 hT rfl cl9 (hps ▸ c_specPredsOf d (by omega)) rfl rfl ?_
  refine Za ?_
  refine Zn hK14 ?_
  refine AC_seq fun _ hK15 => ?_
  refine Zs fun _ hK16 => ?_
  refine Za ?_
  refine Zn hK16 ?_
  refine AC_block ?_
  refine AC_loopS [5, 10] (Nat × List ByteArray) (fun ⟨j2, fo⟩ => [(11, i64 j2), (9, .ref .one 0 0 (strs fo).length)]) (fun ⟨j2, fo⟩ => [some ⟨9, .one, (strs fo).map V.d⟩]) (fun st => ps.length - st.1) (fun ⟨j2, fo⟩ => j2 ≤ ps.length ∧ (ps.filter (fun x => !hasS out x) = fo ++ (ps.drop j2).filter (fun x => !hasS out x) ∧ fo.length ≤ j2)) ((0, [])) ?_ ?_ ?_
  ·exact enterS [some 0] rfl rfl (BxTo_some rfl rfl rfl rfl (by exact .nil) BxTo_nil) Sl_
  ·exact ⟨Nat.zero_le _, by simp, by simp⟩
  rintro ⟨j2, fo⟩ ⟨hj, ⟨hI3, ho3⟩⟩
  show AC _ _ _ _ _ (FS [5, 10] _ [(11, i64 j2), (9, .ref .one 0 0 (strs fo).length)]) [some ⟨9, .one, (strs fo).map V.d⟩]
  refine AC_seq fun _ hK17 => ?_
  refine Zs fun _ hK18 => ?_
  iterate 2 refine Zm ?_
  refine AL_lim (x := (Operand.tmp 43)) rfl fun hl3 => ?_
  try simp only [injs_length, ints_length, strs_length, injCs_length, u8s_length, List.length_map] at hl3
  refine Ze (Ev_len_strs te25 rfl) ?_
  refine Ze (Ev_lss rfl rfl) ?_
  refine Zn hK18 ?_
  refine Zc (fun hc3 => ?_) fun hc3 => ?_
  ·have hlt : j2 < ps.length := by simpa using hc3
   obtain ⟨v, hu⟩ : ∃ x, ps[j2]? = some x := ⟨_, List.getElem?_eq_getElem hlt⟩
   have hu2 := strs_get hu
   have hdr := drop_get hu
   rw [hdr, List.filter_cons] at hI3
   refine Zk hK17 ?_
   refine AC_seq fun _ hK19 => ?_
   refine AC_block ?_
   refine Zs fun _ hK20 => ?_
   iterate 3 refine Zm ?_
   refine Yi te25 ts9 ?_
   refine Yp ts9 ta9 ?_
   refine AL_fcall0 hT rfl cl50 (c_l23Has out v) rfl rfl ?_
   refine Ze (Ev_not rfl) ?_
   refine Zn hK20 ?_
   refine Zc (fun hc4 => ?_) fun hc4 => ?_
   ·refine AC_region ?_
    iterate 3 refine Zm ?_
    refine Yi te25 ts9 ?_
    refine Yp ts9 ta9 ?_
    refine AL_bD .one rfl te25 ts9 tz9 rfl rfl (by decide) (by decide) (by rfl) rfl ?_
    refine AL_append rfl rfl rfl te25 ts9 tz9 rfl tb9 (by decide) (by decide) rfl (by (simp; done)) (Src_sl rfl) (by simp only [lim]; (simp; omega)) _ rfl rfl ?_
    refine Za ?_
    refine Zn hK19 ?_
    refine AC_region ?_
    refine Zm ?_
    refine Ze (Ev_add rfl rfl _ (wrap_id (by omega) (by omega))) ?_
    refine Za ?_
    refine AL_nil ?_
    refine closeS (j2 + 1, fo ++ [v]) [some 1] rfl rfl (by show ps.length - (j2 + 1) < ps.length - j2; omega) ⟨hlt, ?_⟩ (BxTo_some rfl rfl rfl rfl (by exact VwL_app (by simp [ints, strs])) BxTo_nil) Sl_
    exact ⟨by rw [hI3, if_pos (by simp_all)]; simp, by simp; omega⟩
   ·refine Zk hK19 ?_
    refine AC_region ?_
    refine Zm ?_
    refine Ze (Ev_add rfl rfl _ (wrap_id (by omega) (by omega))) ?_
    refine Za ?_
    refine AL_nil ?_
    refine closeS (j2 + 1, fo) [some 0] rfl rfl (by show ps.length - (j2 + 1) < ps.length - j2; omega) ⟨hlt, ?_⟩ (BxTo_some rfl rfl rfl rfl (by exact VwL_dd (by rfl)) BxTo_nil) Sl_
    exact ⟨by rw [hI3, if_neg (by simp_all)], by omega⟩
  ·have hj2 : j2 = ps.length := by
    have : ¬ j2 < ps.length := by simpa using hc3
    omega
   subst hj2
   refine Zx hK15 ?_
   refine Zs fun _ hK21 => ?_
   refine Zm ?_
   refine Za ?_
   refine Zn hK21 ?_
   refine AC_ret ?_
   refine ret_ok hdm (.tmp rfl rfl .nil) (.cons (.ref trivial rfl rfl (by simp) (ReadsL_d _)) .nil) ?_
   rw [addR] at hI
   rw [List.drop_length] at hI3
   simp only [List.filter_nil, List.append_nil] at hI3
   rw [show unreached d es = fo from by rw [hmd, hI, hI3]]
end Go.Proofs.YtjgliechbnommaaGreatDoor
set_option linter.unusedVariables false
set_option linter.unusedSimpArgs false
namespace Go.Proofs.YtjgliechbnommaaGreatDoor
open Go.Eng
theorem tz3 : tyZero Tryz.prog 3 = some (some (.int .i64 0)) := by kernel_rfl
theorem ta4 : tyAgg Tryz.prog 4 = some false := by kernel_rfl
theorem tbool4 : tyBool Tryz.prog 4 = true := by kernel_rfl
theorem te30 : tyElem Tryz.prog 30 = some 3 := by kernel_rfl
theorem ts4 : tySize Tryz.prog 4 = some 1 := by kernel_rfl
end Go.Proofs.YtjgliechbnommaaGreatDoor
set_option linter.unusedVariables false
set_option linter.unusedSimpArgs false
namespace Go.Proofs.YtjgliechbnommaaGreatDoor
open Go.Eng
theorem cl142 : Callable Tryz.prog 142 := Zq Tryz.func142
theorem cl164 : Callable Tryz.prog 164 := Zq Tryz.func164
set_option maxHeartbeats 1000000 in
set_option maxRecDepth 4000 in
theorem c_l08Head (t : T) (hb : bulk t ≤ 1099511627776) : PCall Tryz.prog 142 [inj t] (· = [.c (.bool (headB t))]) := by
 refine PCall_of (n := 13) Tryz.func142 rfl rfl (Nat.le_of_ble_eq_true rfl) fun C hdm hT0 => ?_
 have hT := hT0
 refine Zs fun _ hK1 => ?_
 refine AL_box (Lay.st [.one, .one, .one, .one]) (nf rfl) rfl (by simp [Lay.len, Lay.lens]) _ rfl rfl ?_
 refine Za ?_
 refine Zn hK1 ?_
 refine Zs fun _ hK2 => ?_
 refine YL ts41 ta41 ?_
 refine AL_fcall0 hT rfl cl34 (c_specPredOf t hb) rfl rfl ?_
 refine Za ?_
 refine Zn hK2 ?_
 refine Zs fun _ hK3 => ?_
 refine Zm ?_
 refine Ze (Ev_sneq rfl rfl) ?_
 refine Zm ?_
 refine Zb 8 (fun hg1 => ?_) fun hg1 => ?_
 ·refine Zt ?_
  refine Zm ?_
  refine Zt ?_
  refine AL_fcall0 hT rfl cl98 (c_specControl (predS t)) rfl rfl ?_
  refine Zt ?_
  refine Ze (Ev_not rfl) ?_
  refine Zp ?_
  refine Za ?_
  refine Zn hK3 ?_
  refine AC_ret ?_
  refine Zr hdm ?_
  simp_all [headB]
 ·iterate 3 refine Zg ?_
  refine Zp ?_
  refine Za ?_
  refine Zn hK3 ?_
  refine AC_ret ?_
  refine Zr hdm ?_
  simp_all [headB]
set_option maxHeartbeats 1000000 in
set_option maxRecDepth 4000 in
theorem c_l08Clause (c : Cl) (h1 : bulk c.h ≤ 1099511627776) (h2 : bulk c.b ≤ 1099511627776) : PCall Tryz.prog 164 [injC c] (· = [.c (.bool (clB c))]) := by
 obtain ⟨h, b, f⟩ := c
 refine PCall_of (n := 16) Tryz.func164 rfl rfl (Nat.le_of_ble_eq_true rfl) fun C hdm hT0 => ?_
 have hT := hT0
 refine Zs fun _ hK1 => ?_
 refine AL_box (Lay.st [(Lay.st [.one, .one, .one, .one]), (Lay.st [.one, .one, .one, .one]), .one]) (nf rfl) rfl (by rfl) _ rfl rfl ?_
 refine Za ?_
 refine Zn hK1 ?_
 refine Zs fun _ hK2 => ?_
 refine Ya fa54_0 ?_
 refine YL ts41 ta41 ?_
 refine AL_fcall0 hT rfl cl64 (c_specTermOk h h1) rfl rfl ?_
 refine Zm ?_
 refine Zb 6 (fun hg1 => ?_) fun hg1 => ?_
 ·refine Zt ?_
  refine Ya fa54_1 ?_
  refine Zt ?_
  refine YL ts41 ta41 ?_
  refine Zt ?_
  refine AL_fcall0 hT rfl cl64 (c_specTermOk b h2) rfl rfl ?_
  refine Zp ?_
  refine Zm ?_
  refine Zb 11 (fun hg2 => ?_) fun hg2 => ?_
  ·refine Zt ?_
   refine Ya fa54_0 ?_
   refine Zt ?_
   refine YL ts41 ta41 ?_
   refine Zt ?_
   refine AL_fcall0 hT rfl cl142 (c_l08Head h h1) rfl rfl ?_
   refine Zp ?_
   refine Za ?_
   refine Zn hK2 ?_
   refine AC_ret ?_
   refine Zr hdm ?_
   simp_all [clB]
  ·iterate 3 refine Zg ?_
   refine Zp ?_
   refine Za ?_
   refine Zn hK2 ?_
   refine AC_ret ?_
   refine Zr hdm ?_
   simp_all [clB]
 ·iterate 3 refine Zg ?_
  refine Zp ?_
  refine Zm ?_
  iterate 3 refine Zg ?_
  refine Zp ?_
  refine Za ?_
  refine Zn hK2 ?_
  refine AC_ret ?_
  refine Zr hdm ?_
  simp_all [clB]
set_option maxHeartbeats 1000000 in
set_option maxRecDepth 4000 in
theorem c_specDbOk (d : Dbt) (hb : bulkD d ≤ 1099511627775) : PCall Tryz.prog 144 [injD d] (· = [.c (.bool (dbB d))]) := by
 obtain ⟨cs, op⟩ := d
 obtain ⟨hnc, hbc, hno, hbo⟩ := bulkD_bd hb
 refine PCall_of (n := 28) Tryz.func144 rfl rfl (Nat.le_of_ble_eq_true rfl) fun C hdm hT0 => ?_
 have hT := hT0
 refine Zs fun _ hK1 => ?_
 refine AL_box (Lay.st [.one, .one]) (nf rfl) rfl (by rfl) _ rfl rfl ?_
 refine Za ?_
 refine Zn hK1 ?_
 refine AC_seq fun _ hK2 => ?_
 refine Zs fun _ hK3 => ?_
 refine Za ?_
 refine Zn hK3 ?_
 refine AC_block ?_
 refine AC_loopS [] (Nat) (fun j => [(3, i64 j), (1, .d (.rp (Lay.st [.one, .one]) (injD ⟨cs, op⟩) []))]) (fun j => []) (fun st => cs.length - st) (fun j => j ≤ cs.length ∧ cs.all clB = (cs.drop j).all clB) (0) ?_ ?_ ?_
 ·exact enterS [] rfl rfl BxTo_nil Sl_
 ·exact ⟨Nat.zero_le _, by simp⟩
 rintro j ⟨hj, hI⟩
 show AC _ _ _ _ _ (FS [] _ [(3, i64 j), (1, .d (.rp (Lay.st [.one, .one]) (injD ⟨cs, op⟩) []))]) []
 refine AC_seq fun _ hK4 => ?_
 refine Zs fun _ hK5 => ?_
 refine Zm ?_
 refine Yr fa27_0 ?_
 refine Yp ts24 ta24 ?_
 refine AL_lim (x := (Operand.tmp 6)) rfl fun hl1 => ?_
 try simp only [injs_length, ints_length, strs_length, injCs_length, u8s_length, List.length_map] at hl1
 refine Ze (Ev_len_injCs te24 rfl) ?_
 refine Ze (Ev_lss rfl rfl) ?_
 refine Zn hK5 ?_
 refine Zc (fun hc1 => ?_) fun hc1 => ?_
 ·have hlt : j < cs.length := by simpa using hc1
  obtain ⟨u, hu⟩ : ∃ x, cs[j]? = some x := ⟨_, List.getElem?_eq_getElem hlt⟩
  have hu2 := injCs_get hu
  have hdr := drop_get hu
  obtain ⟨hbu, hbv, _⟩ := bulkCs_bd (List.mem_of_getElem? hu) hbc
  refine Zk hK4 ?_
  refine AC_seq fun _ hK6 => ?_
  refine AC_block ?_
  refine Zs fun _ hK7 => ?_
  refine Yr fa27_0 ?_
  refine Yp ts24 ta24 ?_
  refine Zm ?_
  refine Yi te24 ts54 ?_
  refine YP ts54 ta54 ?_
  refine AL_fcall0 hT rfl cl164 (c_l08Clause u (by omega) (by omega)) rfl rfl ?_
  refine Ze (Ev_not rfl) ?_
  refine Zn hK7 ?_
  refine Zc (fun hc2 => ?_) fun hc2 => ?_
  ·refine Zs fun _ hK8 => ?_
   refine Za ?_
   refine Zn hK8 ?_
   refine AC_ret ?_
   refine Zr hdm ?_
   rw [dbB]
   try rw [hI]
   try rw [hdr]
   simp_all
  ·refine Zk hK6 ?_
   refine AC_region ?_
   refine Zm ?_
   refine Ze (Ev_add rfl rfl _ (wrap_id (by omega) (by omega))) ?_
   refine Za ?_
   refine AL_nil ?_
   refine closeS (j + 1) [] rfl rfl (by show cs.length - (j + 1) < cs.length - j; omega) ⟨hlt, ?_⟩ BxTo_nil Sl_
   rw [hI, hdr, List.all_cons]
   simp_all
 ·have hj2 : j = cs.length := by
   have : ¬ j < cs.length := by simpa using hc1
   omega
  subst hj2
  rw [List.drop_length] at hI
  refine Zx hK2 ?_
  refine Zs fun _ hK9 => ?_
  refine Yr fa27_0 ?_
  refine Yp ts24 ta24 ?_
  refine AL_lim (x := (Operand.tmp 19)) rfl fun hl2 => ?_
  try simp only [injs_length, ints_length, strs_length, injCs_length, u8s_length, List.length_map] at hl2
  refine Ze (Ev_len_injCs te24 rfl) ?_
  refine Ze (Ev_leq rfl rfl) ?_
  refine Zm ?_
  refine Zb 22 (fun hg3 => ?_) fun hg3 => ?_
  ·refine Zt ?_
   refine Yr fa27_1 ?_
   refine Zt ?_
   refine Yp ts25 ta25 ?_
   refine Zt ?_
   refine AL_lim (x := (Operand.tmp 24)) rfl fun hl3 => ?_
   try simp only [injs_length, ints_length, strs_length, injCs_length, u8s_length, List.length_map] at hl3
   refine Ze (Ev_len_strs te25 rfl) ?_
   refine Zt ?_
   refine Ze (Ev_leq rfl rfl) ?_
   refine Zp ?_
   refine Za ?_
   refine Zn hK9 ?_
   refine AC_ret ?_
   refine Zr hdm ?_
   rw [dbB]
   try rw [hI]
   simp_all
  ·iterate 4 refine Zg ?_
   refine Zp ?_
   refine Za ?_
   refine Zn hK9 ?_
   refine AC_ret ?_
   refine Zr hdm ?_
   rw [dbB]
   try rw [hI]
   simp_all
   try omega
end Go.Proofs.YtjgliechbnommaaGreatDoor
set_option linter.unusedVariables false
set_option linter.unusedSimpArgs false
namespace Go.Proofs.YtjgliechbnommaaGreatDoor
open Go.Eng
theorem cl135 : Callable Tryz.prog 135 := Zq Tryz.func135
theorem cl154 : Callable Tryz.prog 154 := Zq Tryz.func154
theorem cl155 : Callable Tryz.prog 155 := Zq Tryz.func155
theorem cl157 : Callable Tryz.prog 157 := Zq Tryz.func157
theorem cl160 : Callable Tryz.prog 160 := Zq Tryz.func160
theorem cl171 : Callable Tryz.prog 171 := Zq Tryz.func171
set_option maxHeartbeats 1000000 in
set_option maxRecDepth 4000 in
theorem c_symbol (n : Int) : PCall Tryz.prog 160 [.c (.int .u8 n)] (· = [.c (.bool (symB n))]) := by
 have hsy : symB n = symL (bts ⟨#[43, 45, 42, 47, 92, 94, 60, 62, 61, 126, 58, 46, 63, 64, 35, 38, 36]⟩) n := rfl
 refine PCall_of (n := 16) Tryz.func160 rfl rfl (Nat.le_of_ble_eq_true rfl) fun C hdm hT0 => ?_
 have hT := hT0
 refine Zs fun _ hK1 => ?_
 refine Za ?_
 refine Zn hK1 ?_
 refine Zs fun _ hK2 => ?_
 refine Za ?_
 refine Zn hK2 ?_
 refine AC_seq fun _ hK3 => ?_
 refine Zs fun _ hK4 => ?_
 refine Za ?_
 refine Zn hK4 ?_
 refine AC_block ?_
 refine AC_loopS [0, 3] (Nat) (fun j => [(4, i64 j)]) (fun j => []) (fun st => (bts ⟨#[43, 45, 42, 47, 92, 94, 60, 62, 61, 126, 58, 46, 63, 64, 35, 38, 36]⟩).length - st) (fun j => j ≤ (bts ⟨#[43, 45, 42, 47, 92, 94, 60, 62, 61, 126, 58, 46, 63, 64, 35, 38, 36]⟩).length ∧ symL (bts ⟨#[43, 45, 42, 47, 92, 94, 60, 62, 61, 126, 58, 46, 63, 64, 35, 38, 36]⟩) n = symL ((bts ⟨#[43, 45, 42, 47, 92, 94, 60, 62, 61, 126, 58, 46, 63, 64, 35, 38, 36]⟩).drop j) n) (0) ?_ ?_ ?_
 ·exact enterS [] rfl rfl BxTo_nil Sl_
 ·exact ⟨Nat.zero_le _, by simp⟩
 rintro j ⟨hj, hI⟩
 show AC _ _ _ _ _ (FS [0, 3] _ [(4, i64 j)]) []
 have hlb : (bts ⟨#[43, 45, 42, 47, 92, 94, 60, 62, 61, 126, 58, 46, 63, 64, 35, 38, 36]⟩).length ≤ 1099511627776 := by rw [bts_len]; decide
 refine AC_seq fun _ hK5 => ?_
 refine Zs fun _ hK6 => ?_
 iterate 2 refine Zm ?_
 refine Ze (Ev_len_str tstr9 rfl) ?_
 refine Ze (Ev_lss rfl rfl) ?_
 refine Zn hK6 ?_
 refine Zc (fun hc1 => ?_) fun hc1 => ?_
 ·have hlt : j < (bts ⟨#[43, 45, 42, 47, 92, 94, 60, 62, 61, 126, 58, 46, 63, 64, 35, 38, 36]⟩).length := by simpa using hc1
  obtain ⟨u, hu⟩ : ∃ x, (bts ⟨#[43, 45, 42, 47, 92, 94, 60, 62, 61, 126, 58, 46, 63, 64, 35, 38, 36]⟩)[j]? = some x := ⟨_, List.getElem?_eq_getElem hlt⟩
  have hu2 := bts_get hu
  have hdr := drop_get hu
  refine Zk hK5 ?_
  refine AC_seq fun _ hK7 => ?_
  refine AC_block ?_
  refine Zs fun _ hK8 => ?_
  iterate 2 refine Zm ?_
  refine Ze (Ev_ix_str tstr9 rfl rfl (by omega) (by assumption)) ?_
  refine Zm ?_
  refine Ze (Ev_eql rfl rfl) ?_
  refine Zn hK8 ?_
  refine Zc (fun hc2 => ?_) fun hc2 => ?_
  ·refine Zs fun _ hK9 => ?_
   refine Za ?_
   refine Zn hK9 ?_
   refine AC_ret ?_
   refine Zr hdm ?_
   try rw [hsy]
   try rw [hI]
   try rw [hdr]
   try simp_all [List.length_pos_iff, symL]
  ·refine Zk hK7 ?_
   refine AC_region ?_
   refine Zm ?_
   refine Ze (Ev_add rfl rfl _ (wrap_id (by omega) (by omega))) ?_
   refine Za ?_
   refine AL_nil ?_
   refine closeS (j + 1) [] rfl rfl (by show (bts ⟨#[43, 45, 42, 47, 92, 94, 60, 62, 61, 126, 58, 46, 63, 64, 35, 38, 36]⟩).length - (j + 1) < (bts ⟨#[43, 45, 42, 47, 92, 94, 60, 62, 61, 126, 58, 46, 63, 64, 35, 38, 36]⟩).length - j; omega) ⟨hlt, ?_⟩ BxTo_nil Sl_
   rw [hI]
   try rw [hdr]
   try simp_all [symL]
 ·have hj2 : j = (bts ⟨#[43, 45, 42, 47, 92, 94, 60, 62, 61, 126, 58, 46, 63, 64, 35, 38, 36]⟩).length := by
   have : ¬ j < (bts ⟨#[43, 45, 42, 47, 92, 94, 60, 62, 61, 126, 58, 46, 63, 64, 35, 38, 36]⟩).length := by simpa using hc1
   omega
  subst hj2
  rw [List.drop_length] at hI
  refine Zx hK3 ?_
  refine Zs fun _ hK10 => ?_
  refine Za ?_
  refine Zn hK10 ?_
  refine AC_ret ?_
  refine Zr hdm ?_
  try rw [hsy]
  try rw [hI]
  try simp_all [List.length_pos_iff, symL]
set_option maxHeartbeats 1000000 in
set_option maxRecDepth 4000 in
theorem c_small (n : Int) : PCall Tryz.prog 154 [.c (.int .u8 n)] (· = [.c (.bool (smallB n))]) := by
 refine PCall_of (n := 9) Tryz.func154 rfl rfl (Nat.le_of_ble_eq_true rfl) fun C hdm hT0 => ?_
 have hT := hT0
 refine Zs fun _ hK1 => ?_
 refine Za ?_
 refine Zn hK1 ?_
 refine Zs fun _ hK2 => ?_
 refine Zm ?_
 refine Ze (Ev_geq rfl rfl) ?_
 refine Zm ?_
 refine Zb 5 (fun hg1 => ?_) fun hg1 => ?_
 ·refine Zt ?_
  refine Zm ?_
  refine Zt ?_
  refine Ze (Ev_leq rfl rfl) ?_
  refine Zp ?_
  refine Za ?_
  refine Zn hK2 ?_
  refine AC_ret ?_
  refine Zr hdm ?_
  (simp_all [smallB]; done)
 ·iterate 2 refine Zg ?_
  refine Zp ?_
  refine Za ?_
  refine Zn hK2 ?_
  refine AC_ret ?_
  refine Zr hdm ?_
  (simp_all [smallB]; omega)
set_option maxHeartbeats 1000000 in
set_option maxRecDepth 4000 in
theorem c_great (n : Int) : PCall Tryz.prog 155 [.c (.int .u8 n)] (· = [.c (.bool (greatB n))]) := by
 refine PCall_of (n := 13) Tryz.func155 rfl rfl (Nat.le_of_ble_eq_true rfl) fun C hdm hT0 => ?_
 have hT := hT0
 refine Zs fun _ hK1 => ?_
 refine Za ?_
 refine Zn hK1 ?_
 refine Zs fun _ hK2 => ?_
 refine Zm ?_
 refine Ze (Ev_geq rfl rfl) ?_
 refine Zm ?_
 refine Zb 5 (fun hg1 => ?_) fun hg1 => ?_
 ·refine Zt ?_
  refine Zm ?_
  refine Zt ?_
  refine Ze (Ev_leq rfl rfl) ?_
  refine Zp ?_
  refine Zm ?_
  refine Zb 9 (fun hg2 => ?_) fun hg2 => ?_
  ·iterate 2 refine Zg ?_
   refine Zp ?_
   refine Za ?_
   refine Zn hK2 ?_
   refine AC_ret ?_
   refine Zr hdm ?_
   (simp_all [greatB]; done)
  ·refine Zt ?_
   refine Zm ?_
   refine Zt ?_
   refine Ze (Ev_eql rfl rfl) ?_
   refine Zp ?_
   refine Za ?_
   refine Zn hK2 ?_
   refine AC_ret ?_
   refine Zr hdm ?_
   (simp_all [greatB]; omega)
 ·iterate 2 refine Zg ?_
  refine Zp ?_
  refine Zm ?_
  refine Zt ?_
  refine Zm ?_
  refine Zt ?_
  refine Ze (Ev_eql rfl rfl) ?_
  refine Zp ?_
  refine Za ?_
  refine Zn hK2 ?_
  refine AC_ret ?_
  refine Zr hdm ?_
  (simp_all [greatB]; omega)
set_option maxHeartbeats 1000000 in
set_option maxRecDepth 4000 in
theorem c_fig (n : Int) : PCall Tryz.prog 157 [.c (.int .u8 n)] (· = [.c (.bool (figB n))]) := by
 refine PCall_of (n := 9) Tryz.func157 rfl rfl (Nat.le_of_ble_eq_true rfl) fun C hdm hT0 => ?_
 have hT := hT0
 refine Zs fun _ hK1 => ?_
 refine Za ?_
 refine Zn hK1 ?_
 refine Zs fun _ hK2 => ?_
 refine Zm ?_
 refine Ze (Ev_geq rfl rfl) ?_
 refine Zm ?_
 refine Zb 5 (fun hg1 => ?_) fun hg1 => ?_
 ·refine Zt ?_
  refine Zm ?_
  refine Zt ?_
  refine Ze (Ev_leq rfl rfl) ?_
  refine Zp ?_
  refine Za ?_
  refine Zn hK2 ?_
  refine AC_ret ?_
  refine Zr hdm ?_
  (simp_all [figB]; done)
 ·iterate 2 refine Zg ?_
  refine Zp ?_
  refine Za ?_
  refine Zn hK2 ?_
  refine AC_ret ?_
  refine Zr hdm ?_
  (simp_all [figB]; omega)
set_option maxHeartbeats 1000000 in
set_option maxRecDepth 4000 in
theorem c_blank (n : Int) : PCall Tryz.prog 135 [.c (.int .u8 n)] (· = [.c (.bool (blankB n))]) := by
 refine PCall_of (n := 13) Tryz.func135 rfl rfl (Nat.le_of_ble_eq_true rfl) fun C hdm hT0 => ?_
 have hT := hT0
 refine Zs fun _ hK1 => ?_
 refine Za ?_
 refine Zn hK1 ?_
 refine Zs fun _ hK2 => ?_
 refine Zm ?_
 refine Ze (Ev_eql rfl rfl) ?_
 refine Zm ?_
 refine Zb 5 (fun hg1 => ?_) fun hg1 => ?_
 ·iterate 2 refine Zg ?_
  refine Zp ?_
  refine Zm ?_
  iterate 2 refine Zg ?_
  refine Zp ?_
  refine Za ?_
  refine Zn hK2 ?_
  refine AC_ret ?_
  refine Zr hdm ?_
  (simp_all [blankB]; done)
 ·refine Zt ?_
  refine Zm ?_
  refine Zt ?_
  refine Ze (Ev_eql rfl rfl) ?_
  refine Zp ?_
  refine Zm ?_
  refine Zb 9 (fun hg2 => ?_) fun hg2 => ?_
  ·iterate 2 refine Zg ?_
   refine Zp ?_
   refine Za ?_
   refine Zn hK2 ?_
   refine AC_ret ?_
   refine Zr hdm ?_
   (simp_all [blankB]; done)
  ·refine Zt ?_
   refine Zm ?_
   refine Zt ?_
   refine Ze (Ev_eql rfl rfl) ?_
   refine Zp ?_
   refine Za ?_
   refine Zn hK2 ?_
   refine AC_ret ?_
   refine Zr hdm ?_
   (simp_all [blankB]; done)
set_option maxHeartbeats 1000000 in
set_option maxRecDepth 4000 in
theorem c_word (n : Int) : PCall Tryz.prog 171 [.c (.int .u8 n)] (· = [.c (.bool (wordB n))]) := by
 refine PCall_of (n := 13) Tryz.func171 rfl rfl (Nat.le_of_ble_eq_true rfl) fun C hdm hT0 => ?_
 have hT := hT0
 refine Zs fun _ hK1 => ?_
 refine Za ?_
 refine Zn hK1 ?_
 refine Zs fun _ hK2 => ?_
 refine Zm ?_
 refine AL_fcall0 hT rfl cl154 (c_small n) rfl rfl ?_
 refine Zm ?_
 refine Zb 5 (fun hg1 => ?_) fun hg1 => ?_
 ·iterate 2 refine Zg ?_
  refine Zp ?_
  refine Zm ?_
  iterate 2 refine Zg ?_
  refine Zp ?_
  refine Za ?_
  refine Zn hK2 ?_
  refine AC_ret ?_
  refine Zr hdm ?_
  (simp_all [wordB]; done)
 ·refine Zt ?_
  refine Zm ?_
  refine Zt ?_
  refine AL_fcall0 hT rfl cl155 (c_great n) rfl rfl ?_
  refine Zp ?_
  refine Zm ?_
  refine Zb 9 (fun hg2 => ?_) fun hg2 => ?_
  ·iterate 2 refine Zg ?_
   refine Zp ?_
   refine Za ?_
   refine Zn hK2 ?_
   refine AC_ret ?_
   refine Zr hdm ?_
   (simp_all [wordB]; done)
  ·refine Zt ?_
   refine Zm ?_
   refine Zt ?_
   refine AL_fcall0 hT rfl cl157 (c_fig n) rfl rfl ?_
   refine Zp ?_
   refine Za ?_
   refine Zn hK2 ?_
   refine AC_ret ?_
   refine Zr hdm ?_
   (simp_all [wordB]; done)
set_option maxHeartbeats 1000000 in
set_option maxRecDepth 4000 in
theorem c_run (t : ByteArray) (i : Nat) (hs : t.size ≤ 1099511627776) (hi : i ≤ t.size) : PCall Tryz.prog 156 [.c (.string t), .c (.int .i64 ((i : Nat) : Int))] (· = [.c (.int .i64 ((i + runL wordB ((bts t).drop i) : Nat) : Int))]) := by
 refine PCall_of (n := 18) Tryz.func156 rfl rfl (Nat.le_of_ble_eq_true rfl) fun C hdm hT0 => ?_
 have hT := hT0
 refine Zs fun _ hK1 => ?_
 refine Za ?_
 refine Zn hK1 ?_
 refine AC_seq fun _ hK2 => ?_
 refine AC_block ?_
 refine AC_loopS [0] (Nat) (fun j => [(1, i64 ((j : Nat) : Int))]) (fun j => []) (fun st => t.size - st) (fun j => (i ≤ j ∧ j ≤ t.size ∧ i + runL wordB ((bts t).drop i) = j + runL wordB ((bts t).drop j))) (i) ?_ ?_ ?_
 ·exact enterS [] rfl rfl BxTo_nil Sl_
 ·exact ⟨Nat.le_refl _, by omega, rfl⟩
 rintro j ⟨hj0, hj1, hI⟩
 show AC _ _ _ _ _ (FS [0] _ [(1, i64 ((j : Nat) : Int))]) []
 refine AC_seq fun _ hK3 => ?_
 refine Zs fun _ hK4 => ?_
 iterate 2 refine Zm ?_
 refine Ze (Ev_len_str tstr9 rfl) ?_
 refine Ze (Ev_lss rfl rfl) ?_
 refine Zm ?_
 refine Zb 9 (fun hg1 => ?_) fun hg1 => ?_
 ·have hlt : j < t.size := by have := of_decide_eq_true hg1; omega
  have hjbu : j < (bts t).length := by rw [bts_len]; omega
  refine Exists.elim (show ∃ v, (bts t)[j]? = some v from ⟨_, List.getElem?_eq_getElem hjbu⟩) fun u hu => ?_
  have hu2 := bts_get hu
  have hub := UInt8.toNat_lt u
  have hdr := drop_get hu
  refine Zt ?_
  refine Zm ?_
  refine Zt ?_
  refine Zm ?_
  refine Zt ?_
  refine Ze (Ev_ix_str tstr9 rfl rfl (by omega) (by assumption)) ?_
  refine Zt ?_
  refine AL_fcall0 hT rfl cl171 (c_word (u.toNat : Int)) rfl rfl ?_
  refine Zp ?_
  refine Zn hK4 ?_
  refine Zc (fun hc2 => ?_) fun hc2 => ?_
  ·refine Zk hK3 ?_
   refine AC_block ?_
   refine AC_region ?_
   refine Zm ?_
   refine Ze (Ev_add rfl rfl _ (wrap_id (by omega) (by omega))) ?_
   refine Za ?_
   refine AL_nil ?_
   refine closeS (j + 1) [] rfl rfl (by show t.size - (j + 1) < t.size - j; omega) ?_ BxTo_nil Sl_
   exact ⟨by omega, by omega, by rw [hI, hdr]; simp_all [runL]; omega⟩
  ·have hI2 : i + runL wordB ((bts t).drop i) = j := by rw [hI, hdr]; simp_all [runL]
   refine Zx hK2 ?_
   refine Zs fun _ hK5 => ?_
   refine Zm ?_
   refine Za ?_
   refine Zn hK5 ?_
   refine AC_ret ?_
   refine Zr hdm ?_
   rw [hI2]
 ·have hge : t.size ≤ j := by have := of_decide_eq_false hg1; omega
  have hI2 : i + runL wordB ((bts t).drop i) = j := by rw [hI, List.drop_eq_nil_of_le (by simp; omega)]; rfl
  iterate 4 refine Zg ?_
  refine Zp ?_
  refine Zn hK4 ?_
  refine AC_cond_f rfl ?_
  refine Zx hK2 ?_
  refine Zs fun _ hK6 => ?_
  refine Zm ?_
  refine Za ?_
  refine Zn hK6 ?_
  refine AC_ret ?_
  refine Zr hdm ?_
  rw [hI2]
set_option maxHeartbeats 1000000 in
set_option maxRecDepth 4000 in
theorem c_end (t : ByteArray) (i : Nat) (u : UInt8) (hs : t.size ≤ 1099511627776) (hu : (bts t)[i]? = some u) : PCall Tryz.prog 159 [.c (.string t), .c (.int .i64 ((i : Nat) : Int))] (· = [.c (.bool (endB t i))]) := by
 have hu2 := bts_get hu
 have hlt : i < t.size := by simpa using lt_of_get hu
 have hub := byteI_get hu
 refine PCall_of (n := 42) Tryz.func159 rfl rfl (Nat.le_of_ble_eq_true rfl) fun C hdm hT0 => ?_
 have hT := hT0
 refine Zs fun _ hK1 => ?_
 refine Za ?_
 refine Zn hK1 ?_
 refine Zs fun _ hK2 => ?_
 iterate 2 refine Zm ?_
 refine Ze (Ev_ix_str tstr9 rfl rfl (by omega) (by assumption)) ?_
 refine Ze (Ev_eql rfl rfl) ?_
 refine Zm ?_
 refine Zb 9 (fun hg1 => ?_) fun hg1 => ?_
 ·first
   | (have h9 : ¬ ((i : Int) + 1 = t.size) := of_decide_eq_false hg1
      have hsz : ¬ (i + 1 = t.size) := by omega
      obtain ⟨z, hz⟩ : ∃ z, (bts t)[i + 1]? = some z := ⟨_, List.getElem?_eq_getElem (by simp; omega)⟩
      have hz2 : t[((i : Int) + 1).toNat]? = some z := by have := bts_get hz; rw [show ((i : Int) + 1).toNat = i + 1 by omega]; simpa using this
      have hzb := byteI_get hz)
   | (have h9 : (i : Int) + 1 = t.size := of_decide_eq_true hg1
      have hsz : i + 1 = t.size := by omega)
   | skip
  refine Zt ?_
  refine Zm ?_
  refine Zt ?_
  refine Ze (Ev_eql rfl rfl) ?_
  refine Zt ?_
  refine Zm ?_
  refine Zb 12 (fun hg2 => ?_) fun hg2 => ?_
  ·first
    | (have h9 : ¬ ((i : Int) + 1 = t.size) := of_decide_eq_false hg2
       have hsz : ¬ (i + 1 = t.size) := by omega
       obtain ⟨z, hz⟩ : ∃ z, (bts t)[i + 1]? = some z := ⟨_, List.getElem?_eq_getElem (by simp; omega)⟩
       have hz2 : t[((i : Int) + 1).toNat]? = some z := by have := bts_get hz; rw [show ((i : Int) + 1).toNat = i + 1 by omega]; simpa using this
       have hzb := byteI_get hz)
    | (have h9 : (i : Int) + 1 = t.size := of_decide_eq_true hg2
       have hsz : i + 1 = t.size := by omega)
    | skip
   iterate 6 refine Zg ?_
   refine Zt ?_
   iterate 2 refine Zp ?_
   refine Zm ?_
   refine Zt ?_
   refine Zm ?_
   refine Zt ?_
   refine Ze (Ev_add rfl rfl _ (wrap_id (by omega) (by omega))) ?_
   refine Zt ?_
   refine Zm ?_
   refine Zt ?_
   refine Ze (Ev_len_str tstr9 rfl) ?_
   refine Zt ?_
   refine Ze (Ev_eql rfl rfl) ?_
   refine Zt ?_
   refine Zm ?_
   refine Zb 27 (fun hg3 => ?_) fun hg3 => ?_
   ·first
     | (have h9 : ¬ ((i : Int) + 1 = t.size) := of_decide_eq_false hg3
        have hsz : ¬ (i + 1 = t.size) := by omega
        obtain ⟨z, hz⟩ : ∃ z, (bts t)[i + 1]? = some z := ⟨_, List.getElem?_eq_getElem (by simp; omega)⟩
        have hz2 : t[((i : Int) + 1).toNat]? = some z := by have := bts_get hz; rw [show ((i : Int) + 1).toNat = i + 1 by omega]; simpa using this
        have hzb := byteI_get hz)
     | (have h9 : (i : Int) + 1 = t.size := of_decide_eq_true hg3
        have hsz : i + 1 = t.size := by omega)
     | skip
    iterate 5 refine Zg ?_
    refine Zt ?_
    refine Zp ?_
    refine Zt ?_
    refine Zm ?_
    iterate 5 refine Zg ?_
    refine Zt ?_
    iterate 2 refine Zp ?_
    refine Za ?_
    refine Zn hK2 ?_
    refine AC_ret ?_
    refine Zr hdm ?_
    (simp_all [endB]; done)
   ·first
     | (have h9 : ¬ ((i : Int) + 1 = t.size) := of_decide_eq_false hg3
        have hsz : ¬ (i + 1 = t.size) := by omega
        obtain ⟨z, hz⟩ : ∃ z, (bts t)[i + 1]? = some z := ⟨_, List.getElem?_eq_getElem (by simp; omega)⟩
        have hz2 : t[((i : Int) + 1).toNat]? = some z := by have := bts_get hz; rw [show ((i : Int) + 1).toNat = i + 1 by omega]; simpa using this
        have hzb := byteI_get hz)
     | (have h9 : (i : Int) + 1 = t.size := of_decide_eq_true hg3
        have hsz : i + 1 = t.size := by omega)
     | skip
    refine Zt ?_
    refine Zm ?_
    refine Zt ?_
    refine Zm ?_
    refine Zt ?_
    refine Ze (Ev_add rfl rfl _ (wrap_id (by omega) (by omega))) ?_
    refine Zt ?_
    refine Ze (Ev_ix_str tstr9 rfl rfl (by omega) (by assumption)) ?_
    refine Zt ?_
    refine AL_fcall0 hT rfl cl135 (c_blank (z.toNat : Int)) rfl rfl ?_
    refine Zt ?_
    refine Zp ?_
    refine Zt ?_
    refine Zm ?_
    refine Zb 34 (fun hg4 => ?_) fun hg4 => ?_
    ·first
      | (have h9 : ¬ ((i : Int) + 1 = t.size) := of_decide_eq_false hg4
         have hsz : ¬ (i + 1 = t.size) := by omega
         obtain ⟨z, hz⟩ : ∃ z, (bts t)[i + 1]? = some z := ⟨_, List.getElem?_eq_getElem (by simp; omega)⟩
         have hz2 : t[((i : Int) + 1).toNat]? = some z := by have := bts_get hz; rw [show ((i : Int) + 1).toNat = i + 1 by omega]; simpa using this
         have hzb := byteI_get hz)
      | (have h9 : (i : Int) + 1 = t.size := of_decide_eq_true hg4
         have hsz : i + 1 = t.size := by omega)
      | skip
     iterate 5 refine Zg ?_
     refine Zt ?_
     iterate 2 refine Zp ?_
     refine Za ?_
     refine Zn hK2 ?_
     refine AC_ret ?_
     refine Zr hdm ?_
     (simp_all [endB]; done)
    ·first
      | (have h9 : ¬ ((i : Int) + 1 = t.size) := of_decide_eq_false hg4
         have hsz : ¬ (i + 1 = t.size) := by omega
         obtain ⟨z, hz⟩ : ∃ z, (bts t)[i + 1]? = some z := ⟨_, List.getElem?_eq_getElem (by simp; omega)⟩
         have hz2 : t[((i : Int) + 1).toNat]? = some z := by have := bts_get hz; rw [show ((i : Int) + 1).toNat = i + 1 by omega]; simpa using this
         have hzb := byteI_get hz)
      | (have h9 : (i : Int) + 1 = t.size := of_decide_eq_true hg4
         have hsz : i + 1 = t.size := by omega)
      | skip
     refine Zt ?_
     refine Zm ?_
     refine Zt ?_
     refine Zm ?_
     refine Zt ?_
     refine Ze (Ev_add rfl rfl _ (wrap_id (by omega) (by omega))) ?_
     refine Zt ?_
     refine Ze (Ev_ix_str tstr9 rfl rfl (by omega) (by assumption)) ?_
     refine Zt ?_
     refine Ze (Ev_eql rfl rfl) ?_
     refine Zt ?_
     iterate 2 refine Zp ?_
     refine Za ?_
     refine Zn hK2 ?_
     refine AC_ret ?_
     refine Zr hdm ?_
     (simp_all [endB]; done)
  ·have hi0 : 0 < i := by have := of_decide_eq_false hg2; omega
   obtain ⟨v, hv⟩ : ∃ v, (bts t)[i - 1]? = some v := ⟨_, List.getElem?_eq_getElem (by simp; omega)⟩
   have hv2 : t[((i : Int) - 1).toNat]? = some v := by have := bts_get hv; rw [show ((i : Int) - 1).toNat = i - 1 by omega]; simpa using this
   have hvb := byteI_get hv
   have hv9 := UInt8.toNat_lt v
   refine Zt ?_
   refine Zm ?_
   refine Zt ?_
   refine Zm ?_
   refine Zt ?_
   refine Ze (Ev_sub rfl rfl _ (wrap_id (by omega) (by omega))) ?_
   refine Zt ?_
   refine Ze (Ev_ix_str tstr9 rfl rfl (by omega) (by assumption)) ?_
   refine Zt ?_
   refine AL_fcall0 hT rfl cl160 (c_symbol (v.toNat : Int)) rfl rfl ?_
   refine Zt ?_
   refine Ze (Ev_not rfl) ?_
   refine Zt ?_
   iterate 2 refine Zp ?_
   refine Zm ?_
   refine Zb 21 (fun hg5 => ?_) fun hg5 => ?_
   ·first
     | (have h9 : ¬ ((i : Int) + 1 = t.size) := of_decide_eq_false hg5
        have hsz : ¬ (i + 1 = t.size) := by omega
        obtain ⟨z, hz⟩ : ∃ z, (bts t)[i + 1]? = some z := ⟨_, List.getElem?_eq_getElem (by simp; omega)⟩
        have hz2 : t[((i : Int) + 1).toNat]? = some z := by have := bts_get hz; rw [show ((i : Int) + 1).toNat = i + 1 by omega]; simpa using this
        have hzb := byteI_get hz)
     | (have h9 : (i : Int) + 1 = t.size := of_decide_eq_true hg5
        have hsz : i + 1 = t.size := by omega)
     | skip
    refine Zt ?_
    refine Zm ?_
    refine Zt ?_
    refine Ze (Ev_add rfl rfl _ (wrap_id (by omega) (by omega))) ?_
    refine Zt ?_
    refine Zm ?_
    refine Zt ?_
    refine Ze (Ev_len_str tstr9 rfl) ?_
    refine Zt ?_
    refine Ze (Ev_eql rfl rfl) ?_
    refine Zt ?_
    refine Zm ?_
    refine Zb 27 (fun hg6 => ?_) fun hg6 => ?_
    ·first
      | (have h9 : ¬ ((i : Int) + 1 = t.size) := of_decide_eq_false hg6
         have hsz : ¬ (i + 1 = t.size) := by omega
         obtain ⟨z, hz⟩ : ∃ z, (bts t)[i + 1]? = some z := ⟨_, List.getElem?_eq_getElem (by simp; omega)⟩
         have hz2 : t[((i : Int) + 1).toNat]? = some z := by have := bts_get hz; rw [show ((i : Int) + 1).toNat = i + 1 by omega]; simpa using this
         have hzb := byteI_get hz)
      | (have h9 : (i : Int) + 1 = t.size := of_decide_eq_true hg6
         have hsz : i + 1 = t.size := by omega)
      | skip
     iterate 5 refine Zg ?_
     refine Zt ?_
     refine Zp ?_
     refine Zt ?_
     refine Zm ?_
     iterate 5 refine Zg ?_
     refine Zt ?_
     iterate 2 refine Zp ?_
     refine Za ?_
     refine Zn hK2 ?_
     refine AC_ret ?_
     refine Zr hdm ?_
     (simp_all [endB]; done)
    ·first
      | (have h9 : ¬ ((i : Int) + 1 = t.size) := of_decide_eq_false hg6
         have hsz : ¬ (i + 1 = t.size) := by omega
         obtain ⟨z, hz⟩ : ∃ z, (bts t)[i + 1]? = some z := ⟨_, List.getElem?_eq_getElem (by simp; omega)⟩
         have hz2 : t[((i : Int) + 1).toNat]? = some z := by have := bts_get hz; rw [show ((i : Int) + 1).toNat = i + 1 by omega]; simpa using this
         have hzb := byteI_get hz)
      | (have h9 : (i : Int) + 1 = t.size := of_decide_eq_true hg6
         have hsz : i + 1 = t.size := by omega)
      | skip
     refine Zt ?_
     refine Zm ?_
     refine Zt ?_
     refine Zm ?_
     refine Zt ?_
     refine Ze (Ev_add rfl rfl _ (wrap_id (by omega) (by omega))) ?_
     refine Zt ?_
     refine Ze (Ev_ix_str tstr9 rfl rfl (by omega) (by assumption)) ?_
     refine Zt ?_
     refine AL_fcall0 hT rfl cl135 (c_blank (z.toNat : Int)) rfl rfl ?_
     refine Zt ?_
     refine Zp ?_
     refine Zt ?_
     refine Zm ?_
     refine Zb 34 (fun hg7 => ?_) fun hg7 => ?_
     ·first
       | (have h9 : ¬ ((i : Int) + 1 = t.size) := of_decide_eq_false hg7
          have hsz : ¬ (i + 1 = t.size) := by omega
          obtain ⟨z, hz⟩ : ∃ z, (bts t)[i + 1]? = some z := ⟨_, List.getElem?_eq_getElem (by simp; omega)⟩
          have hz2 : t[((i : Int) + 1).toNat]? = some z := by have := bts_get hz; rw [show ((i : Int) + 1).toNat = i + 1 by omega]; simpa using this
          have hzb := byteI_get hz)
       | (have h9 : (i : Int) + 1 = t.size := of_decide_eq_true hg7
          have hsz : i + 1 = t.size := by omega)
       | skip
      iterate 5 refine Zg ?_
      refine Zt ?_
      iterate 2 refine Zp ?_
      refine Za ?_
      refine Zn hK2 ?_
      refine AC_ret ?_
      refine Zr hdm ?_
      (simp_all [endB]; done)
     ·first
       | (have h9 : ¬ ((i : Int) + 1 = t.size) := of_decide_eq_false hg7
          have hsz : ¬ (i + 1 = t.size) := by omega
          obtain ⟨z, hz⟩ : ∃ z, (bts t)[i + 1]? = some z := ⟨_, List.getElem?_eq_getElem (by simp; omega)⟩
          have hz2 : t[((i : Int) + 1).toNat]? = some z := by have := bts_get hz; rw [show ((i : Int) + 1).toNat = i + 1 by omega]; simpa using this
          have hzb := byteI_get hz)
       | (have h9 : (i : Int) + 1 = t.size := of_decide_eq_true hg7
          have hsz : i + 1 = t.size := by omega)
       | skip
      refine Zt ?_
      refine Zm ?_
      refine Zt ?_
      refine Zm ?_
      refine Zt ?_
      refine Ze (Ev_add rfl rfl _ (wrap_id (by omega) (by omega))) ?_
      refine Zt ?_
      refine Ze (Ev_ix_str tstr9 rfl rfl (by omega) (by assumption)) ?_
      refine Zt ?_
      refine Ze (Ev_eql rfl rfl) ?_
      refine Zt ?_
      iterate 2 refine Zp ?_
      refine Za ?_
      refine Zn hK2 ?_
      refine AC_ret ?_
      refine Zr hdm ?_
      (simp_all [endB]; done)
   ·first
     | (have h9 : ¬ ((i : Int) + 1 = t.size) := of_decide_eq_false hg5
        have hsz : ¬ (i + 1 = t.size) := by omega
        obtain ⟨z, hz⟩ : ∃ z, (bts t)[i + 1]? = some z := ⟨_, List.getElem?_eq_getElem (by simp; omega)⟩
        have hz2 : t[((i : Int) + 1).toNat]? = some z := by have := bts_get hz; rw [show ((i : Int) + 1).toNat = i + 1 by omega]; simpa using this
        have hzb := byteI_get hz)
     | (have h9 : (i : Int) + 1 = t.size := of_decide_eq_true hg5
        have hsz : i + 1 = t.size := by omega)
     | skip
    iterate 6 refine Zg ?_
    iterate 5 refine Zu ?_
    iterate 2 refine Zg ?_
    iterate 5 refine Zu ?_
    refine Zg ?_
    refine Zp ?_
    refine Za ?_
    refine Zn hK2 ?_
    refine AC_ret ?_
    refine Zr hdm ?_
    (simp_all [endB]; done)
 ·first
   | (have h9 : ¬ ((i : Int) + 1 = t.size) := of_decide_eq_false hg1
      have hsz : ¬ (i + 1 = t.size) := by omega
      obtain ⟨z, hz⟩ : ∃ z, (bts t)[i + 1]? = some z := ⟨_, List.getElem?_eq_getElem (by simp; omega)⟩
      have hz2 : t[((i : Int) + 1).toNat]? = some z := by have := bts_get hz; rw [show ((i : Int) + 1).toNat = i + 1 by omega]; simpa using this
      have hzb := byteI_get hz)
   | (have h9 : (i : Int) + 1 = t.size := of_decide_eq_true hg1
      have hsz : i + 1 = t.size := by omega)
   | skip
  iterate 3 refine Zg ?_
  iterate 6 refine Zu ?_
  refine Zg ?_
  refine Zp ?_
  refine Zm ?_
  iterate 6 refine Zg ?_
  iterate 5 refine Zu ?_
  iterate 2 refine Zg ?_
  iterate 5 refine Zu ?_
  refine Zg ?_
  refine Zp ?_
  refine Za ?_
  refine Zn hK2 ?_
  refine AC_ret ?_
  refine Zr hdm ?_
  (simp_all [endB]; done)
set_option maxHeartbeats 1000000 in
set_option maxRecDepth 4000 in
theorem c_quoted (t : ByteArray) (i : Nat) (hs : t.size ≤ 1099511627776) (hi : i < t.size) : PCall Tryz.prog 158 [.c (.string t), .c (.int .i64 ((i : Nat) : Int))] (· = [.c (.int .i64 ((quoM t i : Nat) : Int))]) := by
 refine PCall_of (n := 26) Tryz.func158 rfl rfl (Nat.le_of_ble_eq_true rfl) fun C hdm hT0 => ?_
 have hT := hT0
 refine Zs fun _ hK1 => ?_
 refine Za ?_
 refine Zn hK1 ?_
 refine AC_seq fun _ hK2 => ?_
 refine Zs fun _ hK3 => ?_
 refine Zm ?_
 refine Ze (Ev_add rfl rfl _ (wrap_id (by omega) (by omega))) ?_
 refine Za ?_
 refine Zn hK3 ?_
 refine AC_block ?_
 refine AC_loopS [0, 1] (Nat) (fun j => [(5, i64 ((j : Nat) : Int))]) (fun j => []) (fun st => t.size - st) (fun j => (i + 1 ≤ j ∧ j ≤ t.size ∧ quoM t i = quoL t i ((bts t).drop j) j)) (i + 1) ?_ ?_ ?_
 ·exact enterS [] rfl rfl BxTo_nil Sl_
 ·exact ⟨Nat.le_refl _, by omega, rfl⟩
 rintro j ⟨hj0, hj1, hI⟩
 show AC _ _ _ _ _ (FS [0, 1] _ [(5, i64 ((j : Nat) : Int))]) []
 refine AC_seq fun _ hK4 => ?_
 refine Zs fun _ hK5 => ?_
 iterate 2 refine Zm ?_
 refine Ze (Ev_len_str tstr9 rfl) ?_
 refine Ze (Ev_lss rfl rfl) ?_
 refine Zn hK5 ?_
 refine Zc (fun hc1 => ?_) fun hc1 => ?_
 ·have hlt : j < t.size := by have := of_decide_eq_true hc1; omega
  have hjbu : j < (bts t).length := by rw [bts_len]; omega
  refine Exists.elim (show ∃ v, (bts t)[j]? = some v from ⟨_, List.getElem?_eq_getElem hjbu⟩) fun u hu => ?_
  have hu2 := bts_get hu
  have hub := UInt8.toNat_lt u
  have hdr := drop_get hu
  refine Zk hK4 ?_
  refine AC_seq fun _ hK6 => ?_
  refine AC_block ?_
  refine Zs fun _ hK7 => ?_
  iterate 2 refine Zm ?_
  refine Ze (Ev_ix_str tstr9 rfl rfl (by omega) (by assumption)) ?_
  refine Ze (Ev_eql rfl rfl) ?_
  refine Zn hK7 ?_
  refine Zc (fun hc2 => ?_) fun hc2 => ?_
  ·refine AC_seq fun _ hK8 => ?_
   refine Zs fun _ hK9 => ?_
   iterate 2 refine Zm ?_
   refine Ze (Ev_add rfl rfl _ (wrap_id (by omega) (by omega))) ?_
   refine Zm ?_
   refine Ze (Ev_slice_str tstr9 rfl rfl rfl (by omega) (by omega) (by omega)) ?_
   refine AL_fcall0 hT rfl cl147 (c_l03Name (t.extract (i + 1) j) (by simp; omega)) rfl rfl ?_
   refine Zn hK9 ?_
   refine Zc (fun hc3 => ?_) fun hc3 => ?_
   ·refine Zs fun _ hK10 => ?_
    refine Zm ?_
    refine Ze (Ev_add rfl rfl _ (wrap_id (by omega) (by omega))) ?_
    refine Za ?_
    refine Zn hK10 ?_
    refine AC_ret ?_
    refine Zr hdm ?_
    rw [hI, hdr]; simp_all [quoL]
   ·refine Zk hK8 ?_
    refine Zs fun _ hK11 => ?_
    refine Za ?_
    refine Zn hK11 ?_
    refine AC_ret ?_
    refine Zr hdm ?_
    rw [hI, hdr]; simp_all [quoL]
  ·refine Zk hK6 ?_
   refine AC_region ?_
   refine Zm ?_
   refine Ze (Ev_add rfl rfl _ (wrap_id (by omega) (by omega))) ?_
   refine Za ?_
   refine AL_nil ?_
   refine closeS (j + 1) [] rfl rfl (by show t.size - (j + 1) < t.size - j; omega) ?_ BxTo_nil Sl_
   exact ⟨by omega, by omega, by rw [hI, hdr]; simp_all [quoL]⟩
 ·have hge : t.size ≤ j := by have := of_decide_eq_false hc1; omega
  have hI2 : quoM t i = 0 := by rw [hI, List.drop_eq_nil_of_le (by simp; omega)]; rfl
  refine Zx hK2 ?_
  refine Zs fun _ hK12 => ?_
  refine Za ?_
  refine Zn hK12 ?_
  refine AC_ret ?_
  refine Zr hdm ?_
  rw [hI2]; rfl
end Go.Proofs.YtjgliechbnommaaGreatDoor
set_option linter.unusedVariables false
set_option linter.unusedSimpArgs false
namespace Go.Proofs.YtjgliechbnommaaGreatDoor
open Go.Eng
theorem tz139 : tyZero Tryz.prog 139 = some (some (.agg #[.int .i64 0, .string ⟨#[]⟩, .int .i64 0, .int .i64 0, .bool false])) := by kernel_rfl
theorem cl156 : Callable Tryz.prog 156 := Zq Tryz.func156
theorem cl158 : Callable Tryz.prog 158 := Zq Tryz.func158
theorem cl159 : Callable Tryz.prog 159 := Zq Tryz.func159
theorem fa139_0 : tyField Tryz.prog 139 0 = some (0, true) := by kernel_rfl
theorem fa139_1 : tyField Tryz.prog 139 1 = some (1, true) := by kernel_rfl
theorem ta139 : tyAgg Tryz.prog 139 = some true := by kernel_rfl
theorem tpl139 : tyPlaces Tryz.prog 139 = some (layPlaces 0 [.one, .one, .one, .one, .one]) := by kernel_rfl
theorem ts139 : tySize Tryz.prog 139 = some 5 := by kernel_rfl
theorem zo139 : ZeroOf Tryz.prog 139 (Lay.st [.one, .one, .one, .one, .one]) (.d (.agg [.one, .one, .one, .one, .one] [.c (.int .i64 0), .c (.string ⟨#[]⟩), .c (.int .i64 0), .c (.int .i64 0), .c (.bool false)])) := ⟨_, tz139, rfl, fun _ _ _ => VC_cells rfl⟩
set_option maxHeartbeats 8000000 in
set_option maxRecDepth 4000 in
theorem c_sign (t : ByteArray) (i : Nat) (u : UInt8) (hs : t.size ≤ 1099511627776) (hu : (bts t)[i]? = some u) : PCall Tryz.prog 136 [.c (.string t), .c (.int .i64 ((i : Nat) : Int))] (· = [injG (signM t i).1, .c (.int .i64 (((signM t i).2 : Nat) : Int))]) := by
 have hu2 := bts_get hu
 have hlt : i < t.size := by simpa using lt_of_get hu
 have hub := byteI_get hu
 have hu9 := UInt8.toNat_lt u
 have hrw : i + runL wordB ((bts t).drop i) ≤ t.size := by have := runL_le wordB ((bts t).drop i); simp at this; omega
 have hqm := quoM_le hlt
 refine PCall_of (n := 167) Tryz.func136 rfl rfl (Nat.le_of_ble_eq_true rfl) fun C hdm hT0 => ?_
 have hT := hT0
 refine Zs fun _ hK1 => ?_
 refine AL_alloc zo139 _ rfl rfl ?_
 refine Za ?_
 refine Zn hK1 ?_
 refine Zs fun _ hK2 => ?_
 iterate 2 refine Zm ?_
 refine Ze (Ev_ix_str tstr9 rfl rfl (by omega) (by assumption)) ?_
 refine Za ?_
 refine Zn hK2 ?_
 refine Zs fun _ hK3 => ?_
 iterate 3 refine Zm ?_
 refine Ze (Ev_add rfl rfl _ (wrap_id (by omega) (by omega))) ?_
 refine Ze (Ev_slice_str tstr9 rfl rfl rfl (by omega) (by omega) (by omega)) ?_
 refine Zm ?_
 refine Ze (Ev_buildD (fs := [.one, .one, .one, .one, .one]) (zs := [.c (.int .i64 0), .c (.string ⟨#[]⟩), .c (.int .i64 0), .c (.int .i64 0), .c (.bool false)]) tz139 rfl tpl139 (.cons rfl rfl (by rfl) (.cons rfl rfl (by rfl) (.cons rfl rfl (by rfl) .nil))) rfl) ?_
 refine AL_alloc zo139 _ rfl rfl ?_
 refine Ys ts139 ?_
 refine Zn hK3 ?_
 refine Zs fun _ hK4 => ?_
 refine Zm ?_
 refine Ze (Ev_add rfl rfl _ (wrap_id (by omega) (by omega))) ?_
 refine Za ?_
 refine Zn hK4 ?_
 refine AC_seq fun _ hK5 => ?_
 refine AC_block ?_
 refine Zs fun _ hK6 => ?_
 refine Zm ?_
 refine AL_fcall0 hT rfl cl154 (c_small (u.toNat : Int)) rfl rfl ?_
 refine Zm ?_
 refine Zb 29 (fun hg1 => ?_) fun hg1 => ?_
 ·iterate 2 refine Zg ?_
  refine Zp ?_
  refine Za ?_
  refine Zn hK6 ?_
  refine AC_cond_t rfl ?_
  refine Zs fun _ hK7 => ?_
  iterate 2 refine Zm ?_
  refine AL_fcall0 hT rfl cl156 (c_run t i hs (by omega)) rfl rfl ?_
  refine Za ?_
  refine Zn hK7 ?_
  refine Zs fun _ hK8 => ?_
  iterate 2 refine Zm ?_
  refine Ze (Ev_sub rfl rfl _ (wrap_id (by omega) (by omega))) ?_
  refine Ze (Ev_leq rfl rfl) ?_
  refine Zn hK8 ?_
  refine Zc (fun hc2 => ?_) fun hc2 => ?_
  ·have hn9 : runL wordB ((bts t).drop i) ≤ 20 := by have := of_decide_eq_true hc2; omega
   refine Zs fun _ hK9 => ?_
   refine Ya fa139_0 ?_
   refine Ys ts3 ?_
   refine Zn hK9 ?_
   refine AC_seq fun _ hK10 => ?_
   refine Zs fun _ hK11 => ?_
   refine Zm ?_
   refine AL_fcall0 hT rfl cl155 (c_great (u.toNat : Int)) rfl rfl ?_
   refine Zn hK11 ?_
   refine Zc (fun hc3 => ?_) fun hc3 => ?_
   ·refine AC_region ?_
    refine Ya fa139_0 ?_
    refine Ys ts3 ?_
    refine Zn hK10 ?_
    refine Zs fun _ hK12 => ?_
    iterate 3 refine Zm ?_
    refine Ze (Ev_slice_str tstr9 rfl rfl rfl (by omega) (by omega) (by omega)) ?_
    refine Ya fa139_1 ?_
    refine Ys ts9 ?_
    refine Zn hK12 ?_
    refine AC_region ?_
    refine Zm ?_
    refine Za ?_
    refine Zn hK5 ?_
    refine Zs fun _ hK13 => ?_
    refine YL ts139 ta139 ?_
    refine Zm ?_
    refine Ys ts139 ?_
    refine Za ?_
    refine Zn hK13 ?_
    refine AC_ret ?_
    exact ret_ok hdm (.cell rfl rfl rfl rfl rfl rfl ts139 ta139 (by rfl) (by intro h; cases h) (.tmp rfl rfl .nil)) (.cons (by exact .agg (.cons .d (.cons .d (.cons .d (.cons .d (.cons .d .nil)))))) (.cons .d .nil)) (sign_ret (x := ⟨2, t.extract i (i + runL wordB ((bts t).drop i)), 0, i, false⟩) (n := i + runL wordB ((bts t).drop i)) (by rw [signM_w hub (.inl hg1) hn9, if_pos hc3]))
   ·refine Zk hK10 ?_
    refine Zs fun _ hK14 => ?_
    iterate 3 refine Zm ?_
    refine Ze (Ev_slice_str tstr9 rfl rfl rfl (by omega) (by omega) (by omega)) ?_
    refine Ya fa139_1 ?_
    refine Ys ts9 ?_
    refine Zn hK14 ?_
    refine AC_region ?_
    refine Zm ?_
    refine Za ?_
    refine Zn hK5 ?_
    refine Zs fun _ hK15 => ?_
    refine YL ts139 ta139 ?_
    refine Zm ?_
    refine Ys ts139 ?_
    refine Za ?_
    refine Zn hK15 ?_
    refine AC_ret ?_
    exact ret_ok hdm (.cell rfl rfl rfl rfl rfl rfl ts139 ta139 (by rfl) (by intro h; cases h) (.tmp rfl rfl .nil)) (.cons (by exact .agg (.cons .d (.cons .d (.cons .d (.cons .d (.cons .d .nil)))))) (.cons .d .nil)) (sign_ret (x := ⟨1, t.extract i (i + runL wordB ((bts t).drop i)), 0, i, false⟩) (n := i + runL wordB ((bts t).drop i)) (by rw [signM_w hub (.inl hg1) hn9, if_neg (by rw [hc3]; decide)]))
  ·have hn9 : ¬ runL wordB ((bts t).drop i) ≤ 20 := by have := of_decide_eq_false hc2; omega
   refine Zk hK5 ?_
   refine Zs fun _ hK16 => ?_
   refine YL ts139 ta139 ?_
   refine Zm ?_
   refine Ys ts139 ?_
   refine Za ?_
   refine Zn hK16 ?_
   refine AC_ret ?_
   exact ret_ok hdm (.cell rfl rfl rfl rfl rfl rfl ts139 ta139 (by rfl) (by intro h; cases h) (.tmp rfl rfl .nil)) (.cons (by exact .d) (.cons .d .nil)) (sign_ret (signM_w0 hub (.inl hg1) hn9))
 ·refine Zt ?_
  refine Zm ?_
  refine Zt ?_
  refine AL_fcall0 hT rfl cl155 (c_great (u.toNat : Int)) rfl rfl ?_
  refine Zp ?_
  refine Za ?_
  refine Zn hK6 ?_
  refine Zc (fun hc4 => ?_) fun hc4 => ?_
  ·refine Zs fun _ hK17 => ?_
   iterate 2 refine Zm ?_
   refine AL_fcall0 hT rfl cl156 (c_run t i hs (by omega)) rfl rfl ?_
   refine Za ?_
   refine Zn hK17 ?_
   refine Zs fun _ hK18 => ?_
   iterate 2 refine Zm ?_
   refine Ze (Ev_sub rfl rfl _ (wrap_id (by omega) (by omega))) ?_
   refine Ze (Ev_leq rfl rfl) ?_
   refine Zn hK18 ?_
   refine Zc (fun hc5 => ?_) fun hc5 => ?_
   ·have hn9 : runL wordB ((bts t).drop i) ≤ 20 := by have := of_decide_eq_true hc5; omega
    refine Zs fun _ hK19 => ?_
    refine Ya fa139_0 ?_
    refine Ys ts3 ?_
    refine Zn hK19 ?_
    refine AC_seq fun _ hK20 => ?_
    refine Zs fun _ hK21 => ?_
    refine Zm ?_
    refine AL_fcall0 hT rfl cl155 (c_great (u.toNat : Int)) rfl rfl ?_
    refine Zn hK21 ?_
    refine Zc (fun hc6 => ?_) fun hc6 => ?_
    ·refine AC_region ?_
     refine Ya fa139_0 ?_
     refine Ys ts3 ?_
     refine Zn hK20 ?_
     refine Zs fun _ hK22 => ?_
     iterate 3 refine Zm ?_
     refine Ze (Ev_slice_str tstr9 rfl rfl rfl (by omega) (by omega) (by omega)) ?_
     refine Ya fa139_1 ?_
     refine Ys ts9 ?_
     refine Zn hK22 ?_
     refine AC_region ?_
     refine Zm ?_
     refine Za ?_
     refine Zn hK5 ?_
     refine Zs fun _ hK23 => ?_
     refine YL ts139 ta139 ?_
     refine Zm ?_
     refine Ys ts139 ?_
     refine Za ?_
     refine Zn hK23 ?_
     refine AC_ret ?_
     exact ret_ok hdm (.cell rfl rfl rfl rfl rfl rfl ts139 ta139 (by rfl) (by intro h; cases h) (.tmp rfl rfl .nil)) (.cons (by exact .agg (.cons .d (.cons .d (.cons .d (.cons .d (.cons .d .nil)))))) (.cons .d .nil)) (sign_ret (x := ⟨2, t.extract i (i + runL wordB ((bts t).drop i)), 0, i, false⟩) (n := i + runL wordB ((bts t).drop i)) (by rw [signM_w hub (.inr hc4) hn9, if_pos hc4]))
    ·refine Zk hK20 ?_
     refine Zs fun _ hK24 => ?_
     iterate 3 refine Zm ?_
     refine Ze (Ev_slice_str tstr9 rfl rfl rfl (by omega) (by omega) (by omega)) ?_
     refine Ya fa139_1 ?_
     refine Ys ts9 ?_
     refine Zn hK24 ?_
     refine AC_region ?_
     refine Zm ?_
     refine Za ?_
     refine Zn hK5 ?_
     refine Zs fun _ hK25 => ?_
     refine YL ts139 ta139 ?_
     refine Zm ?_
     refine Ys ts139 ?_
     refine Za ?_
     refine Zn hK25 ?_
     refine AC_ret ?_
     rw [hc4] at hc6; cases hc6
   ·have hn9 : ¬ runL wordB ((bts t).drop i) ≤ 20 := by have := of_decide_eq_false hc5; omega
    refine Zk hK5 ?_
    refine Zs fun _ hK26 => ?_
    refine YL ts139 ta139 ?_
    refine Zm ?_
    refine Ys ts139 ?_
    refine Za ?_
    refine Zn hK26 ?_
    refine AC_ret ?_
    exact ret_ok hdm (.cell rfl rfl rfl rfl rfl rfl ts139 ta139 (by rfl) (by intro h; cases h) (.tmp rfl rfl .nil)) (.cons (by exact .d) (.cons .d .nil)) (sign_ret (signM_w0 hub (.inr hc4) hn9))
  ·refine Zs fun _ hK27 => ?_
   refine Zm ?_
   refine AL_fcall0 hT rfl cl157 (c_fig (u.toNat : Int)) rfl rfl ?_
   refine Za ?_
   refine Zn hK27 ?_
   refine Zc (fun hc7 => ?_) fun hc7 => ?_
   ·refine Zs fun _ hK28 => ?_
    refine Zm ?_
    refine Za ?_
    refine Zn hK28 ?_
    refine Zs fun _ hK29 => ?_
    refine Za ?_
    refine Zn hK29 ?_
    refine AC_seq fun _ hK30 => ?_
    refine AC_block ?_
    refine AC_loopS [0, 1, 4, 7, 8] (Nat × Int) (fun q => [(10, i64 ((q.1 : Nat) : Int)), (11, i64 q.2)]) (fun q => [some ⟨139, LSG, [.d (injG sg0)]⟩, some ⟨139, LSG, [.d (injG ⟨6, t.extract i (i + 1), 0, i, false⟩)]⟩]) (fun q => t.size - q.1) (fun q => i ≤ q.1 ∧ q.1 ≤ t.size ∧ 0 ≤ q.2 ∧ q.2 ≤ 99999999999 ∧ figL ((bts t).drop i) 0 i = figL ((bts t).drop q.1) q.2 q.1) ((i, 0)) ?_ ?_ ?_
    ·exact enterS [some 0, some 1] rfl rfl (Bx (.cons (.rd .d) .nil) (Bx (.cons (.rd .d) .nil) BxTo_nil)) Sl_
    ·exact ⟨Nat.le_refl _, by show i ≤ t.size; omega, Int.le_refl _, by show (0 : Int) ≤ 99999999999; omega, rfl⟩
    rintro ⟨j, m⟩ ⟨hj0, hj1, hm0, hm1, hI⟩
    simp only at hj0 hj1 hm0 hm1 hI
    refine AC_seq fun _ hK31 => ?_
    refine Zs fun _ hK32 => ?_
    iterate 2 refine Zm ?_
    refine Ze (Ev_len_str tstr9 rfl) ?_
    refine Ze (Ev_lss rfl rfl) ?_
    refine Zm ?_
    refine Zb 58 (fun hg8 => ?_) fun hg8 => ?_
    ·have hjl : j < t.size := by have := of_decide_eq_true hg8; omega
     have hjbv : j < (bts t).length := by rw [bts_len]; omega
     refine Exists.elim (show ∃ v, (bts t)[j]? = some v from ⟨_, List.getElem?_eq_getElem hjbv⟩) fun v hv => ?_
     have hv2 := bts_get hv
     have hvb := UInt8.toNat_lt v
     have hdr := drop_get hv
     refine Zt ?_
     refine Zm ?_
     refine Zt ?_
     refine Zm ?_
     refine Zt ?_
     refine Ze (Ev_ix_str tstr9 rfl rfl (by omega) (by assumption)) ?_
     refine Zt ?_
     refine AL_fcall0 hT rfl cl157 (c_fig (v.toNat : Int)) rfl rfl ?_
     refine Zp ?_
     refine Zm ?_
     refine Zb 64 (fun hg9 => ?_) fun hg9 => ?_
     ·have hf9 : 48 ≤ (v.toNat : Int) ∧ (v.toNat : Int) ≤ 57 := by have h := hg9; simp only [figB, Bool.and_eq_true, decide_eq_true_eq] at h; exact h
      refine Zt ?_
      refine Zm ?_
      refine Zt ?_
      refine Ze (Ev_leq rfl rfl) ?_
      refine Zp ?_
      refine Zn hK32 ?_
      refine Zc (fun hc10 => ?_) fun hc10 => ?_
      ·have hm9 : m ≤ 999999999 := of_decide_eq_true hc10
       refine Zk hK31 ?_
       refine AC_block ?_
       refine Zs fun _ hK33 => ?_
       refine Zm ?_
       refine Ze (Ev_mul rfl rfl _ (wrap_id (by omega) (by omega))) ?_
       iterate 2 refine Zm ?_
       refine Ze (Ev_ix_str tstr9 rfl rfl (by omega) (by assumption)) ?_
       refine Ze (Ev_conv_int tund5 tint3 rfl _ (wrap_id (by omega) (by omega))) ?_
       refine Ze (Ev_add rfl rfl _ (wrap_id (by omega) (by omega))) ?_
       refine Ze (Ev_sub rfl rfl _ (wrap_id (by omega) (by omega))) ?_
       refine Za ?_
       refine Zn hK33 ?_
       refine AC_region ?_
       refine Zm ?_
       refine Ze (Ev_add rfl rfl _ (wrap_id (by omega) (by omega))) ?_
       refine Za ?_
       refine AL_nil ?_
       refine closeS (j + 1, 10 * m + (v.toNat : Int) - 48) [some 0, some 1] rfl rfl (by show t.size - (j + 1) < t.size - j; omega) ⟨by show i ≤ j + 1; omega, by show j + 1 ≤ t.size; omega, by show 0 ≤ 10 * m + (v.toNat : Int) - 48; omega, by show 10 * m + (v.toNat : Int) - 48 ≤ 99999999999; omega, by show _ = figL _ (10 * m + (v.toNat : Int) - 48) (j + 1); rw [hI, hdr]; simp_all [figL]⟩ (Bx (.cons (.rd .d) .nil) (Bx (.cons (.rd .d) .nil) BxTo_nil)) (SlTo_cons (Vw_int (by rfl)) (SlTo_cons (Vw_int (by rfl)) Sl_))
      ·have hm9 : ¬ m ≤ 999999999 := of_decide_eq_false hc10
       have hI2 : figL ((bts t).drop i) 0 i = (m, j) := by rw [hI, hdr, figL, if_neg (fun h => hm9 h.2)]
       refine Zx hK30 ?_
       refine Zs fun _ hK34 => ?_
       refine Zm ?_
       refine Ze (Ev_leq rfl rfl) ?_
       refine Zn hK34 ?_
       refine Zc (fun hc11 => ?_) fun hc11 => ?_
       ·refine Zs fun _ hK35 => ?_
        iterate 2 refine Zm ?_
        refine Ze (Ev_buildD (fs := [.one, .one, .one, .one, .one]) (zs := [.c (.int .i64 0), .c (.string ⟨#[]⟩), .c (.int .i64 0), .c (.int .i64 0), .c (.bool false)]) tz139 rfl tpl139 (.cons rfl rfl (by rfl) (.cons rfl rfl (by rfl) (.cons rfl rfl (by rfl) .nil))) rfl) ?_
        refine Zm ?_
        refine Ys ts139 ?_
        refine Za ?_
        refine Zn hK35 ?_
        refine AC_ret ?_
        have H1 : ¬ (smallB (u.toNat : Int) = true ∨ greatB (u.toNat : Int) = true) := by rintro (h | h); rw [hg1] at h; cases h; rw [hc4] at h; cases h
        exact ret_ok hdm (.cell rfl rfl rfl rfl rfl rfl ts139 ta139 (by rfl) (by intro h; cases h) (.tmp rfl rfl .nil)) (.cons (by exact .d) (.cons .d .nil)) (sign_ret (signM_f hub H1 hc7 hI2 (of_decide_eq_true hc11)))
       ·refine Zk hK5 ?_
        refine Zs fun _ hK36 => ?_
        refine YL ts139 ta139 ?_
        refine Zm ?_
        refine Ys ts139 ?_
        refine Za ?_
        refine Zn hK36 ?_
        refine AC_ret ?_
        have H1 : ¬ (smallB (u.toNat : Int) = true ∨ greatB (u.toNat : Int) = true) := by rintro (h | h); rw [hg1] at h; cases h; rw [hc4] at h; cases h
        exact ret_ok hdm (.cell rfl rfl rfl rfl rfl rfl ts139 ta139 (by rfl) (by intro h; cases h) (.tmp rfl rfl .nil)) (.cons (by exact .d) (.cons .d .nil)) (sign_ret (signM_f0 hub H1 hc7 hI2 (of_decide_eq_false hc11)))
     ·have hI2 : figL ((bts t).drop i) 0 i = (m, j) := by rw [hI, hdr]; simp_all [figL]
      iterate 2 refine Zg ?_
      refine Zp ?_
      refine Zn hK32 ?_
      refine AC_cond_f rfl ?_
      refine Zx hK30 ?_
      refine Zs fun _ hK37 => ?_
      refine Zm ?_
      refine Ze (Ev_leq rfl rfl) ?_
      refine Zn hK37 ?_
      refine Zc (fun hc12 => ?_) fun hc12 => ?_
      ·refine Zs fun _ hK38 => ?_
       iterate 2 refine Zm ?_
       refine Ze (Ev_buildD (fs := [.one, .one, .one, .one, .one]) (zs := [.c (.int .i64 0), .c (.string ⟨#[]⟩), .c (.int .i64 0), .c (.int .i64 0), .c (.bool false)]) tz139 rfl tpl139 (.cons rfl rfl (by rfl) (.cons rfl rfl (by rfl) (.cons rfl rfl (by rfl) .nil))) rfl) ?_
       refine Zm ?_
       refine Ys ts139 ?_
       refine Za ?_
       refine Zn hK38 ?_
       refine AC_ret ?_
       have H1 : ¬ (smallB (u.toNat : Int) = true ∨ greatB (u.toNat : Int) = true) := by rintro (h | h); rw [hg1] at h; cases h; rw [hc4] at h; cases h
       exact ret_ok hdm (.cell rfl rfl rfl rfl rfl rfl ts139 ta139 (by rfl) (by intro h; cases h) (.tmp rfl rfl .nil)) (.cons (by exact .d) (.cons .d .nil)) (sign_ret (signM_f hub H1 hc7 hI2 (of_decide_eq_true hc12)))
      ·refine Zk hK5 ?_
       refine Zs fun _ hK39 => ?_
       refine YL ts139 ta139 ?_
       refine Zm ?_
       refine Ys ts139 ?_
       refine Za ?_
       refine Zn hK39 ?_
       refine AC_ret ?_
       have H1 : ¬ (smallB (u.toNat : Int) = true ∨ greatB (u.toNat : Int) = true) := by rintro (h | h); rw [hg1] at h; cases h; rw [hc4] at h; cases h
       exact ret_ok hdm (.cell rfl rfl rfl rfl rfl rfl ts139 ta139 (by rfl) (by intro h; cases h) (.tmp rfl rfl .nil)) (.cons (by exact .d) (.cons .d .nil)) (sign_ret (signM_f0 hub H1 hc7 hI2 (of_decide_eq_false hc12)))
    ·have hge : t.size ≤ j := by have := of_decide_eq_false hg8; omega
     have hI2 : figL ((bts t).drop i) 0 i = (m, j) := by rw [hI, List.drop_eq_nil_of_le (by simp; omega)]; rfl
     iterate 4 refine Zg ?_
     refine Zp ?_
     refine Zm ?_
     iterate 2 refine Zg ?_
     refine Zp ?_
     refine Zn hK32 ?_
     refine AC_cond_f rfl ?_
     refine Zx hK30 ?_
     refine Zs fun _ hK40 => ?_
     refine Zm ?_
     refine Ze (Ev_leq rfl rfl) ?_
     refine Zn hK40 ?_
     refine Zc (fun hc13 => ?_) fun hc13 => ?_
     ·refine Zs fun _ hK41 => ?_
      iterate 2 refine Zm ?_
      refine Ze (Ev_buildD (fs := [.one, .one, .one, .one, .one]) (zs := [.c (.int .i64 0), .c (.string ⟨#[]⟩), .c (.int .i64 0), .c (.int .i64 0), .c (.bool false)]) tz139 rfl tpl139 (.cons rfl rfl (by rfl) (.cons rfl rfl (by rfl) (.cons rfl rfl (by rfl) .nil))) rfl) ?_
      refine Zm ?_
      refine Ys ts139 ?_
      refine Za ?_
      refine Zn hK41 ?_
      refine AC_ret ?_
      have H1 : ¬ (smallB (u.toNat : Int) = true ∨ greatB (u.toNat : Int) = true) := by rintro (h | h); rw [hg1] at h; cases h; rw [hc4] at h; cases h
      exact ret_ok hdm (.cell rfl rfl rfl rfl rfl rfl ts139 ta139 (by rfl) (by intro h; cases h) (.tmp rfl rfl .nil)) (.cons (by exact .d) (.cons .d .nil)) (sign_ret (signM_f hub H1 hc7 hI2 (of_decide_eq_true hc13)))
     ·refine Zk hK5 ?_
      refine Zs fun _ hK42 => ?_
      refine YL ts139 ta139 ?_
      refine Zm ?_
      refine Ys ts139 ?_
      refine Za ?_
      refine Zn hK42 ?_
      refine AC_ret ?_
      have H1 : ¬ (smallB (u.toNat : Int) = true ∨ greatB (u.toNat : Int) = true) := by rintro (h | h); rw [hg1] at h; cases h; rw [hc4] at h; cases h
      exact ret_ok hdm (.cell rfl rfl rfl rfl rfl rfl ts139 ta139 (by rfl) (by intro h; cases h) (.tmp rfl rfl .nil)) (.cons (by exact .d) (.cons .d .nil)) (sign_ret (signM_f0 hub H1 hc7 hI2 (of_decide_eq_false hc13)))
   ·refine Zs fun _ hK43 => ?_
    refine Zm ?_
    refine Ze (Ev_eql rfl rfl) ?_
    refine Za ?_
    refine Zn hK43 ?_
    refine Zc (fun hc14 => ?_) fun hc14 => ?_
    ·refine Zs fun _ hK44 => ?_
     iterate 2 refine Zm ?_
     refine AL_fcall0 hT rfl cl158 (c_quoted t i hs hlt) rfl rfl ?_
     refine Za ?_
     refine Zn hK44 ?_
     refine Zs fun _ hK45 => ?_
     refine Zm ?_
     refine Ze (Ev_gtr rfl rfl) ?_
     refine Zn hK45 ?_
     refine Zc (fun hc15 => ?_) fun hc15 => ?_
     ·have hq0 : 0 < quoM t i := by have := of_decide_eq_true hc15; omega
      have hqe : (((quoM t i : Nat) : Int) - 1).toNat = quoM t i - 1 := by omega
      refine Zs fun _ hK46 => ?_
      iterate 2 refine Zm ?_
      refine Ze (Ev_add rfl rfl _ (wrap_id (by omega) (by omega))) ?_
      refine Zm ?_
      refine Ze (Ev_sub rfl rfl _ (wrap_id (by omega) (by omega))) ?_
      refine Ze (Ev_slice_str tstr9 rfl rfl rfl (by omega) (by omega) (by omega)) ?_
      refine Zm ?_
      refine Ze (Ev_buildD (fs := [.one, .one, .one, .one, .one]) (zs := [.c (.int .i64 0), .c (.string ⟨#[]⟩), .c (.int .i64 0), .c (.int .i64 0), .c (.bool false)]) tz139 rfl tpl139 (.cons rfl rfl (by rfl) (.cons rfl rfl (by rfl) (.cons rfl rfl (by rfl) .nil))) rfl) ?_
      refine Ys ts139 ?_
      refine Zn hK46 ?_
      refine AC_region ?_
      refine Zm ?_
      refine Za ?_
      refine Zn hK5 ?_
      refine Zs fun _ hK47 => ?_
      refine YL ts139 ta139 ?_
      refine Zm ?_
      refine Ys ts139 ?_
      refine Za ?_
      refine Zn hK47 ?_
      refine AC_ret ?_
      have H1 : ¬ (smallB (u.toNat : Int) = true ∨ greatB (u.toNat : Int) = true) := by rintro (h | h); rw [hg1] at h; cases h; rw [hc4] at h; cases h
      have H2 : ¬ figB (u.toNat : Int) = true := by rw [hc7]; decide
      exact ret_ok hdm (.cell rfl rfl rfl rfl rfl rfl ts139 ta139 (by rfl) (by intro h; cases h) (.tmp rfl rfl .nil)) (.cons (by exact .d) (.cons .d .nil)) (by have e := sign_ret (signM_q hub H1 H2 (of_decide_eq_true hc14) hq0); rw [← hqe] at e; exact e)
     ·refine Zk hK5 ?_
      refine Zs fun _ hK48 => ?_
      refine YL ts139 ta139 ?_
      refine Zm ?_
      refine Ys ts139 ?_
      refine Za ?_
      refine Zn hK48 ?_
      refine AC_ret ?_
      have H1 : ¬ (smallB (u.toNat : Int) = true ∨ greatB (u.toNat : Int) = true) := by rintro (h | h); rw [hg1] at h; cases h; rw [hc4] at h; cases h
      have H2 : ¬ figB (u.toNat : Int) = true := by rw [hc7]; decide
      exact ret_ok hdm (.cell rfl rfl rfl rfl rfl rfl ts139 ta139 (by rfl) (by intro h; cases h) (.tmp rfl rfl .nil)) (.cons (by exact .d) (.cons .d .nil)) (sign_ret (signM_q0 hub H1 H2 (of_decide_eq_true hc14) (by have := of_decide_eq_false hc15; omega)))
    ·refine Zs fun _ hK49 => ?_
     refine Zm ?_
     refine Ze (Ev_eql rfl rfl) ?_
     refine Zm ?_
     refine Zb 104 (fun hg16 => ?_) fun hg16 => ?_
     ·iterate 2 refine Zg ?_
      refine Zp ?_
      refine Za ?_
      refine Zn hK49 ?_
      refine AC_cond_t rfl ?_
      refine AC_region ?_
      refine Ya fa139_0 ?_
      refine Ys ts3 ?_
      refine Zn hK5 ?_
      refine Zs fun _ hK50 => ?_
      refine YL ts139 ta139 ?_
      refine Zm ?_
      refine Ys ts139 ?_
      refine Za ?_
      refine Zn hK50 ?_
      refine AC_ret ?_
      have H1 : ¬ (smallB (u.toNat : Int) = true ∨ greatB (u.toNat : Int) = true) := by rintro (h | h); rw [hg1] at h; cases h; rw [hc4] at h; cases h
      have H2 : ¬ figB (u.toNat : Int) = true := by rw [hc7]; decide
      have H3 : ¬ (u.toNat : Int) = 39 := of_decide_eq_false hc14
      exact ret_ok hdm (.cell rfl rfl rfl rfl rfl rfl ts139 ta139 (by rfl) (by intro h; cases h) (.tmp rfl rfl .nil)) (.cons (by exact .agg (.cons .d (.cons .d (.cons .d (.cons .d (.cons .d .nil)))))) (.cons .d .nil)) (sign_ret (signM_a hub H1 H2 H3 (.inl (of_decide_eq_true hg16))))
     ·refine Zt ?_
      refine Zm ?_
      refine Zt ?_
      refine Ze (Ev_eql rfl rfl) ?_
      refine Zp ?_
      refine Za ?_
      refine Zn hK49 ?_
      refine Zc (fun hc17 => ?_) fun hc17 => ?_
      ·refine AC_region ?_
       refine Ya fa139_0 ?_
       refine Ys ts3 ?_
       refine Zn hK5 ?_
       refine Zs fun _ hK51 => ?_
       refine YL ts139 ta139 ?_
       refine Zm ?_
       refine Ys ts139 ?_
       refine Za ?_
       refine Zn hK51 ?_
       refine AC_ret ?_
       have H1 : ¬ (smallB (u.toNat : Int) = true ∨ greatB (u.toNat : Int) = true) := by rintro (h | h); rw [hg1] at h; cases h; rw [hc4] at h; cases h
       have H2 : ¬ figB (u.toNat : Int) = true := by rw [hc7]; decide
       have H3 : ¬ (u.toNat : Int) = 39 := of_decide_eq_false hc14
       exact ret_ok hdm (.cell rfl rfl rfl rfl rfl rfl ts139 ta139 (by rfl) (by intro h; cases h) (.tmp rfl rfl .nil)) (.cons (by exact .agg (.cons .d (.cons .d (.cons .d (.cons .d (.cons .d .nil)))))) (.cons .d .nil)) (sign_ret (signM_a hub H1 H2 H3 (.inr (of_decide_eq_true hc17))))
      ·refine Zs fun _ hK52 => ?_
       refine Zm ?_
       refine Ze (Ev_eql rfl rfl) ?_
       refine Zm ?_
       refine Zb 112 (fun hg18 => ?_) fun hg18 => ?_
       ·iterate 2 refine Zg ?_
        refine Zp ?_
        refine Zm ?_
        iterate 2 refine Zg ?_
        refine Zp ?_
        refine Zm ?_
        iterate 2 refine Zg ?_
        refine Zp ?_
        refine Zm ?_
        iterate 2 refine Zg ?_
        refine Zp ?_
        refine Zm ?_
        iterate 2 refine Zg ?_
        refine Zp ?_
        refine Za ?_
        refine Zn hK52 ?_
        refine AC_cond_t rfl ?_
        refine AC_region ?_
        refine Ya fa139_0 ?_
        refine Ys ts3 ?_
        refine Zn hK5 ?_
        refine Zs fun _ hK53 => ?_
        refine YL ts139 ta139 ?_
        refine Zm ?_
        refine Ys ts139 ?_
        refine Za ?_
        refine Zn hK53 ?_
        refine AC_ret ?_
        have H1 : ¬ (smallB (u.toNat : Int) = true ∨ greatB (u.toNat : Int) = true) := by rintro (h | h); rw [hg1] at h; cases h; rw [hc4] at h; cases h
        have H2 : ¬ figB (u.toNat : Int) = true := by rw [hc7]; decide
        have H3 : ¬ (u.toNat : Int) = 39 := of_decide_eq_false hc14
        have H4 : ¬ ((u.toNat : Int) = 33 ∨ (u.toNat : Int) = 59) := by rintro (h | h); exact of_decide_eq_false hg16 h; exact of_decide_eq_false hc17 h
        exact ret_ok hdm (.cell rfl rfl rfl rfl rfl rfl ts139 ta139 (by rfl) (by intro h; cases h) (.tmp rfl rfl .nil)) (.cons (by exact .agg (.cons .d (.cons .d (.cons .d (.cons .d (.cons .d .nil)))))) (.cons .d .nil)) (sign_ret (signM_m hub H1 H2 H3 H4 (by have := of_decide_eq_true hg18; omega)))
       ·refine Zt ?_
        refine Zm ?_
        refine Zt ?_
        refine Ze (Ev_eql rfl rfl) ?_
        refine Zp ?_
        refine Zm ?_
        refine Zb 116 (fun hg19 => ?_) fun hg19 => ?_
        ·iterate 2 refine Zg ?_
         refine Zp ?_
         refine Zm ?_
         iterate 2 refine Zg ?_
         refine Zp ?_
         refine Zm ?_
         iterate 2 refine Zg ?_
         refine Zp ?_
         refine Zm ?_
         iterate 2 refine Zg ?_
         refine Zp ?_
         refine Za ?_
         refine Zn hK52 ?_
         refine AC_cond_t rfl ?_
         refine AC_region ?_
         refine Ya fa139_0 ?_
         refine Ys ts3 ?_
         refine Zn hK5 ?_
         refine Zs fun _ hK54 => ?_
         refine YL ts139 ta139 ?_
         refine Zm ?_
         refine Ys ts139 ?_
         refine Za ?_
         refine Zn hK54 ?_
         refine AC_ret ?_
         have H1 : ¬ (smallB (u.toNat : Int) = true ∨ greatB (u.toNat : Int) = true) := by rintro (h | h); rw [hg1] at h; cases h; rw [hc4] at h; cases h
         have H2 : ¬ figB (u.toNat : Int) = true := by rw [hc7]; decide
         have H3 : ¬ (u.toNat : Int) = 39 := of_decide_eq_false hc14
         have H4 : ¬ ((u.toNat : Int) = 33 ∨ (u.toNat : Int) = 59) := by rintro (h | h); exact of_decide_eq_false hg16 h; exact of_decide_eq_false hc17 h
         exact ret_ok hdm (.cell rfl rfl rfl rfl rfl rfl ts139 ta139 (by rfl) (by intro h; cases h) (.tmp rfl rfl .nil)) (.cons (by exact .agg (.cons .d (.cons .d (.cons .d (.cons .d (.cons .d .nil)))))) (.cons .d .nil)) (sign_ret (signM_m hub H1 H2 H3 H4 (by have := of_decide_eq_true hg19; omega)))
        ·refine Zt ?_
         refine Zm ?_
         refine Zt ?_
         refine Ze (Ev_eql rfl rfl) ?_
         refine Zp ?_
         refine Zm ?_
         refine Zb 120 (fun hg20 => ?_) fun hg20 => ?_
         ·iterate 2 refine Zg ?_
          refine Zp ?_
          refine Zm ?_
          iterate 2 refine Zg ?_
          refine Zp ?_
          refine Zm ?_
          iterate 2 refine Zg ?_
          refine Zp ?_
          refine Za ?_
          refine Zn hK52 ?_
          refine AC_cond_t rfl ?_
          refine AC_region ?_
          refine Ya fa139_0 ?_
          refine Ys ts3 ?_
          refine Zn hK5 ?_
          refine Zs fun _ hK55 => ?_
          refine YL ts139 ta139 ?_
          refine Zm ?_
          refine Ys ts139 ?_
          refine Za ?_
          refine Zn hK55 ?_
          refine AC_ret ?_
          have H1 : ¬ (smallB (u.toNat : Int) = true ∨ greatB (u.toNat : Int) = true) := by rintro (h | h); rw [hg1] at h; cases h; rw [hc4] at h; cases h
          have H2 : ¬ figB (u.toNat : Int) = true := by rw [hc7]; decide
          have H3 : ¬ (u.toNat : Int) = 39 := of_decide_eq_false hc14
          have H4 : ¬ ((u.toNat : Int) = 33 ∨ (u.toNat : Int) = 59) := by rintro (h | h); exact of_decide_eq_false hg16 h; exact of_decide_eq_false hc17 h
          exact ret_ok hdm (.cell rfl rfl rfl rfl rfl rfl ts139 ta139 (by rfl) (by intro h; cases h) (.tmp rfl rfl .nil)) (.cons (by exact .agg (.cons .d (.cons .d (.cons .d (.cons .d (.cons .d .nil)))))) (.cons .d .nil)) (sign_ret (signM_m hub H1 H2 H3 H4 (by have := of_decide_eq_true hg20; omega)))
         ·refine Zt ?_
          refine Zm ?_
          refine Zt ?_
          refine Ze (Ev_eql rfl rfl) ?_
          refine Zp ?_
          refine Zm ?_
          refine Zb 124 (fun hg21 => ?_) fun hg21 => ?_
          ·iterate 2 refine Zg ?_
           refine Zp ?_
           refine Zm ?_
           iterate 2 refine Zg ?_
           refine Zp ?_
           refine Za ?_
           refine Zn hK52 ?_
           refine AC_cond_t rfl ?_
           refine AC_region ?_
           refine Ya fa139_0 ?_
           refine Ys ts3 ?_
           refine Zn hK5 ?_
           refine Zs fun _ hK56 => ?_
           refine YL ts139 ta139 ?_
           refine Zm ?_
           refine Ys ts139 ?_
           refine Za ?_
           refine Zn hK56 ?_
           refine AC_ret ?_
           have H1 : ¬ (smallB (u.toNat : Int) = true ∨ greatB (u.toNat : Int) = true) := by rintro (h | h); rw [hg1] at h; cases h; rw [hc4] at h; cases h
           have H2 : ¬ figB (u.toNat : Int) = true := by rw [hc7]; decide
           have H3 : ¬ (u.toNat : Int) = 39 := of_decide_eq_false hc14
           have H4 : ¬ ((u.toNat : Int) = 33 ∨ (u.toNat : Int) = 59) := by rintro (h | h); exact of_decide_eq_false hg16 h; exact of_decide_eq_false hc17 h
           exact ret_ok hdm (.cell rfl rfl rfl rfl rfl rfl ts139 ta139 (by rfl) (by intro h; cases h) (.tmp rfl rfl .nil)) (.cons (by exact .agg (.cons .d (.cons .d (.cons .d (.cons .d (.cons .d .nil)))))) (.cons .d .nil)) (sign_ret (signM_m hub H1 H2 H3 H4 (by have := of_decide_eq_true hg21; omega)))
          ·refine Zt ?_
           refine Zm ?_
           refine Zt ?_
           refine Ze (Ev_eql rfl rfl) ?_
           refine Zp ?_
           refine Zm ?_
           refine Zb 128 (fun hg22 => ?_) fun hg22 => ?_
           ·iterate 2 refine Zg ?_
            refine Zp ?_
            refine Za ?_
            refine Zn hK52 ?_
            refine AC_cond_t rfl ?_
            refine AC_region ?_
            refine Ya fa139_0 ?_
            refine Ys ts3 ?_
            refine Zn hK5 ?_
            refine Zs fun _ hK57 => ?_
            refine YL ts139 ta139 ?_
            refine Zm ?_
            refine Ys ts139 ?_
            refine Za ?_
            refine Zn hK57 ?_
            refine AC_ret ?_
            have H1 : ¬ (smallB (u.toNat : Int) = true ∨ greatB (u.toNat : Int) = true) := by rintro (h | h); rw [hg1] at h; cases h; rw [hc4] at h; cases h
            have H2 : ¬ figB (u.toNat : Int) = true := by rw [hc7]; decide
            have H3 : ¬ (u.toNat : Int) = 39 := of_decide_eq_false hc14
            have H4 : ¬ ((u.toNat : Int) = 33 ∨ (u.toNat : Int) = 59) := by rintro (h | h); exact of_decide_eq_false hg16 h; exact of_decide_eq_false hc17 h
            exact ret_ok hdm (.cell rfl rfl rfl rfl rfl rfl ts139 ta139 (by rfl) (by intro h; cases h) (.tmp rfl rfl .nil)) (.cons (by exact .agg (.cons .d (.cons .d (.cons .d (.cons .d (.cons .d .nil)))))) (.cons .d .nil)) (sign_ret (signM_m hub H1 H2 H3 H4 (by have := of_decide_eq_true hg22; omega)))
           ·refine Zt ?_
            refine Zm ?_
            refine Zt ?_
            refine Ze (Ev_eql rfl rfl) ?_
            refine Zp ?_
            refine Za ?_
            refine Zn hK52 ?_
            refine Zc (fun hc23 => ?_) fun hc23 => ?_
            ·refine AC_region ?_
             refine Ya fa139_0 ?_
             refine Ys ts3 ?_
             refine Zn hK5 ?_
             refine Zs fun _ hK58 => ?_
             refine YL ts139 ta139 ?_
             refine Zm ?_
             refine Ys ts139 ?_
             refine Za ?_
             refine Zn hK58 ?_
             refine AC_ret ?_
             have H1 : ¬ (smallB (u.toNat : Int) = true ∨ greatB (u.toNat : Int) = true) := by rintro (h | h); rw [hg1] at h; cases h; rw [hc4] at h; cases h
             have H2 : ¬ figB (u.toNat : Int) = true := by rw [hc7]; decide
             have H3 : ¬ (u.toNat : Int) = 39 := of_decide_eq_false hc14
             have H4 : ¬ ((u.toNat : Int) = 33 ∨ (u.toNat : Int) = 59) := by rintro (h | h); exact of_decide_eq_false hg16 h; exact of_decide_eq_false hc17 h
             exact ret_ok hdm (.cell rfl rfl rfl rfl rfl rfl ts139 ta139 (by rfl) (by intro h; cases h) (.tmp rfl rfl .nil)) (.cons (by exact .agg (.cons .d (.cons .d (.cons .d (.cons .d (.cons .d .nil)))))) (.cons .d .nil)) (sign_ret (signM_m hub H1 H2 H3 H4 (by have := of_decide_eq_true hc23; omega)))
            ·refine Zs fun _ hK59 => ?_
             iterate 2 refine Zm ?_
             refine AL_fcall0 hT rfl cl159 (c_end t i u hs hu) rfl rfl ?_
             refine Za ?_
             refine Zn hK59 ?_
             refine Zc (fun hc24 => ?_) fun hc24 => ?_
             ·refine AC_region ?_
              refine Ya fa139_0 ?_
              refine Ys ts3 ?_
              refine Zn hK5 ?_
              refine Zs fun _ hK60 => ?_
              refine YL ts139 ta139 ?_
              refine Zm ?_
              refine Ys ts139 ?_
              refine Za ?_
              refine Zn hK60 ?_
              refine AC_ret ?_
              have H1 : ¬ (smallB (u.toNat : Int) = true ∨ greatB (u.toNat : Int) = true) := by rintro (h | h); rw [hg1] at h; cases h; rw [hc4] at h; cases h
              have H2 : ¬ figB (u.toNat : Int) = true := by rw [hc7]; decide
              have H3 : ¬ (u.toNat : Int) = 39 := of_decide_eq_false hc14
              have H4 : ¬ ((u.toNat : Int) = 33 ∨ (u.toNat : Int) = 59) := by rintro (h | h); exact of_decide_eq_false hg16 h; exact of_decide_eq_false hc17 h
              have H5 : ¬ ((u.toNat : Int) = 40 ∨ (u.toNat : Int) = 41 ∨ (u.toNat : Int) = 91 ∨ (u.toNat : Int) = 93 ∨ (u.toNat : Int) = 44 ∨ (u.toNat : Int) = 124) := by rintro (h | h | h | h | h | h); exact of_decide_eq_false hg18 h; exact of_decide_eq_false hg19 h; exact of_decide_eq_false hg20 h; exact of_decide_eq_false hg21 h; exact of_decide_eq_false hg22 h; exact of_decide_eq_false hc23 h
              exact ret_ok hdm (.cell rfl rfl rfl rfl rfl rfl ts139 ta139 (by rfl) (by intro h; cases h) (.tmp rfl rfl .nil)) (.cons (by exact .agg (.cons .d (.cons .d (.cons .d (.cons .d (.cons .d .nil)))))) (.cons .d .nil)) (sign_ret (signM_e hub H1 H2 H3 H4 H5 hc24))
             ·refine Zs fun _ hK61 => ?_
              refine Zm ?_
              refine AL_fcall0 hT rfl cl160 (c_symbol (u.toNat : Int)) rfl rfl ?_
              refine Za ?_
              refine Zn hK61 ?_
              refine Zc (fun hc25 => ?_) fun hc25 => ?_
              ·refine Zs fun _ hK62 => ?_
               refine Zm ?_
               refine Za ?_
               refine Zn hK62 ?_
               refine AC_seq fun _ hK63 => ?_
               refine AC_block ?_
               refine AC_loopS [0, 1, 4, 7, 8] (Nat) (fun j => [(13, i64 ((j : Nat) : Int))]) (fun q => [some ⟨139, LSG, [.d (injG sg0)]⟩, some ⟨139, LSG, [.d (injG ⟨6, t.extract i (i + 1), 0, i, false⟩)]⟩]) (fun j => t.size - j) (fun j => i ≤ j ∧ j ≤ t.size ∧ i + runL symB ((bts t).drop i) = j + runL symB ((bts t).drop j)) (i) ?_ ?_ ?_
               ·exact enterS [some 0, some 1] rfl rfl (Bx (.cons (.rd .d) .nil) (Bx (.cons (.rd .d) .nil) BxTo_nil)) Sl_
               ·exact ⟨Nat.le_refl _, by omega, rfl⟩
               rintro j ⟨hj0, hj1, hI⟩
               refine AC_seq fun _ hK64 => ?_
               refine Zs fun _ hK65 => ?_
               iterate 2 refine Zm ?_
               refine Ze (Ev_len_str tstr9 rfl) ?_
               refine Ze (Ev_lss rfl rfl) ?_
               refine Zm ?_
               refine Zb 146 (fun hg26 => ?_) fun hg26 => ?_
               ·have hjl : j < t.size := by have := of_decide_eq_true hg26; omega
                have hjbv : j < (bts t).length := by rw [bts_len]; omega
                refine Exists.elim (show ∃ v, (bts t)[j]? = some v from ⟨_, List.getElem?_eq_getElem hjbv⟩) fun v hv => ?_
                have hv2 := bts_get hv
                have hvb := UInt8.toNat_lt v
                have hdr := drop_get hv
                refine Zt ?_
                refine Zm ?_
                refine Zt ?_
                refine Zm ?_
                refine Zt ?_
                refine Ze (Ev_ix_str tstr9 rfl rfl (by omega) (by assumption)) ?_
                refine Zt ?_
                refine AL_fcall0 hT rfl cl160 (c_symbol (v.toNat : Int)) rfl rfl ?_
                refine Zp ?_
                refine Zn hK65 ?_
                refine Zc (fun hc27 => ?_) fun hc27 => ?_
                ·refine Zk hK64 ?_
                 refine AC_block ?_
                 refine AC_region ?_
                 refine Zm ?_
                 refine Ze (Ev_add rfl rfl _ (wrap_id (by omega) (by omega))) ?_
                 refine Za ?_
                 refine AL_nil ?_
                 refine closeS (j + 1) [some 0, some 1] rfl rfl (by show t.size - (j + 1) < t.size - j; omega) ⟨by omega, by omega, by rw [hI, hdr]; simp_all [runL]; omega⟩ (Bx (.cons (.rd .d) .nil) (Bx (.cons (.rd .d) .nil) BxTo_nil)) (SlTo_cons (Vw_int (by rfl)) Sl_)
                ·have hI2 : i + runL symB ((bts t).drop i) = j := by rw [hI, hdr]; simp_all [runL]
                 refine Zx hK63 ?_
                 refine Zs fun _ hK66 => ?_
                 iterate 2 refine Zm ?_
                 refine Ze (Ev_sub rfl rfl _ (wrap_id (by omega) (by omega))) ?_
                 refine Ze (Ev_leq rfl rfl) ?_
                 refine Zn hK66 ?_
                 refine Zc (fun hc28 => ?_) fun hc28 => ?_
                 ·have hn9 : runL symB ((bts t).drop i) ≤ 20 := by have := of_decide_eq_true hc28; omega
                  refine Zs fun _ hK67 => ?_
                  refine Ya fa139_0 ?_
                  refine Ys ts3 ?_
                  refine Zn hK67 ?_
                  refine Zs fun _ hK68 => ?_
                  iterate 3 refine Zm ?_
                  refine Ze (Ev_slice_str tstr9 rfl rfl rfl (by omega) (by omega) (by omega)) ?_
                  refine Ya fa139_1 ?_
                  refine Ys ts9 ?_
                  refine Zn hK68 ?_
                  refine AC_region ?_
                  refine Zm ?_
                  refine Za ?_
                  refine Zn hK5 ?_
                  refine Zs fun _ hK69 => ?_
                  refine YL ts139 ta139 ?_
                  refine Zm ?_
                  refine Ys ts139 ?_
                  refine Za ?_
                  refine Zn hK69 ?_
                  refine AC_ret ?_
                  have H1 : ¬ (smallB (u.toNat : Int) = true ∨ greatB (u.toNat : Int) = true) := by rintro (h | h); rw [hg1] at h; cases h; rw [hc4] at h; cases h
                  have H2 : ¬ figB (u.toNat : Int) = true := by rw [hc7]; decide
                  have H3 : ¬ (u.toNat : Int) = 39 := of_decide_eq_false hc14
                  have H4 : ¬ ((u.toNat : Int) = 33 ∨ (u.toNat : Int) = 59) := by rintro (h | h); exact of_decide_eq_false hg16 h; exact of_decide_eq_false hc17 h
                  have H5 : ¬ ((u.toNat : Int) = 40 ∨ (u.toNat : Int) = 41 ∨ (u.toNat : Int) = 91 ∨ (u.toNat : Int) = 93 ∨ (u.toNat : Int) = 44 ∨ (u.toNat : Int) = 124) := by rintro (h | h | h | h | h | h); exact of_decide_eq_false hg18 h; exact of_decide_eq_false hg19 h; exact of_decide_eq_false hg20 h; exact of_decide_eq_false hg21 h; exact of_decide_eq_false hg22 h; exact of_decide_eq_false hc23 h
                  have H6 : ¬ endB t i = true := by rw [hc24]; decide
                  exact ret_ok hdm (.cell rfl rfl rfl rfl rfl rfl ts139 ta139 (by rfl) (by intro h; cases h) (.tmp rfl rfl .nil)) (.cons (by exact .agg (.cons .d (.cons .d (.cons .d (.cons .d (.cons .d .nil)))))) (.cons .d .nil)) (sign_ret (signM_s hub H1 H2 H3 H4 H5 H6 hc25 hI2 hn9))
                 ·have hn9 : ¬ runL symB ((bts t).drop i) ≤ 20 := by have := of_decide_eq_false hc28; omega
                  refine Zk hK5 ?_
                  refine Zs fun _ hK70 => ?_
                  refine YL ts139 ta139 ?_
                  refine Zm ?_
                  refine Ys ts139 ?_
                  refine Za ?_
                  refine Zn hK70 ?_
                  refine AC_ret ?_
                  have H1 : ¬ (smallB (u.toNat : Int) = true ∨ greatB (u.toNat : Int) = true) := by rintro (h | h); rw [hg1] at h; cases h; rw [hc4] at h; cases h
                  have H2 : ¬ figB (u.toNat : Int) = true := by rw [hc7]; decide
                  have H3 : ¬ (u.toNat : Int) = 39 := of_decide_eq_false hc14
                  have H4 : ¬ ((u.toNat : Int) = 33 ∨ (u.toNat : Int) = 59) := by rintro (h | h); exact of_decide_eq_false hg16 h; exact of_decide_eq_false hc17 h
                  have H5 : ¬ ((u.toNat : Int) = 40 ∨ (u.toNat : Int) = 41 ∨ (u.toNat : Int) = 91 ∨ (u.toNat : Int) = 93 ∨ (u.toNat : Int) = 44 ∨ (u.toNat : Int) = 124) := by rintro (h | h | h | h | h | h); exact of_decide_eq_false hg18 h; exact of_decide_eq_false hg19 h; exact of_decide_eq_false hg20 h; exact of_decide_eq_false hg21 h; exact of_decide_eq_false hg22 h; exact of_decide_eq_false hc23 h
                  have H6 : ¬ endB t i = true := by rw [hc24]; decide
                  exact ret_ok hdm (.cell rfl rfl rfl rfl rfl rfl ts139 ta139 (by rfl) (by intro h; cases h) (.tmp rfl rfl .nil)) (.cons (by exact .d) (.cons .d .nil)) (sign_ret (signM_s0 hub H1 H2 H3 H4 H5 H6 hc25 hn9))
               ·have hge : t.size ≤ j := by have := of_decide_eq_false hg26; omega
                have hI2 : i + runL symB ((bts t).drop i) = j := by rw [hI, List.drop_eq_nil_of_le (by simp; omega)]; rfl
                iterate 4 refine Zg ?_
                refine Zp ?_
                refine Zn hK65 ?_
                refine AC_cond_f rfl ?_
                refine Zx hK63 ?_
                refine Zs fun _ hK71 => ?_
                iterate 2 refine Zm ?_
                refine Ze (Ev_sub rfl rfl _ (wrap_id (by omega) (by omega))) ?_
                refine Ze (Ev_leq rfl rfl) ?_
                refine Zn hK71 ?_
                refine Zc (fun hc29 => ?_) fun hc29 => ?_
                ·have hn9 : runL symB ((bts t).drop i) ≤ 20 := by have := of_decide_eq_true hc29; omega
                 refine Zs fun _ hK72 => ?_
                 refine Ya fa139_0 ?_
                 refine Ys ts3 ?_
                 refine Zn hK72 ?_
                 refine Zs fun _ hK73 => ?_
                 iterate 3 refine Zm ?_
                 refine Ze (Ev_slice_str tstr9 rfl rfl rfl (by omega) (by omega) (by omega)) ?_
                 refine Ya fa139_1 ?_
                 refine Ys ts9 ?_
                 refine Zn hK73 ?_
                 refine AC_region ?_
                 refine Zm ?_
                 refine Za ?_
                 refine Zn hK5 ?_
                 refine Zs fun _ hK74 => ?_
                 refine YL ts139 ta139 ?_
                 refine Zm ?_
                 refine Ys ts139 ?_
                 refine Za ?_
                 refine Zn hK74 ?_
                 refine AC_ret ?_
                 have H1 : ¬ (smallB (u.toNat : Int) = true ∨ greatB (u.toNat : Int) = true) := by rintro (h | h); rw [hg1] at h; cases h; rw [hc4] at h; cases h
                 have H2 : ¬ figB (u.toNat : Int) = true := by rw [hc7]; decide
                 have H3 : ¬ (u.toNat : Int) = 39 := of_decide_eq_false hc14
                 have H4 : ¬ ((u.toNat : Int) = 33 ∨ (u.toNat : Int) = 59) := by rintro (h | h); exact of_decide_eq_false hg16 h; exact of_decide_eq_false hc17 h
                 have H5 : ¬ ((u.toNat : Int) = 40 ∨ (u.toNat : Int) = 41 ∨ (u.toNat : Int) = 91 ∨ (u.toNat : Int) = 93 ∨ (u.toNat : Int) = 44 ∨ (u.toNat : Int) = 124) := by rintro (h | h | h | h | h | h); exact of_decide_eq_false hg18 h; exact of_decide_eq_false hg19 h; exact of_decide_eq_false hg20 h; exact of_decide_eq_false hg21 h; exact of_decide_eq_false hg22 h; exact of_decide_eq_false hc23 h
                 have H6 : ¬ endB t i = true := by rw [hc24]; decide
                 exact ret_ok hdm (.cell rfl rfl rfl rfl rfl rfl ts139 ta139 (by rfl) (by intro h; cases h) (.tmp rfl rfl .nil)) (.cons (by exact .agg (.cons .d (.cons .d (.cons .d (.cons .d (.cons .d .nil)))))) (.cons .d .nil)) (sign_ret (signM_s hub H1 H2 H3 H4 H5 H6 hc25 hI2 hn9))
                ·have hn9 : ¬ runL symB ((bts t).drop i) ≤ 20 := by have := of_decide_eq_false hc29; omega
                 refine Zk hK5 ?_
                 refine Zs fun _ hK75 => ?_
                 refine YL ts139 ta139 ?_
                 refine Zm ?_
                 refine Ys ts139 ?_
                 refine Za ?_
                 refine Zn hK75 ?_
                 refine AC_ret ?_
                 have H1 : ¬ (smallB (u.toNat : Int) = true ∨ greatB (u.toNat : Int) = true) := by rintro (h | h); rw [hg1] at h; cases h; rw [hc4] at h; cases h
                 have H2 : ¬ figB (u.toNat : Int) = true := by rw [hc7]; decide
                 have H3 : ¬ (u.toNat : Int) = 39 := of_decide_eq_false hc14
                 have H4 : ¬ ((u.toNat : Int) = 33 ∨ (u.toNat : Int) = 59) := by rintro (h | h); exact of_decide_eq_false hg16 h; exact of_decide_eq_false hc17 h
                 have H5 : ¬ ((u.toNat : Int) = 40 ∨ (u.toNat : Int) = 41 ∨ (u.toNat : Int) = 91 ∨ (u.toNat : Int) = 93 ∨ (u.toNat : Int) = 44 ∨ (u.toNat : Int) = 124) := by rintro (h | h | h | h | h | h); exact of_decide_eq_false hg18 h; exact of_decide_eq_false hg19 h; exact of_decide_eq_false hg20 h; exact of_decide_eq_false hg21 h; exact of_decide_eq_false hg22 h; exact of_decide_eq_false hc23 h
                 have H6 : ¬ endB t i = true := by rw [hc24]; decide
                 exact ret_ok hdm (.cell rfl rfl rfl rfl rfl rfl ts139 ta139 (by rfl) (by intro h; cases h) (.tmp rfl rfl .nil)) (.cons (by exact .d) (.cons .d .nil)) (sign_ret (signM_s0 hub H1 H2 H3 H4 H5 H6 hc25 hn9))
              ·refine Zk hK5 ?_
               refine Zs fun _ hK76 => ?_
               refine YL ts139 ta139 ?_
               refine Zm ?_
               refine Ys ts139 ?_
               refine Za ?_
               refine Zn hK76 ?_
               refine AC_ret ?_
               have H1 : ¬ (smallB (u.toNat : Int) = true ∨ greatB (u.toNat : Int) = true) := by rintro (h | h); rw [hg1] at h; cases h; rw [hc4] at h; cases h
               have H2 : ¬ figB (u.toNat : Int) = true := by rw [hc7]; decide
               have H3 : ¬ (u.toNat : Int) = 39 := of_decide_eq_false hc14
               have H4 : ¬ ((u.toNat : Int) = 33 ∨ (u.toNat : Int) = 59) := by rintro (h | h); exact of_decide_eq_false hg16 h; exact of_decide_eq_false hc17 h
               have H5 : ¬ ((u.toNat : Int) = 40 ∨ (u.toNat : Int) = 41 ∨ (u.toNat : Int) = 91 ∨ (u.toNat : Int) = 93 ∨ (u.toNat : Int) = 44 ∨ (u.toNat : Int) = 124) := by rintro (h | h | h | h | h | h); exact of_decide_eq_false hg18 h; exact of_decide_eq_false hg19 h; exact of_decide_eq_false hg20 h; exact of_decide_eq_false hg21 h; exact of_decide_eq_false hg22 h; exact of_decide_eq_false hc23 h
               have H6 : ¬ endB t i = true := by rw [hc24]; decide
               exact ret_ok hdm (.cell rfl rfl rfl rfl rfl rfl ts139 ta139 (by rfl) (by intro h; cases h) (.tmp rfl rfl .nil)) (.cons (by exact .d) (.cons .d .nil)) (sign_ret (signM_b hub H1 H2 H3 H4 H5 H6 (by rw [hc25]; decide)))
end Go.Proofs.YtjgliechbnommaaGreatDoor
set_option linter.unusedVariables false
set_option linter.unusedSimpArgs false
namespace Go.Proofs.YtjgliechbnommaaGreatDoor
open Go.Eng
theorem tz94 : tyZero Tryz.prog 94 = some (some (.agg #[.slice none 0 0, .int .i64 0, .int .i64 0])) := by kernel_rfl
theorem cl118 : Callable Tryz.prog 118 := Zq Tryz.func118
theorem cl119 : Callable Tryz.prog 119 := Zq Tryz.func119
theorem cl120 : Callable Tryz.prog 120 := Zq Tryz.func120
theorem cl121 : Callable Tryz.prog 121 := Zq Tryz.func121
theorem cl58 : Callable Tryz.prog 58 := Zq Tryz.func58
theorem cl59 : Callable Tryz.prog 59 := Zq Tryz.func59
theorem cl83 : Callable Tryz.prog 83 := Zq Tryz.func83
theorem cl93 : Callable Tryz.prog 93 := Zq Tryz.func93
theorem cl94 : Callable Tryz.prog 94 := Zq Tryz.func94
theorem fa94_0 : tyField Tryz.prog 94 0 = some (0, true) := by kernel_rfl
theorem fa94_1 : tyField Tryz.prog 94 1 = some (1, true) := by kernel_rfl
theorem fa94_2 : tyField Tryz.prog 94 2 = some (2, true) := by kernel_rfl
theorem ta22 : tyAgg Tryz.prog 22 = some false := by kernel_rfl
theorem ta5 : tyAgg Tryz.prog 5 = some false := by kernel_rfl
theorem tpl94 : tyPlaces Tryz.prog 94 = some (layPlaces 0 [.one, .one, .one]) := by kernel_rfl
theorem ts22 : tySize Tryz.prog 22 = some 1 := by kernel_rfl
set_option maxHeartbeats 1000000 in
set_option maxRecDepth 4000 in
theorem c_byteB (bs : List Int) (ty : TypeId) (i h : Int) (hl : bs.length ≤ lim) (h0 : 0 ≤ i) (h1 : i ≤ bs.length) : HCallR Tryz.prog 94 [] [.ptr LCU 0 0 []] [curBox ty bs i h] 1 (fun q : Int × Int × Int => 0 ≤ q.1 ∧ q.1 ≤ 255 ∧ 0 ≤ q.2.1 ∧ q.2.1 ≤ (bs.length : Int)) (fun q => [i64 q.1]) (fun q => [curBox ty bs q.2.1 q.2.2]) := by
 have hl : bs.length ≤ 1099511627776 := hl
 refine HCallR_of (n := 58) Tryz.func94 rfl rfl (Nat.le_of_ble_eq_true rfl) (Nat.le_of_ble_eq_true rfl) fun C0 o hT hP => ?_
 refine Zs fun _ hK1 => ?_
 refine Za ?_
 refine Zn hK1 ?_
 refine Zs fun _ hK2 => ?_
 iterate 2 refine Zm ?_
 refine Ze (Ev_nilc_ptr rfl) ?_
 refine Ya fa94_2 ?_
 refine Yl ts3 ta3 ?_
 refine Ze (Ev_mul rfl rfl _ rfl) ?_
 refine Ze (Ev_add rfl rfl _ rfl) ?_
 refine Ze (Ev_nilc_ptr rfl) ?_
 refine Ya fa94_2 ?_
 refine Ys ts3 ?_
 refine Zn hK2 ?_
 refine AC_seq fun _ hK3 => ?_
 refine AC_draw hT follows [0, 1, 2, 3, 4, 5, 6, 7, 8, 9, 10, 11, 12] (by kernel_rfl) ?_
 refine DT_ev rfl (EA_move) rfl ?_
 refine DT_ev rfl (EA_nilc_ptr rfl) rfl ?_
 refine DT_ev rfl (EA_fa_ptr rfl fa94_2 rfl rfl) rfl ?_
 refine DT_ev rfl (EA_load_ptr rfl rfl rfl rfl rfl rfl ts3 ta3 rfl (fun _ => rfl)) rfl ?_
 refine DT_ev rfl (EA_shr rfl rfl (by decide)) rfl ?_
 refine DT_ev rfl (EA_move) rfl ?_
 refine DT_ev rfl (EA_nilc_ptr rfl) rfl ?_
 refine DT_ev rfl (EA_fa_ptr rfl fa94_2 rfl rfl) rfl ?_
 refine DT_ev rfl (EA_load_ptr rfl rfl rfl rfl rfl rfl ts3 ta3 rfl (fun _ => rfl)) rfl ?_
 refine DT_ev rfl (EA_shr rfl rfl (by decide)) rfl ?_
 refine DT_ev rfl (EA_xor rfl rfl) rfl ?_
 refine DT_ev rfl (EA_and rfl rfl) rfl ?_
 refine DT_ev rfl (EA_assign) rfl ?_
 refine Zd hK3 ?_
 refine AC_seq fun _ hK4 => ?_
 refine AC_seq fun _ hK5 => ?_
 refine AC_draw hT follows [0, 1, 2, 3, 4, 5, 6, 7, 8, 9] (by kernel_rfl) ?_
 refine DT_ev rfl (EA_move) rfl ?_
 refine DT_ev rfl (EA_nilc_ptr rfl) rfl ?_
 refine DT_ev rfl (EA_fa_ptr rfl fa94_1 rfl rfl) rfl ?_
 refine DT_ev rfl (EA_load_ptr rfl rfl rfl rfl rfl rfl ts3 ta3 rfl (fun _ => rfl)) rfl ?_
 refine DT_ev rfl (EA_move) rfl ?_
 refine DT_ev rfl (EA_nilc_ptr rfl) rfl ?_
 refine DT_ev rfl (EA_fa_ptr rfl fa94_0 rfl rfl) rfl ?_
 refine DT_ev rfl (EA_load_ptr rfl rfl rfl rfl rfl rfl ts22 ta22 rfl (fun _ => rfl)) rfl ?_
 refine DT_ev rfl (EA_len_u8s te22 rfl) rfl ?_
 refine DT_ev rfl (EA_lss rfl rfl) rfl ?_
 refine Zd hK5 ?_
 refine Zc (fun hc1 => ?_) fun hc1 => ?_
 ·have h2 : i < bs.length := by have := of_decide_eq_true hc1; omega
  obtain ⟨j, rfl⟩ : ∃ j : Nat, i = (j : Int) := ⟨i.toNat, by omega⟩
  obtain ⟨u, hu⟩ : ∃ u, bs[j]? = some u := ⟨_, List.getElem?_eq_getElem (by omega)⟩
  have hu2 := u8s_get hu
  refine AC_seq fun _ hK6 => ?_
  refine AC_draw hT follows [0, 1, 2, 3, 4, 5, 6, 7, 8, 9, 10, 11, 12, 13, 14] (by kernel_rfl) ?_
  refine DT_ev rfl (EA_move) rfl ?_
  refine DT_ev rfl (EA_move) rfl ?_
  refine DT_ev rfl (EA_nilc_ptr rfl) rfl ?_
  refine DT_ev rfl (EA_fa_ptr rfl fa94_0 rfl rfl) rfl ?_
  refine DT_ev rfl (EA_load_ptr rfl rfl rfl rfl rfl rfl ts22 ta22 rfl (fun _ => rfl)) rfl ?_
  refine DT_ev rfl (EA_move) rfl ?_
  refine DT_ev rfl (EA_nilc_ptr rfl) rfl ?_
  refine DT_ev rfl (EA_fa_ptr rfl fa94_1 rfl rfl) rfl ?_
  refine DT_ev rfl (EA_load_ptr rfl rfl rfl rfl rfl rfl ts3 ta3 rfl (fun _ => rfl)) rfl ?_
  refine DT_ev rfl (EA_ix_sl rfl rfl te22 ts5 (by omega) (by assumption)) rfl ?_
  refine DT_ev rfl (EA_load_rp rfl rfl rfl ts5 ta5 rfl (fun _ => rfl)) rfl ?_
  refine DT_ev rfl (EA_conv_int tund5 tint3 rfl _ rfl) rfl ?_
  refine DT_ev rfl (EA_add rfl rfl _ rfl) rfl ?_
  refine DT_ev rfl (EA_and rfl rfl) rfl ?_
  refine DT_ev rfl (EA_assign) rfl ?_
  refine Zd hK6 ?_
  refine AC_region ?_
  iterate 2 refine Zm ?_
  refine Ze (Ev_nilc_ptr rfl) ?_
  refine Ya fa94_1 ?_
  refine Yl ts3 ta3 ?_
  refine Ze (Ev_add rfl rfl _ (wrap_id (by omega) (by omega))) ?_
  refine Ze (Ev_nilc_ptr rfl) ?_
  refine Ya fa94_1 ?_
  refine Ys ts3 ?_
  refine Zn hK4 ?_
  refine Zs fun _ hK7 => ?_
  refine Zm ?_
  refine Za ?_
  refine Zn hK7 ?_
  refine AC_ret ?_
  exact retr_ok (_, _, _) ⟨(and255 _).1, (and255 _).2, by show 0 ≤ ((j : Nat) : Int) + 1; omega, by show ((j : Nat) : Int) + 1 ≤ _; omega⟩ [0] (CExt.refl _) (.tmp rfl rfl .nil) rfl rfl (BxF_stay rfl rfl rfl rfl rfl (.cons (.agg (.cons .d (.cons .d (.cons .d .nil)))) .nil) rfl BxF_nil) (Nat.le_refl _) (.cons .d .nil)
 ·refine Zk hK4 ?_
  refine Zs fun _ hK8 => ?_
  refine Zm ?_
  refine Za ?_
  refine Zn hK8 ?_
  refine AC_ret ?_
  exact retr_ok (_, _, _) ⟨(and255 _).1, (and255 _).2, h0, h1⟩ [0] (CExt.refl _) (.tmp rfl rfl .nil) rfl rfl (BxF_stay rfl rfl rfl rfl rfl (.cons (.agg (.cons .d (.cons .d (.cons .d .nil)))) .nil) rfl BxF_nil) (Nat.le_refl _) (.cons .d .nil)
theorem c_byte : DCall Tryz.prog 94 [] (fun r => ∃ x : Int, r = .c (.int .i64 x) ∧ 0 ≤ x ∧ x ≤ 255) :=
 DCall_of_box (A := Int) (Rq := fun bs x i h => 0 ≤ x ∧ x ≤ 255 ∧ 0 ≤ i ∧ i ≤ (bs.length : Int)) (res := fun x => .c (.int .i64 x)) (fun bs ty i h hl h0 h1 => c_byteB bs ty i h hl h0 h1) (fun bs x i h ⟨a, b, c, d⟩ => ⟨⟨x, rfl, a, b⟩, c, d⟩)
set_option maxHeartbeats 2000000 in
set_option maxRecDepth 4000 in
theorem c_new  : NewCur Tryz.prog 40 := by
 refine NewCur_of (n := 32) Tryz.func40 rfl rfl (Nat.le_of_ble_eq_true rfl) fun C bs hdm hT => ?_
 refine Zs fun _ hK1 => ?_
 refine Za ?_
 refine Zn hK1 ?_
 refine Zs fun _ hK2 => ?_
 refine Zm ?_
 refine AL_lim (x := (Operand.tmp 5)) rfl fun hl1 => ?_
 try simp only [injs_length, ints_length, strs_length, injCs_length, u8s_length, List.length_map] at hl1
 refine Ze (Ev_len_u8s te22 rfl) ?_
 refine Ze (Ev_add rfl rfl _ (wrap_id (by omega) (by omega))) ?_
 refine Za ?_
 refine Zn hK2 ?_
 refine AC_seq fun _ hK3 => ?_
 refine Zs fun _ hK4 => ?_
 refine Za ?_
 refine Zn hK4 ?_
 refine AC_block ?_
 refine AC_loopS [0] (Nat × Int) (fun ⟨j, h⟩ => [(4, i64 j), (3, i64 h)]) (fun ⟨j, h⟩ => []) (fun st => bs.length - st.1) (fun ⟨j, h⟩ => (j ≤ bs.length)) ((0, 95101 + (bs.length : Int))) ?_ ?_ ?_
 ·exact enterS [] rfl rfl BxTo_nil Sl_
 ·exact Nat.zero_le _
 rintro ⟨j, h⟩ hj
 show AC _ _ _ _ _ (FS [0] _ [(4, i64 j), (3, i64 h)]) []
 refine AC_seq fun _ hK5 => ?_
 refine Zs fun _ hK6 => ?_
 iterate 2 refine Zm ?_
 refine AL_lim (x := (Operand.tmp 9)) rfl fun hl2 => ?_
 try simp only [injs_length, ints_length, strs_length, injCs_length, u8s_length, List.length_map] at hl2
 refine Ze (Ev_len_u8s te22 rfl) ?_
 refine Ze (Ev_lss rfl rfl) ?_
 refine Zm ?_
 refine Zb 12 (fun hg1 => ?_) fun hg1 => ?_
 ·have h1 : j < bs.length := by have := of_decide_eq_true hg1; omega
  obtain ⟨u, hu⟩ : ∃ u, bs[j]? = some u := ⟨_, List.getElem?_eq_getElem h1⟩
  have hu2 := u8s_get hu
  refine Zt ?_
  refine Zm ?_
  refine Zt ?_
  refine Ze (Ev_lss rfl rfl) ?_
  refine Zp ?_
  refine Zn hK6 ?_
  refine Zc (fun hc2 => ?_) fun hc2 => ?_
  ·refine Zk hK5 ?_
   refine AC_seq fun _ hK7 => ?_
   refine AC_block ?_
   refine AC_region ?_
   refine Zm ?_
   refine Ze (Ev_mul rfl rfl _ rfl) ?_
   iterate 2 refine Zm ?_
   refine Ze (Ev_ix_sl rfl rfl te22 ts5 (by omega) hu2) ?_
   refine Yp ts5 ta5 ?_
   refine Ze (Ev_conv_int tund5 tint3 rfl _ rfl) ?_
   refine Ze (Ev_add rfl rfl _ rfl) ?_
   refine Ze (Ev_add rfl rfl _ rfl) ?_
   refine Ze (Ev_and rfl rfl) ?_
   refine Za ?_
   refine Zn hK7 ?_
   refine AC_region ?_
   refine Zm ?_
   refine Ze (Ev_add rfl rfl _ (wrap_id (by omega) (by omega))) ?_
   refine Za ?_
   refine AL_nil ?_
   refine closeS (j + 1, IntKind.i64.wrap ((BitVec.ofInt IntKind.i64.bits (IntKind.i64.wrap (IntKind.i64.wrap (IntKind.i64.wrap (h * 131) + IntKind.i64.wrap u) + 7)) &&& BitVec.ofInt IntKind.i64.bits 1073741823).toNat : Int)) [] rfl rfl (by show bs.length - (j + 1) < bs.length - j; omega) ?_ BxTo_nil Sl_
   show j + 1 ≤ bs.length; omega
  ·refine Zx hK3 ?_
   refine Zs fun _ hK8 => ?_
   iterate 2 refine Zm ?_
   refine Ze (Ev_build (fs := [.one, .one, .one]) (zs := [.c (.slice none 0 0), .c (.int .i64 0), .c (.int .i64 0)]) tz94 rfl tpl94 (.cons rfl rfl (by rfl) (.cons rfl rfl (by rfl) .nil))) ?_
   refine AL_box (Lay.st [.one, .one, .one]) (nf rfl) rfl (by rfl) _ rfl rfl ?_
   refine Za ?_
   refine Zn hK8 ?_
   refine AC_ret ?_
   exact newcur_ok hdm (.tmp rfl rfl .nil) rfl (Int.le_refl 0) (by omega)
 ·iterate 2 refine Zg ?_
  refine Zp ?_
  refine Zn hK6 ?_
  refine AC_cond_f rfl ?_
  refine Zx hK3 ?_
  refine Zs fun _ hK9 => ?_
  iterate 2 refine Zm ?_
  refine Ze (Ev_build (fs := [.one, .one, .one]) (zs := [.c (.slice none 0 0), .c (.int .i64 0), .c (.int .i64 0)]) tz94 rfl tpl94 (.cons rfl rfl (by rfl) (.cons rfl rfl (by rfl) .nil))) ?_
  refine AL_box (Lay.st [.one, .one, .one]) (nf rfl) rfl (by rfl) _ rfl rfl ?_
  refine Za ?_
  refine Zn hK9 ?_
  refine AC_ret ?_
  exact newcur_ok hdm (.tmp rfl rfl .nil) rfl (Int.le_refl 0) (by omega)
set_option maxHeartbeats 1000000 in
set_option maxRecDepth 4000 in
theorem c_below (m : Int) (hm : m ≤ 4611686018427387904) : DCall Tryz.prog 59 [.c (.int .i64 m)] (fun r => ∃ x : Int, r = .c (.int .i64 x) ∧ 0 ≤ x ∧ (x < m ∨ x = 0)) := by
 refine DCall_of (n := 37) Tryz.func59 rfl rfl (Nat.le_of_ble_eq_true rfl) fun C0 b bs hdm hbl hT hcu => ?_
 have hM := Mk.refl C0 [b]
 refine Zs fun _ hK1 => ?_
 refine Za ?_
 refine Zn hK1 ?_
 refine AC_seq fun _ hK2 => ?_
 refine Zs fun _ hK3 => ?_
 refine Zm ?_
 refine Ze (Ev_leq rfl rfl) ?_
 refine Zn hK3 ?_
 refine Zc (fun hc1 => ?_) fun hc1 => ?_
 ·have h1 := of_decide_eq_true hc1
  refine Zs fun _ hK4 => ?_
  refine Za ?_
  refine Zn hK4 ?_
  refine AC_ret ?_
  exact retd_ok hM hcu hdm (.tmp rfl rfl .nil) .d ⟨0, rfl, Int.le_refl 0, .inr rfl⟩
 ·have h1 : 0 < m := by have := of_decide_eq_false hc1; omega
  refine Zk hK2 ?_
  refine AC_seq fun _ hK5 => ?_
  refine Zs fun _ hK6 => ?_
  refine Zm ?_
  refine Ze (Ev_leq rfl rfl) ?_
  refine Zn hK6 ?_
  refine Zc (fun hc2 => ?_) fun hc2 => ?_
  ·refine Zs fun _ hK7 => ?_
   refine Zm ?_
   refine AL_dcall hT hcu hbl rfl cl94 (c_byte) rfl rfl rfl fun C1 r1 hR1 hM1 hcu hT => ?_
   have hM := hM.trans hM1 (fun c hc _ => hc)
   obtain ⟨x1, rfl, hx1, hy1⟩ := hR1
   refine Zm ?_
   refine Ze (Ev_rem rfl rfl (by omega)) ?_
   refine Za ?_
   refine Zn hK7 ?_
   refine AC_ret ?_
   exact retd_ok hM hcu hdm (.tmp rfl rfl .nil) .d ⟨_, rfl, Int.tmod_nonneg _ hx1, .inl (Int.tmod_lt_of_pos _ h1)⟩
  ·refine Zk hK5 ?_
   refine Zs fun _ hK8 => ?_
   refine Zm ?_
   refine AL_dcall hT hcu hbl rfl cl94 (c_byte) rfl rfl rfl fun C2 r2 hR2 hM2 hcu hT => ?_
   have hM := hM.trans hM2 (fun c hc _ => hc)
   obtain ⟨x2, rfl, hx2, hy2⟩ := hR2
   refine Za ?_
   refine Zn hK8 ?_
   refine Zs fun _ hK9 => ?_
   refine Zm ?_
   refine AL_dcall hT hcu hbl rfl cl94 (c_byte) rfl rfl rfl fun C3 r3 hR3 hM3 hcu hT => ?_
   have hM := hM.trans hM3 (fun c hc _ => hc)
   obtain ⟨x3, rfl, hx3, hy3⟩ := hR3
   refine Za ?_
   refine Zn hK9 ?_
   refine Zs fun _ hK10 => ?_
   refine Zm ?_
   refine AL_dcall hT hcu hbl rfl cl94 (c_byte) rfl rfl rfl fun C4 r4 hR4 hM4 hcu hT => ?_
   have hM := hM.trans hM4 (fun c hc _ => hc)
   obtain ⟨x4, rfl, hx4, hy4⟩ := hR4
   refine Za ?_
   refine Zn hK10 ?_
   refine Zs fun _ hK11 => ?_
   refine Zm ?_
   refine AL_dcall hT hcu hbl rfl cl94 (c_byte) rfl rfl rfl fun C5 r5 hR5 hM5 hcu hT => ?_
   have hM := hM.trans hM5 (fun c hc _ => hc)
   obtain ⟨x5, rfl, hx5, hy5⟩ := hR5
   refine Za ?_
   refine Zn hK11 ?_
   refine Zs fun _ hK12 => ?_
   refine Zm ?_
   refine Ze (Ev_mul rfl rfl _ (wrap_id (by omega) (by omega))) ?_
   refine Zm ?_
   refine Ze (Ev_mul rfl rfl _ (wrap_id (by omega) (by omega))) ?_
   refine Ze (Ev_add rfl rfl _ (wrap_id (by omega) (by omega))) ?_
   refine Zm ?_
   refine Ze (Ev_mul rfl rfl _ (wrap_id (by omega) (by omega))) ?_
   refine Ze (Ev_add rfl rfl _ (wrap_id (by omega) (by omega))) ?_
   refine Zm ?_
   refine Ze (Ev_add rfl rfl _ (wrap_id (by omega) (by omega))) ?_
   refine Zm ?_
   refine Ze (Ev_rem rfl rfl (by omega)) ?_
   refine Za ?_
   refine Zn hK12 ?_
   refine AC_ret ?_
   exact retd_ok hM hcu hdm (.tmp rfl rfl .nil) .d ⟨_, rfl, Int.tmod_nonneg _ (by omega), .inl (Int.tmod_lt_of_pos _ h1)⟩
set_option maxHeartbeats 1000000 in
set_option maxRecDepth 4000 in
theorem c_onceD (m : Int) (hm : m ≤ 4611686018427387904) : DCall Tryz.prog 56 [.c (.int .i64 m)] (fun r => ∃ x : Bool, r = .c (.bool x)) := by
 refine DCall_of (n := 9) Tryz.func56 rfl rfl (Nat.le_of_ble_eq_true rfl) fun C0 b bs hdm hbl hT hcu => ?_
 have hM := Mk.refl C0 [b]
 refine Zs fun _ hK1 => ?_
 refine Za ?_
 refine Zn hK1 ?_
 refine Zs fun _ hK2 => ?_
 iterate 2 refine Zm ?_
 refine AL_dcall hT hcu hbl rfl cl59 (c_below m hm) rfl rfl rfl fun C1 r1 hR1 hM1 hcu hT => ?_
 have hM := hM.trans hM1 (fun c hc _ => hc)
 obtain ⟨x1, rfl, hx1, hy1⟩ := hR1
 refine Ze (Ev_eql rfl rfl) ?_
 refine Za ?_
 refine Zn hK2 ?_
 refine AC_ret ?_
 exact retd_ok hM hcu hdm (.tmp rfl rfl .nil) .d ⟨_, rfl⟩
set_option maxHeartbeats 1000000 in
set_option maxRecDepth 4000 in
theorem c_pick (xs : List ByteArray) (h0 : 0 < xs.length) : DCall Tryz.prog 83 [.sl .one (strs xs)] (fun r => ∃ s ∈ xs, r = .c (.string s)) := by
 refine DCall_of (n := 12) Tryz.func83 rfl rfl (Nat.le_of_ble_eq_true rfl) fun C0 b bs hdm hbl hT hcu => ?_
 have hM := Mk.refl C0 [b]
 refine Zs fun _ hK1 => ?_
 refine Za ?_
 refine Zn hK1 ?_
 refine Zs fun _ hK2 => ?_
 iterate 3 refine Zm ?_
 refine AL_lim (x := (Operand.tmp 7)) rfl fun hl1 => ?_
 try simp only [injs_length, ints_length, strs_length, injCs_length, u8s_length, List.length_map] at hl1
 refine Ze (Ev_len_strs te25 rfl) ?_
 refine AL_dcall hT hcu hbl rfl cl59 (c_below xs.length (by omega)) rfl rfl rfl fun C1 r1 hR1 hM1 hcu hT => ?_
 have hM := hM.trans hM1 (fun c hc _ => hc)
 obtain ⟨x1, rfl, hx1, hy1⟩ := hR1
 obtain ⟨j, rfl⟩ : ∃ j : Nat, x1 = (j : Int) := ⟨x1.toNat, by omega⟩
 obtain ⟨u, hu⟩ : ∃ u, xs[j]? = some u := ⟨_, List.getElem?_eq_getElem (by omega)⟩
 have hu2 := strs_get hu
 refine Yi te25 ts9 ?_
 refine Yp ts9 ta9 ?_
 refine Za ?_
 refine Zn hK2 ?_
 refine AC_ret ?_
 exact retd_ok hM hcu hdm (.tmp rfl rfl .nil) .d ⟨u, List.mem_of_getElem? hu, rfl⟩
set_option maxHeartbeats 1000000 in
set_option maxRecDepth 4000 in
theorem c_pickInt (xs : List Int) (h0 : 0 < xs.length) : DCall Tryz.prog 120 [.sl .one (ints xs)] (fun r => ∃ s ∈ xs, r = .c (.int .i64 s)) := by
 refine DCall_of (n := 12) Tryz.func120 rfl rfl (Nat.le_of_ble_eq_true rfl) fun C0 b bs hdm hbl hT hcu => ?_
 have hM := Mk.refl C0 [b]
 refine Zs fun _ hK1 => ?_
 refine Za ?_
 refine Zn hK1 ?_
 refine Zs fun _ hK2 => ?_
 iterate 3 refine Zm ?_
 refine AL_lim (x := (Operand.tmp 7)) rfl fun hl1 => ?_
 try simp only [injs_length, ints_length, strs_length, injCs_length, u8s_length, List.length_map] at hl1
 refine Ze (Ev_len_ints te30 rfl) ?_
 refine AL_dcall hT hcu hbl rfl cl59 (c_below xs.length (by omega)) rfl rfl rfl fun C1 r1 hR1 hM1 hcu hT => ?_
 have hM := hM.trans hM1 (fun c hc _ => hc)
 obtain ⟨x1, rfl, hx1, hy1⟩ := hR1
 obtain ⟨j, rfl⟩ : ∃ j : Nat, x1 = (j : Int) := ⟨x1.toNat, by omega⟩
 obtain ⟨u, hu⟩ : ∃ u, xs[j]? = some u := ⟨_, List.getElem?_eq_getElem (by omega)⟩
 have hu2 := ints_get hu
 refine Yi te30 ts3 ?_
 refine Yp ts3 ta3 ?_
 refine Za ?_
 refine Zn hK2 ?_
 refine AC_ret ?_
 exact retd_ok hM hcu hdm (.tmp rfl rfl .nil) .d ⟨u, List.mem_of_getElem? hu, rfl⟩
set_option maxHeartbeats 1000000 in
set_option maxRecDepth 4000 in
theorem c_var03 (m : Int) : PCall Tryz.prog 118 [.c (.int .i64 m)] (· = [inj (.mk 1 ⟨#[]⟩ m [])]) := by
 refine PCall_of (n := 5) Tryz.func118 rfl rfl (Nat.le_of_ble_eq_true rfl) fun C hdm hT0 => ?_
 have hT := hT0
 refine Zs fun _ hK1 => ?_
 refine AL_alloc zo41 _ rfl rfl ?_
 refine Zn hK1 ?_
 refine Zs fun _ hK2 => ?_
 refine Zm ?_
 refine Ze (Ev_build (fs := [.one, .one, .one, .one]) (zs := [.c (.int .i64 0), .c (.string ⟨#[]⟩), .c (.int .i64 0), .c (.slice none 0 0)]) tz41 rfl tpl41 (.cons rfl rfl (by rfl) (.cons rfl rfl (by rfl) .nil))) ?_
 refine Ys ts41 ?_
 refine Zn hK2 ?_
 refine AC_ret ?_
 exact ret_ok hdm (.cell rfl rfl rfl rfl rfl rfl ts41 ta41 rfl (by intro h; cases h) .nil) (.cons (.agg (.cons .d (.cons .d (.cons .d (.cons .nil .nil))))) .nil) rfl
set_option maxHeartbeats 1000000 in
set_option maxRecDepth 4000 in
theorem c_num03 (m : Int) : PCall Tryz.prog 119 [.c (.int .i64 m)] (· = [inj (.mk 3 ⟨#[]⟩ m [])]) := by
 refine PCall_of (n := 5) Tryz.func119 rfl rfl (Nat.le_of_ble_eq_true rfl) fun C hdm hT0 => ?_
 have hT := hT0
 refine Zs fun _ hK1 => ?_
 refine AL_alloc zo41 _ rfl rfl ?_
 refine Zn hK1 ?_
 refine Zs fun _ hK2 => ?_
 refine Zm ?_
 refine Ze (Ev_build (fs := [.one, .one, .one, .one]) (zs := [.c (.int .i64 0), .c (.string ⟨#[]⟩), .c (.int .i64 0), .c (.slice none 0 0)]) tz41 rfl tpl41 (.cons rfl rfl (by rfl) (.cons rfl rfl (by rfl) .nil))) ?_
 refine Ys ts41 ?_
 refine Zn hK2 ?_
 refine AC_ret ?_
 exact ret_ok hdm (.cell rfl rfl rfl rfl rfl rfl ts41 ta41 rfl (by intro h; cases h) .nil) (.cons (.agg (.cons .d (.cons .d (.cons .d (.cons .nil .nil))))) .nil) rfl
set_option maxHeartbeats 1000000 in
set_option maxRecDepth 4000 in
theorem c_atom03 (s : ByteArray) : PCall Tryz.prog 58 [.c (.string s)] (· = [inj (.mk 2 s 0 [])]) := by
 refine PCall_of (n := 5) Tryz.func58 rfl rfl (Nat.le_of_ble_eq_true rfl) fun C hdm hT0 => ?_
 have hT := hT0
 refine Zs fun _ hK1 => ?_
 refine AL_alloc zo41 _ rfl rfl ?_
 refine Zn hK1 ?_
 refine Zs fun _ hK2 => ?_
 refine Zm ?_
 refine Ze (Ev_build (fs := [.one, .one, .one, .one]) (zs := [.c (.int .i64 0), .c (.string ⟨#[]⟩), .c (.int .i64 0), .c (.slice none 0 0)]) tz41 rfl tpl41 (.cons rfl rfl (by rfl) (.cons rfl rfl (by rfl) .nil))) ?_
 refine Ys ts41 ?_
 refine Zn hK2 ?_
 refine AC_ret ?_
 exact ret_ok hdm (.cell rfl rfl rfl rfl rfl rfl ts41 ta41 rfl (by intro h; cases h) .nil) (.cons (.agg (.cons .d (.cons .d (.cons .d (.cons .nil .nil))))) .nil) rfl
set_option maxHeartbeats 8000000 in
set_option maxRecDepth 4000 in
theorem c_made (d : Nat) : d ≤ 1000 → ∀ e : Int, e = d → DCall Tryz.prog 93 [.c (.int .i64 e)] (fun r => ∃ t : T, r = inj t ∧ bulk t + 2 ≤ pw d ∧ hgt t ≤ d + 1) := by
 induction d using Nat.strongRecOn with | _ d ih => ?_
 intro hd9 e he
 have hpw := pw_pos d
 refine DCall_of (n := 87) Tryz.func93 rfl rfl (Nat.le_of_ble_eq_true rfl) fun C0 b bs hdm hbl hT hcu => ?_
 have hM := Mk.refl C0 [b]
 refine Zs fun _ hK1 => ?_
 refine AL_alloc zo41 _ rfl rfl ?_
 refine Zn hK1 ?_
 refine Zs fun _ hK2 => ?_
 refine Zm ?_
 refine AL_dcall hT hcu hbl rfl cl59 (c_below 10 (by omega)) rfl rfl rfl fun C1 r1 hR1 hM1 hcu hT => ?_
 have hM := hM.trans hM1 (fun c hc _ => hc)
 obtain ⟨x1, rfl, hx1, hy1⟩ := hR1
 refine Za ?_
 refine Zn hK2 ?_
 refine AC_seqJ (fun f L => ∃ k : Int, (0 ≤ k ∧ k < 10 ∧ (6 ≤ k → 0 < d)) ∧ f = frOf [(0, rawP b 0), (1, i64 e), (4, .ptr LT 0 0 []), (5, i64 k)] ∧ L = [some ⟨41, LT, [.d zT]⟩]) ?_ ?_
 ·refine Zs fun _ hK4 => ?_
  refine Zm ?_
  refine Ze (Ev_leq rfl rfl) ?_
  refine Zn hK4 ?_
  refine Zc (fun hc1 => ?_) fun hc1 => ?_
  ·refine AC_region ?_
   refine Zm ?_
   refine Ze (Ev_rem rfl rfl (by decide)) ?_
   refine Za ?_
   refine AL_nil ?_
   refine joinFE (x1.tmod 6) [some 0] rfl rfl (by have := Int.tmod_nonneg 6 hx1; have := Int.tmod_lt_of_pos x1 (show (0 : Int) < 6 by omega); omega) (Bx (.cons (.rd .d) .nil) BxTo_nil) Sl_
  ·refine AC_skip ?_
   refine joinFE x1 [some 0] rfl rfl (by have := of_decide_eq_false hc1; omega) (Bx (.cons (.rd .d) .nil) BxTo_nil) Sl_
 ·rintro f L ⟨k, ⟨hk0, hk1, hk2⟩, rfl, rfl⟩
  refine AC_seq fun _ hK5 => ?_
  refine AC_block ?_
  refine Zs fun _ hK6 => ?_
  refine Zm ?_
  refine Ze (Ev_lss rfl rfl) ?_
  refine Za ?_
  refine Zn hK6 ?_
  refine Zc (fun hc2 => ?_) fun hc2 => ?_
  ·refine Zs fun _ hK7 => ?_
   refine Zm ?_
   refine AL_dcall hT hcu hbl rfl cl59 (c_below 4 (by omega)) rfl rfl rfl fun C2 r2 hR2 hM2 hcu hT => ?_
   have hM := hM.trans hM2 (fun c hc _ => hc)
   obtain ⟨x2, rfl, hx2, hy2⟩ := hR2
   refine AL_fcall0 hT rfl cl118 (c_var03 x2) rfl rfl ?_
   refine Ys ts41 ?_
   refine Zn hK7 ?_
   refine AC_ret ?_
   exact retd_ok hM hcu hdm (.cell rfl rfl rfl rfl rfl rfl ts41 ta41 rfl (by intro h; cases h) .nil) .d ⟨_, rfl, by rw [bulk_leaf0]; omega, by rw [hgt_leaf]; omega⟩
  ·refine Zs fun _ hK8 => ?_
   refine Zm ?_
   refine Ze (Ev_lss rfl rfl) ?_
   refine Za ?_
   refine Zn hK8 ?_
   refine Zc (fun hc3 => ?_) fun hc3 => ?_
   ·refine Zs fun _ hK9 => ?_
    refine Zm ?_
    refine Ze (Ev_slice_str tstr9 rfl rfl rfl (by omega) (by omega) (by decide)) ?_
    refine AL_bD .one rfl te25 ts9 tz9 rfl rfl (by decide) (by decide) (by rfl) rfl ?_
    refine AL_dcall hT hcu hbl rfl cl83 (c_pick [⟨#[97]⟩, ⟨#[98]⟩, ⟨#[91, 93]⟩, ⟨#[43]⟩, ⟨#[66, 105, 103]⟩, ⟨#[120]⟩, ⟨#[58, 45]⟩, ⟨#[61, 46, 46]⟩] (by simp)) rfl rfl rfl fun C3 r3 hR3 hM3 hcu hT => ?_
    have hM := hM.trans hM3 (fun c hc _ => hc)
    obtain ⟨s3, hs3, rfl⟩ := hR3
    have hz3 : s3.size ≤ 3 := by
     simp only [List.mem_cons, List.not_mem_nil, or_false] at hs3
     rcases hs3 with rfl | rfl | rfl | rfl | rfl | rfl | rfl | rfl <;> decide
    refine AL_fcall0 hT rfl cl58 (c_atom03 s3) rfl rfl ?_
    refine Ys ts41 ?_
    refine Zn hK9 ?_
    refine AC_ret ?_
    exact retd_ok hM hcu hdm (.cell rfl rfl rfl rfl rfl rfl ts41 ta41 rfl (by intro h; cases h) .nil) .d ⟨_, rfl, by rw [bulk_leaf]; omega, by rw [hgt_leaf]; omega⟩
   ·refine Zs fun _ hK10 => ?_
    refine Zm ?_
    refine Ze (Ev_lss rfl rfl) ?_
    refine Za ?_
    refine Zn hK10 ?_
    refine Zc (fun hc4 => ?_) fun hc4 => ?_
    ·refine Zs fun _ hK11 => ?_
     refine Zm ?_
     refine AL_bD .one rfl te30 ts3 tz3 rfl rfl (by decide) (by decide) (by rfl) rfl ?_
     refine AL_dcall hT hcu hbl rfl cl120 (c_pickInt [0, 1, -7, 999999999] (by simp)) rfl rfl rfl fun C4 r4 hR4 hM4 hcu hT => ?_
     have hM := hM.trans hM4 (fun c hc _ => hc)
     obtain ⟨n4, hn4, rfl⟩ := hR4
     refine AL_fcall0 hT rfl cl119 (c_num03 n4) rfl rfl ?_
     refine Ys ts41 ?_
     refine Zn hK11 ?_
     refine AC_ret ?_
     exact retd_ok hM hcu hdm (.cell rfl rfl rfl rfl rfl rfl ts41 ta41 rfl (by intro h; cases h) .nil) .d ⟨_, rfl, by rw [bulk_leaf0]; omega, by rw [hgt_leaf]; omega⟩
    ·have h6 : 6 ≤ k := by have := of_decide_eq_false hc4; omega
     have hd0 := hk2 h6
     refine Zs fun _ hK12 => ?_
     refine Zm ?_
     refine Ze (Ev_eql rfl rfl) ?_
     refine Za ?_
     refine Zn hK12 ?_
     refine Zc (fun hc5 => ?_) fun hc5 => ?_
     ·refine Zs fun _ hK13 => ?_
      iterate 2 refine Zm ?_
      refine Ze (Ev_sub rfl rfl _ (wrap_id (by omega) (by omega))) ?_
      refine AL_dcall hT hcu hbl rfl cl93 (ih (d - 1) (by omega) (by omega) (e - 1) (by omega)) rfl rfl rfl fun C5 r5 hR5 hM5 hcu hT => ?_
      have hM := hM.trans hM5 (fun c hc _ => hc)
      obtain ⟨t5, rfl, hb5, hh5⟩ := hR5
      iterate 2 refine Zm ?_
      refine Ze (Ev_sub rfl rfl _ (wrap_id (by omega) (by omega))) ?_
      refine AL_dcall hT hcu hbl rfl cl93 (ih (d - 1) (by omega) (by omega) (e - 1) (by omega)) rfl rfl rfl fun C6 r6 hR6 hM6 hcu hT => ?_
      have hM := hM.trans hM6 (fun c hc _ => hc)
      obtain ⟨t6, rfl, hb6, hh6⟩ := hR6
      refine AL_fcall0 hT rfl cl121 (c_two nmDot t5 t6) rfl rfl ?_
      refine Ys ts41 ?_
      refine Zn hK13 ?_
      refine AC_ret ?_
      exact retd_ok hM hcu hdm (.cell rfl rfl rfl rfl rfl rfl ts41 ta41 rfl (by intro h; cases h) .nil) .d ⟨_, rfl, by rw [pw_pred hd0]; exact bulk_few (pw_pos _) (by decide) (by simp) (by simp only [List.mem_cons, List.not_mem_nil, or_false]; rintro _ (rfl | rfl) <;> assumption), hgt_mk (by simp only [List.mem_cons, List.not_mem_nil, or_false]; rintro _ (rfl | rfl) <;> omega)⟩
     ·refine Zs fun _ hK14 => ?_
      refine Zm ?_
      refine Ze (Ev_eql rfl rfl) ?_
      refine Za ?_
      refine Zn hK14 ?_
      refine Zc (fun hc6 => ?_) fun hc6 => ?_
      ·refine Zs fun _ hK15 => ?_
       refine Zm ?_
       refine AL_bD .one rfl te25 ts9 tz9 rfl rfl (by decide) (by decide) (by rfl) rfl ?_
       refine AL_dcall hT hcu hbl rfl cl83 (c_pick [⟨#[43]⟩, ⟨#[61]⟩, ⟨#[44]⟩, ⟨#[102]⟩, ⟨#[59]⟩] (by simp)) rfl rfl rfl fun C7 r7 hR7 hM7 hcu hT => ?_
       have hM := hM.trans hM7 (fun c hc _ => hc)
       obtain ⟨s7, hs7, rfl⟩ := hR7
       have hz7 : s7.size ≤ 3 := by
        simp only [List.mem_cons, List.not_mem_nil, or_false] at hs7
        rcases hs7 with rfl | rfl | rfl | rfl | rfl <;> decide
       iterate 2 refine Zm ?_
       refine Ze (Ev_sub rfl rfl _ (wrap_id (by omega) (by omega))) ?_
       refine AL_dcall hT hcu hbl rfl cl93 (ih (d - 1) (by omega) (by omega) (e - 1) (by omega)) rfl rfl rfl fun C8 r8 hR8 hM8 hcu hT => ?_
       have hM := hM.trans hM8 (fun c hc _ => hc)
       obtain ⟨t8, rfl, hb8, hh8⟩ := hR8
       iterate 2 refine Zm ?_
       refine Ze (Ev_sub rfl rfl _ (wrap_id (by omega) (by omega))) ?_
       refine AL_dcall hT hcu hbl rfl cl93 (ih (d - 1) (by omega) (by omega) (e - 1) (by omega)) rfl rfl rfl fun C9 r9 hR9 hM9 hcu hT => ?_
       have hM := hM.trans hM9 (fun c hc _ => hc)
       obtain ⟨t9, rfl, hb9, hh9⟩ := hR9
       refine AL_fcall0 hT rfl cl121 (c_two s7 t8 t9) rfl rfl ?_
       refine Ys ts41 ?_
       refine Zn hK15 ?_
       refine AC_ret ?_
       exact retd_ok hM hcu hdm (.cell rfl rfl rfl rfl rfl rfl ts41 ta41 rfl (by intro h; cases h) .nil) .d ⟨_, rfl, by rw [pw_pred hd0]; exact bulk_few (pw_pos _) (by omega) (by simp) (by simp only [List.mem_cons, List.not_mem_nil, or_false]; rintro _ (rfl | rfl) <;> assumption), hgt_mk (by simp only [List.mem_cons, List.not_mem_nil, or_false]; rintro _ (rfl | rfl) <;> omega)⟩
      ·refine Zk hK5 ?_
       refine Zs fun _ hK16 => ?_
       refine Zm ?_
       refine AL_bD .one rfl te25 ts9 tz9 rfl rfl (by decide) (by decide) (by rfl) rfl ?_
       refine AL_dcall hT hcu hbl rfl cl83 (c_pick [⟨#[102]⟩, ⟨#[103]⟩, ⟨#[45]⟩, ⟨#[91, 93]⟩] (by simp)) rfl rfl rfl fun C10 r10 hR10 hM10 hcu hT => ?_
       have hM := hM.trans hM10 (fun c hc _ => hc)
       obtain ⟨s10, hs10, rfl⟩ := hR10
       have hz10 : s10.size ≤ 3 := by
        simp only [List.mem_cons, List.not_mem_nil, or_false] at hs10
        rcases hs10 with rfl | rfl | rfl | rfl <;> decide
       refine Ze (Ev_build (fs := [.one, .one, .one, .one]) (zs := [.c (.int .i64 0), .c (.string ⟨#[]⟩), .c (.int .i64 0), .c (.slice none 0 0)]) tz41 rfl tpl41 (.cons rfl rfl (by rfl) (.cons rfl rfl (by rfl) .nil))) ?_
       refine AL_alloc zo41 _ rfl rfl ?_
       refine Ys ts41 ?_
       refine Zn hK16 ?_
       refine AC_seq fun _ hK17 => ?_
       refine Zs fun _ hK18 => ?_
       refine Za ?_
       refine Zn hK18 ?_
       refine AC_block ?_
       refine AC_loopX (Nat × List T) (fun q => [(7, i64 q.1)]) (fun q => [some ⟨41, LT, [.d zT]⟩, some ⟨41, LT, [.agg [.one, .one, .one, .one] [i64 4, st s10, i64 0, .ref LT 2 0 q.2.length]]⟩, some ⟨41, LT, (injs q.2).map V.d⟩]) (fun q => 4 - q.1) (fun C q => CurC C b bs ∧ Mk C0 [b] C ∧ CT Tryz.prog C ∧ (q.1 ≤ 3 ∧ q.2.length ≤ q.1 ∧ ∀ t ∈ q.2, bulk t + 2 ≤ pw (d - 1) ∧ hgt t ≤ d)) [0, 1, 4, 6] ?_ ?_
       ·refine Fin_wk (Wk_nil_box 1 0 [3] 41 LT rfl rfl rfl rfl 2 rfl rfl ?_)
        exact enterX (0, []) [some 0, some 1, some 2] rfl rfl ⟨hcu, hM, hT, Nat.zero_le _, Nat.zero_le _, by simp⟩ (Bx (.cons (.rd .d) .nil) (Bx (.cons (.agg (.cons (.rd .d) (.cons (.rd .d) (.cons (.rd .d) (.cons (.ref rfl) .nil))))) .nil) (Bx .nil BxTo_nil))) Sl_
       rintro CL ⟨j, ks⟩ ⟨hcu, hM, hT, hj, hkj, hks⟩
       simp only at hj hkj hks
       refine AC_seq fun _ hK19 => ?_
       refine Zs fun _ hK20 => ?_
       iterate 2 refine Zm ?_
       refine AL_dcall hT hcu hbl rfl cl59 (c_below 3 (by omega)) rfl rfl rfl fun C11 r11 hR11 hM11 hcu hT => ?_
       have hM := hM.trans hM11 (fun c hc _ => hc)
       obtain ⟨x11, rfl, hx11, hy11⟩ := hR11
       refine Ze (Ev_add rfl rfl _ (wrap_id (by omega) (by omega))) ?_
       refine Ze (Ev_lss rfl rfl) ?_
       refine Zn hK20 ?_
       refine Zc (fun hc7 => ?_) fun hc7 => ?_
       ·have h7 : j < 3 := by have := of_decide_eq_true hc7; omega
        refine Zk hK19 ?_
        refine AC_seq fun _ hK21 => ?_
        refine AC_block ?_
        refine Zs fun _ hK22 => ?_
        refine Ya fa41_3 ?_
        refine Yl ts39 ta39 ?_
        refine AL_limB (x := (Operand.tmp 74)) rfl rfl (by (simp; done)) fun hl1 => ?_
        try simp only [injs_length, ints_length, strs_length, injCs_length, u8s_length, List.length_map] at hl1
        refine Ze (Ev_len_ref te39 rfl) ?_
        refine Ze (Ev_lss rfl rfl) ?_
        refine Zn hK22 ?_
        refine Zc (fun hc8 => ?_) fun hc8 => ?_
        ·refine AC_draw hT follows [0, 1, 2, 3, 4, 5, 6, 7, 8, 9] (by kernel_rfl) ?_
         refine DT_ev rfl (EA_fa_ptr rfl fa41_3 rfl rfl) rfl ?_
         refine DT_ev rfl (EA_load_ptr rfl rfl rfl rfl rfl rfl ts39 ta39 rfl (fun _ => rfl)) rfl ?_
         refine DT_ev rfl (EA_move) rfl ?_
         refine DT_ev rfl (EA_move) rfl ?_
         refine DT_ev rfl (EA_sub rfl rfl _ (wrap_id (by omega) (by omega))) rfl ?_
         refine DT_dcall hT hcu hbl rfl rfl cl93 (ih (d - 1) (by omega) (by omega) (e - 1) (by omega)) rfl rfl rfl (by kernel_rfl) fun C12 r12 hR12 hM12 hcu hT => ?_
         have hM := hM.trans hM12 (fun c hc _ => hc)
         obtain ⟨t12, rfl, hb12, hh12⟩ := hR12
         refine DT_bD (Lay.st [.one, .one, .one, .one]) rfl rfl te39 ts41 tz41 rfl rfl (by decide) (by decide) (by simp [lenDs, goodVs, goodV, V.known, Lay.len, Lay.lens]) rfl ?_
         refine DT_append_sl rfl rfl rfl rfl rfl te39 ts41 tz41 rfl tb41 (by decide) (by decide) rfl (by (simp; done)) (by simp only [lim]; (simp; omega)) _ rfl rfl ?_
         refine DT_ev rfl (EA_fa_ptr rfl fa41_3 rfl rfl) rfl ?_
         refine DT_store rfl rfl (nf rfl) rfl rfl rfl rfl rfl rfl (by rfl) ts39 rfl rfl ?_
         refine Zd hK21 ?_
         refine AC_region ?_
         refine Zm ?_
         refine Ze (Ev_add rfl rfl _ (wrap_id (by omega) (by omega))) ?_
         refine Za ?_
         refine AL_nil ?_
         refine closeX (j + 1, ks ++ [t12]) [some 0, some 1, some 3] rfl rfl (by show 4 - (j + 1) < 4 - j; omega) ⟨hcu, hM, hT, by show j + 1 ≤ 3; omega, by simp; omega, by simp only [List.mem_append, List.mem_singleton]; rintro t (ht | rfl); exact hks t ht; exact ⟨hb12, by omega⟩⟩ (Bx (.cons (.rd .d) .nil) (BxTo_some rfl rfl rfl rfl (.cons (.agg (.cons (.rd .d) (.cons (.rd .d) (.cons (.rd .d) (.cons (Vw_refe rfl (by simp)) .nil))))) .nil) (BxTo_some rfl rfl rfl rfl (VwL_app (by simp [injs_map])) BxTo_nil))) (SlTo_cons (Vw_int (by rfl)) Sl_)
        ·refine Zk hK21 ?_
         refine AC_region ?_
         refine Zm ?_
         refine Ze (Ev_add rfl rfl _ (wrap_id (by omega) (by omega))) ?_
         refine Za ?_
         refine AL_nil ?_
         refine closeX (j + 1, ks) [some 0, some 1, some 2] rfl rfl (by show 4 - (j + 1) < 4 - j; omega) ⟨hcu, hM, hT, by show j + 1 ≤ 3; omega, by show ks.length ≤ j + 1; omega, hks⟩ (Bx (.cons (.rd .d) .nil) (BxTo_some rfl rfl rfl rfl (.cons (.agg (.cons (.rd .d) (.cons (.rd .d) (.cons (.rd .d) (.cons (Vw_refe rfl (by rfl)) .nil))))) .nil) (BxTo_some rfl rfl rfl rfl (VwL_dd (by simp)) BxTo_nil))) (SlTo_cons (Vw_int (by rfl)) Sl_)
       ·refine Zx hK17 ?_
        refine Zs fun _ hK23 => ?_
        refine YL ts41 ta41 ?_
        refine Ys ts41 ?_
        refine Zn hK23 ?_
        refine AC_ret ?_
        exact retd_ok hM hcu hdm (.cell rfl rfl rfl rfl rfl rfl ts41 ta41 rfl (by intro h; cases h) .nil) (.agg (.cons .d (.cons .d (.cons .d (.cons (.ref trivial rfl rfl (by simp) (ReadsL_d _)) .nil))))) ⟨.mk 4 s10 0 ks, rfl, by rw [pw_pred hd0]; exact bulk_few (pw_pos _) (by omega) (by omega) fun t ht => (hks t ht).1, hgt_mk fun t ht => (hks t ht).2⟩
end Go.Proofs.YtjgliechbnommaaGreatDoor
