/- Contracts of functions. -/
import Derived.Test.YtjhdkjacfclipaaMt
import Derived.Test.YtjhdkjacfclipaaOk
import Derived.Test.YtjhdkjacfclipaaWn
import Derived.Test.YtjhdkjacfclipaaEng27
import Derived.Test.YtjhdkjacfclipaaCd
import Derived.Test.YtjhdkjacfclipaaLc
import Derived.Test.YtjhdkjacfclipaaProg
import Derived.KernelRfl
import Derived.Test.YtjhdkjacfclipaaCA
import Derived.Test.YtjhdkjacfclipaaCLA
import Derived.Test.YtjhdkjacfclipaaCLB
import Derived.Test.YtjhdkjacfclipaaCS
import Derived.Test.YtjhdkjacfclipaaCV
import Derived.Test.YtjhdkjacfclipaaCX
import Derived.Test.YtjhdkjacfclipaaCYA
import Derived.Test.YtjhdkjacfclipaaCZ
set_option linter.unusedVariables false
set_option linter.unusedSimpArgs false
namespace Go.Proofs.Ytjhdkjacfclipaa
open Go.Eng

theorem cl14 : Callable Try.prog 14 := Callable_of Try.func14 (by kernel_rfl) (by kernel_rfl)
theorem cl15 : Callable Try.prog 15 := Callable_of Try.func15 (by kernel_rfl) (by kernel_rfl)
theorem cl16 : Callable Try.prog 16 := Callable_of Try.func16 (by kernel_rfl) (by kernel_rfl)
theorem cl19 : Callable Try.prog 19 := Callable_of Try.func19 (by kernel_rfl) (by kernel_rfl)
theorem cl20 : Callable Try.prog 20 := Callable_of Try.func20 (by kernel_rfl) (by kernel_rfl)
theorem cl21 : Callable Try.prog 21 := Callable_of Try.func21 (by kernel_rfl) (by kernel_rfl)
theorem cl22 : Callable Try.prog 22 := Callable_of Try.func22 (by kernel_rfl) (by kernel_rfl)
theorem cl25 : Callable Try.prog 25 := Callable_of Try.func25 (by kernel_rfl) (by kernel_rfl)
theorem cl26 : Callable Try.prog 26 := Callable_of Try.func26 (by kernel_rfl) (by kernel_rfl)
theorem cl27 : Callable Try.prog 27 := Callable_of Try.func27 (by kernel_rfl) (by kernel_rfl)
theorem cl28 : Callable Try.prog 28 := Callable_of Try.func28 (by kernel_rfl) (by kernel_rfl)
theorem cl29 : Callable Try.prog 29 := Callable_of Try.func29 (by kernel_rfl) (by kernel_rfl)
theorem cl30 : Callable Try.prog 30 := Callable_of Try.func30 (by kernel_rfl) (by kernel_rfl)
theorem cl31 : Callable Try.prog 31 := Callable_of Try.func31 (by kernel_rfl) (by kernel_rfl)
theorem cl33 : Callable Try.prog 33 := Callable_of Try.func33 (by kernel_rfl) (by kernel_rfl)
theorem cl34 : Callable Try.prog 34 := Callable_of Try.func34 (by kernel_rfl) (by kernel_rfl)
theorem cl35 : Callable Try.prog 35 := Callable_of Try.func35 (by kernel_rfl) (by kernel_rfl)
theorem tbool4 : tyBool Try.prog 4 = true := by kernel_rfl

set_option maxHeartbeats 8000000 in
set_option maxRecDepth 4000 in
theorem c_lawListsTold (bs : List Int) (hbs : (bs.length : Int) ≤ 1048576) : PCall Try.prog 6 [.sl .one (u8s bs)] (· = [.c (.bool true)]) := by
  have sameB_self : ∀ t : T, sameB t t = true := fun t => (sameB_iff t t).2 rfl
  have sameBL_self : ∀ t : List T, sameBL t t = true := fun t => (sameBL_iff t t).2 rfl
  refine PCall_of (n := 130) Try.func6 rfl rfl (Nat.le_of_ble_eq_true rfl) fun C hdm hT0 => ?_
  have hT := hT0
  refine AC_seq fun K1 hK1 => ?_
  refine AC_region ?_
  refine AL_ev (Ev_assign) rfl ?_
  refine AL_nil ?_
  refine hK1 _ _ _ ?_
  refine AC_seq fun K2 hK2 => ?_
  refine AC_seq fun K3 hK3 => ?_
  refine AC_region ?_
  refine AL_ev (Ev_move) rfl ?_
  refine AL_fcall0 hT rfl cl16 (c_big bs) rfl rfl ?_
  refine AL_nil ?_
  refine hK3 _ _ _ ?_
  refine AC_cond rfl (fun hc1 => ?_) (fun hc1 => ?_)
  · skip
    have : (bs.length : Int) > 1048576 := of_decide_eq_true hc1
    omega
  · skip
    refine AC_skip ?_
    refine hK2 _ _ _ ?_
    refine AC_seq fun K4 hK4 => ?_
    refine AC_region ?_
    refine AL_ev (Ev_move) rfl ?_
    refine AL_pcall0 hT rfl cl21 (c_drawListTerm bs (by simp only [lim]; omega)) rfl rfl fun rs0 hR0 => ?_
    obtain ⟨ts, us, rfl, hdr⟩ := hR0
    obtain ⟨hd1, hd2, hd3, _⟩ := hdr.few
    generalize ts ++ us = ls at *
    obtain ⟨l0, hl0⟩ : ∃ l0 : T, (if ls.length ≤ 400 ∧ okT (mkList ls) = true then mkList ls else atom0 nmNil) = l0 := ⟨_, rfl⟩
    have hLI := c_listTerm ls (by omega)
    have hLS := c_specListTerm ls (by omega)
    rw [hl0] at hLI hLS
    refine AL_ev (Ev_assign) rfl ?_
    refine AL_nil ?_
    refine hK4 _ _ _ ?_
    refine AC_seq fun K5 hK5 => ?_
    refine AC_region ?_
    refine AL_ev (Ev_move) rfl ?_
    refine AL_pcall0 hT rfl cl22 (c_drawItemsOf bs (by simp only [lim]; omega)) rfl rfl fun rs1 hR1 => ?_
    obtain ⟨a, rfl, hba⟩ := hR1
    obtain ⟨xa, ba, hia⟩ := itm_all a
    refine AL_alloc zo35 _ rfl rfl ?_
    first | refine AL_store rfl (nf rfl) rfl rfl rfl rfl rfl rfl (by first | rfl | assumption | simp [Lay.len, Lay.lens]) ts35 rfl rfl ?_ | refine AL_store rfl (nf rfl) rfl rfl rfl hes rfl rfl (by first | rfl | assumption | simp [Lay.len, Lay.lens]) ts35 rfl rfl ?_
    refine AL_nil ?_
    refine hK5 _ _ _ ?_
    refine AC_seq fun K6 hK6 => ?_
    refine AC_region ?_
    first | refine AL_ev (Ev_load_ptr rfl rfl rfl rfl rfl rfl ts35 ta35 (by first | rfl | assumption | simp) (by intro h; cases h)) rfl ?_ | refine AL_ev (Ev_load_rp rfl rfl rfl ts35 ta35 (by first | rfl | assumption | simp) (by intro h; cases h)) rfl ?_
    refine AL_fcall0 hT rfl cl23 ((c_itemsOf a xa ba hia (by omega)).pcall rfl) rfl rfl ?_
    refine AL_ev (Ev_move) rfl ?_
    refine AL_ev (Ev_extract rfl rfl) rfl ?_
    refine AL_ev (Ev_extract rfl rfl) rfl ?_
    refine AL_ev (Ev_assign) rfl ?_
    refine AL_ev (Ev_assign) rfl ?_
    refine AL_nil ?_
    refine hK6 _ _ _ ?_
    refine AC_seq fun K7 hK7 => ?_
    refine AC_region ?_
    first | refine AL_ev (Ev_load_ptr rfl rfl rfl rfl rfl rfl ts35 ta35 (by first | rfl | assumption | simp) (by intro h; cases h)) rfl ?_ | refine AL_ev (Ev_load_rp rfl rfl rfl ts35 ta35 (by first | rfl | assumption | simp) (by intro h; cases h)) rfl ?_
    refine AL_fcall0 hT rfl cl24 ((c_specItemsOf a xa ba hia (by omega)).pcall rfl) rfl rfl ?_
    refine AL_ev (Ev_move) rfl ?_
    refine AL_ev (Ev_extract rfl rfl) rfl ?_
    refine AL_ev (Ev_extract rfl rfl) rfl ?_
    refine AL_ev (Ev_assign) rfl ?_
    refine AL_ev (Ev_assign) rfl ?_
    refine AL_nil ?_
    refine hK7 _ _ _ ?_
    refine AC_seq fun K8 hK8 => ?_
    refine AC_region ?_
    refine AL_ev (Ev_move) rfl ?_
    refine AL_pcall0 hT rfl cl25 (c_drawTermIn bs (by simp only [lim]; omega)) rfl rfl fun rs2 hR2 => ?_
    obtain ⟨ks, u, rfl⟩ := hR2
    refine AL_ev (Ev_move) rfl ?_
    refine AL_ev (Ev_extract rfl rfl) rfl ?_
    refine AL_ev (Ev_extract rfl rfl) rfl ?_
    refine AL_alloc zo35 _ rfl rfl ?_
    refine AL_ev (Ev_assign) rfl ?_
    first | refine AL_store rfl (nf rfl) rfl rfl rfl rfl rfl rfl (by first | rfl | assumption | simp [Lay.len, Lay.lens]) ts35 rfl rfl ?_ | refine AL_store rfl (nf rfl) rfl rfl rfl hes rfl rfl (by first | rfl | assumption | simp [Lay.len, Lay.lens]) ts35 rfl rfl ?_
    refine AL_nil ?_
    refine hK8 _ _ _ ?_
    refine AC_seq fun K9 hK9 => ?_
    refine AC_region ?_
    refine AL_ev (Ev_move) rfl ?_
    refine AL_pcall0 hT rfl cl26 (c_drawSortedAll bs (by simp only [lim]; omega)) rfl rfl fun rs3 hR3 => ?_
    obtain ⟨ts3, us3, rfl, hdr3⟩ := hR3
    obtain ⟨he1, he2, he3, _⟩ := hdr3.few
    generalize ts3 ++ us3 = vs at *
    obtain ⟨A, hA⟩ : ∃ A, sortF vs [] = A := ⟨_, rfl⟩
    obtain ⟨B, hB⟩ : ∃ B, ddT none A = B := ⟨_, rfl⟩
    have hS1 := (c_sortedAll vs (fun t ht => by have := he1 t ht; omega)).pcall rfl
    have hS2 := c_specSortedAll vs (fun t ht => by have := he1 t ht; omega)
    have hS3 := (c_sortedTerms vs (fun t ht => by have := he1 t ht; omega) (by omega)).pcall rfl
    have hS4 := c_specSortedTerms vs (fun t ht => by have := he1 t ht; omega)
    rw [hA] at hS1 hS2 hS3 hS4
    rw [hB] at hS3 hS4
    refine AL_ev (Ev_assign) rfl ?_
    refine AL_nil ?_
    refine hK9 _ _ _ ?_
    refine AC_seq fun K10 hK10 => ?_
    refine AC_region ?_
    refine AL_ev (Ev_move) rfl ?_
    refine AL_pcall0 hT rfl cl27 (c_drawJoined bs (by simp only [lim]; omega)) rfl rfl fun rs4 hR4 => ?_
    obtain ⟨b, c, rfl, hbb, hbc, hbk⟩ := hR4
    obtain ⟨xb, bb, hib⟩ := itm_all b
    obtain ⟨xc, bc, hic⟩ := itm_all c
    obtain ⟨o, k, hj⟩ : ∃ o k, Jnd b c xb xc bb bc o k := ⟨_, _, rfl, rfl⟩
    obtain ⟨o2, ho2⟩ : ∃ o : T, o = if bb then mkList xb.reverse else term0 := ⟨_, rfl⟩
    have hkb : bb = (bb && okT (mkList xb.reverse)) := by cases bb with
      | false => rfl
      | true => rw [hbk xb hib]; rfl
    refine AL_ev (Ev_move) rfl ?_
    refine AL_ev (Ev_extract rfl rfl) rfl ?_
    refine AL_ev (Ev_extract rfl rfl) rfl ?_
    refine AL_alloc zo35 _ rfl rfl ?_
    refine AL_alloc zo35 _ rfl rfl ?_
    first | refine AL_store rfl (nf rfl) rfl rfl rfl rfl rfl rfl (by first | rfl | assumption | simp [Lay.len, Lay.lens]) ts35 rfl rfl ?_ | refine AL_store rfl (nf rfl) rfl rfl rfl hes rfl rfl (by first | rfl | assumption | simp [Lay.len, Lay.lens]) ts35 rfl rfl ?_
    first | refine AL_store rfl (nf rfl) rfl rfl rfl rfl rfl rfl (by first | rfl | assumption | simp [Lay.len, Lay.lens]) ts35 rfl rfl ?_ | refine AL_store rfl (nf rfl) rfl rfl rfl hes rfl rfl (by first | rfl | assumption | simp [Lay.len, Lay.lens]) ts35 rfl rfl ?_
    refine AL_nil ?_
    refine hK10 _ _ _ ?_
    refine AC_seq fun K11 hK11 => ?_
    refine AC_region ?_
    first | refine AL_ev (Ev_load_ptr rfl rfl rfl rfl rfl rfl ts35 ta35 (by first | rfl | assumption | simp) (by intro h; cases h)) rfl ?_ | refine AL_ev (Ev_load_rp rfl rfl rfl ts35 ta35 (by first | rfl | assumption | simp) (by intro h; cases h)) rfl ?_
    first | refine AL_ev (Ev_load_ptr rfl rfl rfl rfl rfl rfl ts35 ta35 (by first | rfl | assumption | simp) (by intro h; cases h)) rfl ?_ | refine AL_ev (Ev_load_rp rfl rfl rfl ts35 ta35 (by first | rfl | assumption | simp) (by intro h; cases h)) rfl ?_
    refine AL_fcall0 hT rfl cl28 (c_joined b c xb xc bb bc hib hic (by omega) (by omega) o k hj) rfl rfl ?_
    refine AL_ev (Ev_move) rfl ?_
    refine AL_ev (Ev_extract rfl rfl) rfl ?_
    refine AL_ev (Ev_extract rfl rfl) rfl ?_
    refine AL_alloc zo35 _ rfl rfl ?_
    first | refine AL_store rfl (nf rfl) rfl rfl rfl rfl rfl rfl (by first | rfl | assumption | simp [Lay.len, Lay.lens]) ts35 rfl rfl ?_ | refine AL_store rfl (nf rfl) rfl rfl rfl hes rfl rfl (by first | rfl | assumption | simp [Lay.len, Lay.lens]) ts35 rfl rfl ?_
    refine AL_ev (Ev_assign) rfl ?_
    refine AL_nil ?_
    refine hK11 _ _ _ ?_
    refine AC_seq fun K12 hK12 => ?_
    refine AC_region ?_
    first | refine AL_ev (Ev_load_ptr rfl rfl rfl rfl rfl rfl ts35 ta35 (by first | rfl | assumption | simp) (by intro h; cases h)) rfl ?_ | refine AL_ev (Ev_load_rp rfl rfl rfl ts35 ta35 (by first | rfl | assumption | simp) (by intro h; cases h)) rfl ?_
    first | refine AL_ev (Ev_load_ptr rfl rfl rfl rfl rfl rfl ts35 ta35 (by first | rfl | assumption | simp) (by intro h; cases h)) rfl ?_ | refine AL_ev (Ev_load_rp rfl rfl rfl ts35 ta35 (by first | rfl | assumption | simp) (by intro h; cases h)) rfl ?_
    refine AL_fcall0 hT rfl cl29 (c_specJoined b c xb xc bb bc hib hic (by omega) (by omega) o k hj) rfl rfl ?_
    refine AL_ev (Ev_move) rfl ?_
    refine AL_ev (Ev_extract rfl rfl) rfl ?_
    refine AL_ev (Ev_extract rfl rfl) rfl ?_
    refine AL_alloc zo35 _ rfl rfl ?_
    first | refine AL_store rfl (nf rfl) rfl rfl rfl rfl rfl rfl (by first | rfl | assumption | simp [Lay.len, Lay.lens]) ts35 rfl rfl ?_ | refine AL_store rfl (nf rfl) rfl rfl rfl hes rfl rfl (by first | rfl | assumption | simp [Lay.len, Lay.lens]) ts35 rfl rfl ?_
    refine AL_ev (Ev_assign) rfl ?_
    refine AL_nil ?_
    refine hK12 _ _ _ ?_
    refine AC_seq fun K13 hK13 => ?_
    refine AC_region ?_
    first | refine AL_ev (Ev_load_ptr rfl rfl rfl rfl rfl rfl ts35 ta35 (by first | rfl | assumption | simp) (by intro h; cases h)) rfl ?_ | refine AL_ev (Ev_load_rp rfl rfl rfl ts35 ta35 (by first | rfl | assumption | simp) (by intro h; cases h)) rfl ?_
    refine AL_fcall0 hT rfl cl30 (c_backward b xb bb hib (by omega) o2 bb hkb ho2) rfl rfl ?_
    refine AL_ev (Ev_move) rfl ?_
    refine AL_ev (Ev_extract rfl rfl) rfl ?_
    refine AL_ev (Ev_extract rfl rfl) rfl ?_
    refine AL_alloc zo35 _ rfl rfl ?_
    first | refine AL_store rfl (nf rfl) rfl rfl rfl rfl rfl rfl (by first | rfl | assumption | simp [Lay.len, Lay.lens]) ts35 rfl rfl ?_ | refine AL_store rfl (nf rfl) rfl rfl rfl hes rfl rfl (by first | rfl | assumption | simp [Lay.len, Lay.lens]) ts35 rfl rfl ?_
    refine AL_ev (Ev_assign) rfl ?_
    refine AL_nil ?_
    refine hK13 _ _ _ ?_
    refine AC_seq fun K14 hK14 => ?_
    refine AC_region ?_
    first | refine AL_ev (Ev_load_ptr rfl rfl rfl rfl rfl rfl ts35 ta35 (by first | rfl | assumption | simp) (by intro h; cases h)) rfl ?_ | refine AL_ev (Ev_load_rp rfl rfl rfl ts35 ta35 (by first | rfl | assumption | simp) (by intro h; cases h)) rfl ?_
    refine AL_fcall0 hT rfl cl31 (c_specBackward b xb bb hib (by omega) o2 ho2) rfl rfl ?_
    refine AL_ev (Ev_move) rfl ?_
    refine AL_ev (Ev_extract rfl rfl) rfl ?_
    refine AL_ev (Ev_extract rfl rfl) rfl ?_
    refine AL_alloc zo35 _ rfl rfl ?_
    first | refine AL_store rfl (nf rfl) rfl rfl rfl rfl rfl rfl (by first | rfl | assumption | simp [Lay.len, Lay.lens]) ts35 rfl rfl ?_ | refine AL_store rfl (nf rfl) rfl rfl rfl hes rfl rfl (by first | rfl | assumption | simp [Lay.len, Lay.lens]) ts35 rfl rfl ?_
    refine AL_ev (Ev_assign) rfl ?_
    refine AL_nil ?_
    refine hK14 _ _ _ ?_
    refine AC_seq fun K15 hK15 => ?_
    refine AC_draw hT follows [0, 1, 2, 3, 4, 5, 6, 7, 8, 9, 10, 11, 12, 13, 14, 15, 16, 17, 18, 19, 20, 21, 22, 23, 24, 25, 26, 27, 28, 29, 30, 31, 32, 33, 34, 35, 36, 37, 38, 39, 40, 41, 42, 43, 44, 45, 46, 47, 48, 49, 50, 51, 52, 53, 54, 55, 56, 57, 58] (by kernel_rfl) ?_
    refine DT_ev rfl (EA_move) rfl ?_
    refine DT_fcall0 rfl rfl cl33 (hLI) rfl rfl ?_
    refine DT_ev rfl (EA_move) rfl ?_
    refine DT_fcall0 rfl rfl cl34 (hLS) rfl rfl ?_
    refine DT_fcall0 rfl rfl cl32 (c_specSameTerm l0 l0 rfl) rfl rfl ?_
    refine DT_ev rfl (EA_move) rfl ?_
    refine DT_bool 77 rfl (fun hg2 => ?_) (fun hg2 => ?_)
    · skip
      refine DT_evt rfl rfl rfl rfl (EA_move) rfl ?_
      refine DT_evt rfl rfl rfl rfl (EA_move) rfl ?_
      refine DT_evt rfl rfl rfl rfl (EA_beql tbool4 rfl rfl) rfl ?_
      refine DT_ev rfl (EA_pick rfl) rfl ?_
      refine DT_ev rfl (EA_move) rfl ?_
      refine DT_bool 82 rfl (fun hg3 => ?_) (fun hg3 => ?_)
      · skip
        refine DT_evt rfl rfl rfl rfl (EA_move) rfl ?_
        refine DT_evt rfl rfl rfl rfl (EA_move) rfl ?_
        refine DT_fcall0t rfl rfl rfl rfl rfl cl20 (c_sameTerms xa xa) rfl rfl ?_
        refine DT_ev rfl (EA_pick rfl) rfl ?_
        refine DT_ev rfl (EA_move) rfl ?_
        refine DT_bool 87 rfl (fun hg4 => ?_) (fun hg4 => ?_)
        · skip
          refine DT_evt rfl rfl rfl rfl (EA_move) rfl ?_
          first | refine DT_evt rfl rfl rfl rfl (EA_load_ptr rfl rfl rfl rfl rfl rfl ts35 ta35 (by first | rfl | assumption | simp) (by intro h; cases h)) rfl ?_ | refine DT_evt rfl rfl rfl rfl (EA_load_rp rfl rfl rfl ts35 ta35 (by first | rfl | assumption | simp) (by intro h; cases h)) rfl ?_
          refine DT_fcall0t rfl rfl rfl rfl rfl cl19 (c_termIn ks u) rfl rfl ?_
          refine DT_evt rfl rfl rfl rfl (EA_move) rfl ?_
          first | refine DT_evt rfl rfl rfl rfl (EA_load_ptr rfl rfl rfl rfl rfl rfl ts35 ta35 (by first | rfl | assumption | simp) (by intro h; cases h)) rfl ?_ | refine DT_evt rfl rfl rfl rfl (EA_load_rp rfl rfl rfl ts35 ta35 (by first | rfl | assumption | simp) (by intro h; cases h)) rfl ?_
          refine DT_fcall0t rfl rfl rfl rfl rfl cl35 (c_specTermIn ks u) rfl rfl ?_
          refine DT_evt rfl rfl rfl rfl (EA_eql rfl rfl) rfl ?_
          refine DT_ev rfl (EA_pick rfl) rfl ?_
          refine DT_ev rfl (EA_move) rfl ?_
          refine DT_bool 96 rfl (fun hg5 => ?_) (fun hg5 => ?_)
          · skip
            refine DT_evt rfl rfl rfl rfl (EA_move) rfl ?_
            refine DT_fcall0t rfl rfl rfl rfl rfl cl10 (hS1) rfl rfl ?_
            refine DT_evt rfl rfl rfl rfl (EA_move) rfl ?_
            refine DT_fcall0t rfl rfl rfl rfl rfl cl8 (hS2) rfl rfl ?_
            refine DT_fcall0t rfl rfl rfl rfl rfl cl20 (c_sameTerms A A) rfl rfl ?_
            refine DT_ev rfl (EA_pick rfl) rfl ?_
            refine DT_ev rfl (EA_move) rfl ?_
            refine DT_bool 103 rfl (fun hg6 => ?_) (fun hg6 => ?_)
            · skip
              refine DT_evt rfl rfl rfl rfl (EA_move) rfl ?_
              refine DT_fcall0t rfl rfl rfl rfl rfl cl15 (hS3) rfl rfl ?_
              refine DT_evt rfl rfl rfl rfl (EA_move) rfl ?_
              refine DT_fcall0t rfl rfl rfl rfl rfl cl14 (hS4) rfl rfl ?_
              refine DT_fcall0t rfl rfl rfl rfl rfl cl20 (c_sameTerms B B) rfl rfl ?_
              refine DT_ev rfl (EA_pick rfl) rfl ?_
              refine DT_ev rfl (EA_move) rfl ?_
              refine DT_bool 110 rfl (fun hg7 => ?_) (fun hg7 => ?_)
              · skip
                refine DT_evt rfl rfl rfl rfl (EA_move) rfl ?_
                refine DT_evt rfl rfl rfl rfl (EA_move) rfl ?_
                refine DT_evt rfl rfl rfl rfl (EA_beql tbool4 rfl rfl) rfl ?_
                refine DT_ev rfl (EA_pick rfl) rfl ?_
                refine DT_ev rfl (EA_move) rfl ?_
                refine DT_bool 115 rfl (fun hg8 => ?_) (fun hg8 => ?_)
                · skip
                  first | refine DT_evt rfl rfl rfl rfl (EA_load_ptr rfl rfl rfl rfl rfl rfl ts35 ta35 (by first | rfl | assumption | simp) (by intro h; cases h)) rfl ?_ | refine DT_evt rfl rfl rfl rfl (EA_load_rp rfl rfl rfl ts35 ta35 (by first | rfl | assumption | simp) (by intro h; cases h)) rfl ?_
                  first | refine DT_evt rfl rfl rfl rfl (EA_load_ptr rfl rfl rfl rfl rfl rfl ts35 ta35 (by first | rfl | assumption | simp) (by intro h; cases h)) rfl ?_ | refine DT_evt rfl rfl rfl rfl (EA_load_rp rfl rfl rfl ts35 ta35 (by first | rfl | assumption | simp) (by intro h; cases h)) rfl ?_
                  refine DT_fcall0t rfl rfl rfl rfl rfl cl32 (c_specSameTerm o o rfl) rfl rfl ?_
                  refine DT_ev rfl (EA_pick rfl) rfl ?_
                  refine DT_ev rfl (EA_move) rfl ?_
                  refine DT_bool 120 rfl (fun hg9 => ?_) (fun hg9 => ?_)
                  · skip
                    refine DT_evt rfl rfl rfl rfl (EA_move) rfl ?_
                    refine DT_evt rfl rfl rfl rfl (EA_move) rfl ?_
                    refine DT_evt rfl rfl rfl rfl (EA_beql tbool4 rfl rfl) rfl ?_
                    refine DT_ev rfl (EA_pick rfl) rfl ?_
                    refine DT_ev rfl (EA_move) rfl ?_
                    refine DT_bool 125 rfl (fun hg10 => ?_) (fun hg10 => ?_)
                    · skip
                      first | refine DT_evt rfl rfl rfl rfl (EA_load_ptr rfl rfl rfl rfl rfl rfl ts35 ta35 (by first | rfl | assumption | simp) (by intro h; cases h)) rfl ?_ | refine DT_evt rfl rfl rfl rfl (EA_load_rp rfl rfl rfl ts35 ta35 (by first | rfl | assumption | simp) (by intro h; cases h)) rfl ?_
                      first | refine DT_evt rfl rfl rfl rfl (EA_load_ptr rfl rfl rfl rfl rfl rfl ts35 ta35 (by first | rfl | assumption | simp) (by intro h; cases h)) rfl ?_ | refine DT_evt rfl rfl rfl rfl (EA_load_rp rfl rfl rfl ts35 ta35 (by first | rfl | assumption | simp) (by intro h; cases h)) rfl ?_
                      refine DT_fcall0t rfl rfl rfl rfl rfl cl32 (c_specSameTerm o2 o2 rfl) rfl rfl ?_
                      refine DT_ev rfl (EA_pick rfl) rfl ?_
                      refine DT_ev rfl (EA_assign) rfl ?_
                      refine DTi.nil ?_
                      refine hK15 _ _ _ ?_
                      refine AC_ret ?_
                      exact ret_ok hdm (.tmp rfl rfl .nil) (.cons .d .nil) (by rw [sameB_self])
                    · skip
                      simp [sameB_self, sameBL_self] at hg10
                  · skip
                    simp [sameB_self, sameBL_self] at hg9
                · skip
                  simp [sameB_self, sameBL_self] at hg8
              · skip
                simp [sameB_self, sameBL_self] at hg7
            · skip
              simp [sameB_self, sameBL_self] at hg6
          · skip
            simp [sameB_self, sameBL_self] at hg5
        · skip
          simp [sameB_self, sameBL_self] at hg4
      · skip
        simp [sameB_self, sameBL_self] at hg3
    · skip
      simp [sameB_self, sameBL_self] at hg2

end Go.Proofs.Ytjhdkjacfclipaa
