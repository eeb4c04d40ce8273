/- FnMixtures, walked. -/
import Derived.Test.YtkomndcehdneaaaM3
import Derived.Test.YtkomndcehdneaaaM12
namespace Go.Proofs.Ytkomndcehdneaaa
open Go.Aw
set_option maxRecDepth 100000
set_option maxHeartbeats 16000000

theorem mp_of2 {h a b : Prop} (f : (h → a) → b) (x : h → a) : b := f x
theorem len_ok {α : Type} {m : List α} (h : m.length ≤ 1000) : m.length ≤ 9223372036854775807 := by omega
theorem tot_ok {m : List (List Int)} (h : tot m ≤ 1000) : ∀ r, r ∈ m → r.length ≤ 9223372036854775807 := fun r hr => by have := tot_mem hr; omega
theorem grid_bd {n : Nat} (h : n ≤ 9) (G : Nat → Nat → Int) : (grid n G).length ≤ 1000 ∧ tot (grid n G) ≤ 1000 := by
  have h1 := grid_len n G
  have h2 := tot_le_mul (m := grid n G) (n := 4) (fun r hr => by rw [grid_rows r hr]; omega)
  have : n * 4 ≤ 9 * 4 := Nat.mul_le_mul_right 4 h
  omega
theorem nil_bd : ([] : List (List Int)).length ≤ 1000 ∧ tot ([] : List (List Int)) ≤ 1000 := by simp [tot]
theorem mb_bd (x y z : Int) (m : List (List Int)) (x' y' z' : Int) (m' : List (List Int)) : (mbR x y z m x' y' z' m').length ≤ 1000 ∧ tot (mbR x y z m x' y' z' m') ≤ 1000 := by
  unfold mbR; split
  · rename_i h
    simp only [mbOk, Bool.and_eq_true] at h
    exact grid_bd (good_len (sqB_spec h.1).1).2 _
  · exact nil_bd
theorem sk_bd (x y z : Int) (m : List (List Int)) (k : Int) : (skR x y z m k).length ≤ 1000 ∧ tot (skR x y z m k) ≤ 1000 := by
  unfold skR; split
  · rename_i h
    simp only [skOk, Bool.and_eq_true] at h
    exact grid_bd (good_len h.1.1).2 _
  · exact nil_bd
theorem rdg_bd (x y z : Int) (m : List (List Int)) : (rdgR x y z m).length ≤ 1000 ∧ tot (rdgR x y z m) ≤ 1000 := by
  unfold rdgR; split
  · rename_i h
    exact grid_bd (good_len h).2 _
  · exact nil_bd
theorem SzM.of {m : List (List Int)} (h : m.length ≤ 1000 ∧ tot m ≤ 1000) : SzM m := by unfold SzM; omega
theorem good_row {x y z : Int} {m : List (List Int)} (h : goodB x y z m = true) {r : List Int} (hr : r ∈ m) : r.length = 4 := by
  obtain ⟨na, nb, _, _, _, _, _, _, _, _, _, _, g9⟩ := goodB_spec h
  exact (g9 r hr).1
theorem good_sz {x y z : Int} {m : List (List Int)} (h : goodB x y z m = true) : SzM m := by
  have h1 := (good_len h).2
  have h2 := tot_le_mul (m := m) (n := 4) (fun r hr => by rw [good_row h hr]; omega)
  have : m.length * 4 ≤ 9 * 4 := Nat.mul_le_mul_right 4 h1
  exact SzM.of (by omega)
theorem rBox_eq {x y z x' y' z' : Int} {m m' : List (List Int)} (hx : x = x') (hy : y = y') (hz : z = z') (hm : m = m') (hl : m'.length ≤ 9223372036854775807) (hr : ∀ r, r ∈ m' → r.length ≤ 9223372036854775807) :
    FSpec Try.prog 50 [.ag [.c (.int .i64 (x)), .c (.int .i64 (y)), .c (.int .i64 (z)), .t (.rows m)], .ag [.c (.int .i64 (x')), .c (.int .i64 (y')), .c (.int .i64 (z')), .t (.rows m')]] (ex (.c (.bool (decide (m' = m')))) []) := by
  subst hx; subst hy; subst hz; subst hm
  exact rBox_spec _ _ _ _ _ hl hr
theorem sumF_bd {n : Nat} (h : n ≤ 9) : (sumF' n).length ≤ 1000 ∧ tot (sumF' n) ≤ 1000 := by
  have h1 : (sumF' n).length = n := by simp [sumF']
  have h2 := tot_le_mul (m := sumF' n) (n := 4) (fun r hr => by obtain ⟨i, _, rfl⟩ := List.mem_map.1 hr; exact Nat.le_refl 4)
  have : (sumF' n).length * 4 ≤ 9 * 4 := Nat.mul_le_mul_right 4 (by omega)
  omega
/-- the rows that are made one after the other -/
def sumTo (n i : Nat) : List (List Int) := sumF' i ++ List.replicate (n - i) []
theorem sumTo_len {n i : Nat} (h : i ≤ n) : (sumTo n i).length = n := by simp [sumTo, sumF']; omega
theorem sumTo_set {n i : Nat} (h : i < n) {r : List Int} (hr : r = sumR i) : (sumTo n i).set i r = sumTo n (i + 1) := by
  subst hr
  have e1 : n - i = (n - (i + 1)) + 1 := by omega
  have e2 : (sumF' i).length = i := by simp [sumF']
  rw [sumTo, sumTo, e1, List.replicate_succ, List.set_append_right _ _ (by omega), e2, Nat.sub_self, List.set_cons_zero]
  simp [sumF', List.range_succ]
theorem sumTo_end (n : Nat) : sumTo n n = sumF' n := by simp [sumTo]
theorem sumTo_zero (n : Nat) : List.replicate n ([] : List Int) = sumTo n 0 := by simp [sumTo, sumF']

theorem FnMixtures_spec (code : List Int) (hc : OkB code) : FSpec Try.prog 5 [.t (.ints .u8 code)] (ex (.c (.bool true)) []) := by
  refine fspec tyOk mx Try.func5 rfl (by kernel_rfl) rfl ?_
  conv => whnf
  refine ACall.use (rBig_spec code) ?_
  refine ⟨fun h => ?_, fun h => ?_⟩
  · conv => whnf
    exact ⟨rfl, rfl⟩
  clear h
  conv => whnf
  refine ACall.use' (DrawMixBoxes_spec code hc) ?_
  rintro v hr ⟨rfl, ax, ay, az, am, bx, bx', bz, bm, hax, hay, haz, ham, hbx, hby, hbz, hbm, rfl⟩
  conv => whnf
  refine ACall.use (MixBoxes_i ax ay az am bx bx' bz bm ham.ok.2 hbm.ok.2) ?_
  conv => whnf
  refine ACall.use (MixBoxes_s ax ay az am bx bx' bz bm ham.ok.2 hbm.ok.2) ?_
  conv => whnf
  refine ⟨fun _ => ?_, fun h => absurd h (by simp [])⟩
  conv => whnf
  have mb := mb_bd ax ay az am bx bx' bz bm
  refine ACall.use (rBox_spec _ _ _ _ _ (len_ok mb.1) (tot_ok mb.2)) ?_
  conv => whnf
  refine ⟨fun h => absurd h (by simp []), fun _ => ?_⟩
  conv => whnf
  refine ACallS.view (R := [(0, .row 0), (1, .row 1), (2, .row 3)]) (args' := [.t (.ints .u8 code)]) (st' := (⟨383, [(0, .t (.ints .u8 code)), (2, .c (.bool false)), (3, .ptr 0 0), (4, .ptr 1 0), (5, .ptr 2 0), (6, .c (.bool (mbOk ax ay az am bx bx' bz bm)))], [(0, .cells 53 [.c (.int .i64 (ax)), .c (.int .i64 (ay)), .c (.int .i64 (az)), .t (.rows am)]), (1, .cells 53 [.c (.int .i64 (bx)), .c (.int .i64 (bx')), .c (.int .i64 (bz)), .t (.rows bm)]), (2, .cells 53 [.c (.int .i64 (if mbOk ax ay az am bx bx' bz bm = true then ax else 0)), .c (.int .i64 (if mbOk ax ay az am bx bx' bz bm = true then ay else 0)), .c (.int .i64 (if mbOk ax ay az am bx bx' bz bm = true then az + bz else 0)), .t (.rows (mbR ax ay az am bx bx' bz bm))])], 3⟩ : St)) (by refine ⟨rfl, rfl, ?_, ?_⟩ <;> ((repeat' (first | exact trivial | exact rfl | refine And.intro ?_ ?_)) <;> (try ((conv => whnf); first | refine vint ?_ | refine vboo ?_ | refine rint ?_ | refine rrow ?_ | skip)) <;> (try first | omega | (simp; done) | ((repeat rw [flts_closed _ (by assumption)]); exact vws_closed _ (by assumption))))) ⟨rfl, trivial⟩ ?_
  refine ACall.use' (DrawScaleBox_spec code hc) ?_
  rintro v hr ⟨rfl, cx, cy, cz, cm, k, hcx, hcy, hcz, hcm, hk, rfl⟩
  conv => whnf
  refine ACall.use (ScaleBox_i cx cy cz cm k hcm.ok.2) ?_
  conv => whnf
  refine ACall.use (ScaleBox_s cx cy cz cm k hcm.ok.2) ?_
  conv => whnf
  refine ⟨fun _ => ?_, fun h => absurd h (by simp [])⟩
  conv => whnf
  have sb := sk_bd cx cy cz cm k
  refine ACall.use (rBox_spec _ _ _ _ _ (len_ok sb.1) (tot_ok sb.2)) ?_
  conv => whnf
  refine ⟨fun h => absurd h (by simp []), fun _ => ?_⟩
  conv => whnf
  refine ACallS.view (R := [(0, .row 0), (1, .row 1), (2, .row 2), (3, .row 3), (4, .row 5)]) (args' := [.t (.ints .u8 code)]) (st' := (⟨383, [(0, .t (.ints .u8 code)), (2, .c (.bool false)), (3, .ptr 0 0), (4, .ptr 1 0), (5, .ptr 2 0), (6, .c (.bool (mbOk ax ay az am bx bx' bz bm))), (9, .ptr 3 0), (11, .ptr 4 0), (12, .c (.bool (skOk cx cy cz cm k)))], [(0, .cells 53 [.c (.int .i64 (ax)), .c (.int .i64 (ay)), .c (.int .i64 (az)), .t (.rows am)]), (1, .cells 53 [.c (.int .i64 (bx)), .c (.int .i64 (bx')), .c (.int .i64 (bz)), .t (.rows bm)]), (2, .cells 53 [.c (.int .i64 (if mbOk ax ay az am bx bx' bz bm = true then ax else 0)), .c (.int .i64 (if mbOk ax ay az am bx bx' bz bm = true then ay else 0)), .c (.int .i64 (if mbOk ax ay az am bx bx' bz bm = true then az + bz else 0)), .t (.rows (mbR ax ay az am bx bx' bz bm))]), (3, .cells 53 [.c (.int .i64 (cx)), .c (.int .i64 (cy)), .c (.int .i64 (cz)), .t (.rows cm)]), (4, .cells 53 [.c (.int .i64 (if skOk cx cy cz cm k = true then cx else 0)), .c (.int .i64 (if skOk cx cy cz cm k = true then cy else 0)), .c (.int .i64 (if skOk cx cy cz cm k = true then k * cz else 0)), .t (.rows (skR cx cy cz cm k))])], 5⟩ : St)) (by refine ⟨rfl, rfl, ?_, ?_⟩ <;> ((repeat' (first | exact trivial | exact rfl | refine And.intro ?_ ?_)) <;> (try ((conv => whnf); first | refine vint ?_ | refine vboo ?_ | refine rint ?_ | refine rrow ?_ | skip)) <;> (try first | omega | (simp; done) | ((repeat rw [flts_closed _ (by assumption)]); exact vws_closed _ (by assumption))))) ⟨rfl, trivial⟩ ?_
  refine ACall.use' (DrawReduceBox_spec code hc) ?_
  rintro v hr ⟨rfl, dx, dy, dz, dm, hdx, hdy, hdz, hdm, rfl⟩
  conv => whnf
  refine ACall.use (ReduceBoxG_i dx dy dz dm hdm.ok.2) ?_
  conv => whnf
  refine ACall.use (ReduceBoxG_s dx dy dz dm hdm.ok.2) ?_
  conv => whnf
  refine ⟨fun _ => ?_, fun h => absurd h (by simp [])⟩
  conv => whnf
  have rb := rdg_bd dx dy dz dm
  refine ACall.use (rBox_spec _ _ _ _ _ (len_ok rb.1) (tot_ok rb.2)) ?_
  conv => whnf
  refine ⟨fun h => absurd h (by simp []), fun _ => ?_⟩
  conv => whnf
  refine ACallS.view (R := [(0, .row 0), (1, .row 1), (2, .row 2), (3, .row 3), (4, .row 4), (5, .row 5), (6, .row 7)]) (args' := [.t (.ints .u8 code)]) (st' := (⟨383, [(0, .t (.ints .u8 code)), (2, .c (.bool false)), (3, .ptr 0 0), (4, .ptr 1 0), (5, .ptr 2 0), (6, .c (.bool (mbOk ax ay az am bx bx' bz bm))), (9, .ptr 3 0), (11, .ptr 4 0), (12, .c (.bool (skOk cx cy cz cm k))), (15, .ptr 5 0), (16, .ptr 6 0), (17, .c (.bool (goodB dx dy dz dm)))], [(0, .cells 53 [.c (.int .i64 (ax)), .c (.int .i64 (ay)), .c (.int .i64 (az)), .t (.rows am)]), (1, .cells 53 [.c (.int .i64 (bx)), .c (.int .i64 (bx')), .c (.int .i64 (bz)), .t (.rows bm)]), (2, .cells 53 [.c (.int .i64 (if mbOk ax ay az am bx bx' bz bm = true then ax else 0)), .c (.int .i64 (if mbOk ax ay az am bx bx' bz bm = true then ay else 0)), .c (.int .i64 (if mbOk ax ay az am bx bx' bz bm = true then az + bz else 0)), .t (.rows (mbR ax ay az am bx bx' bz bm))]), (3, .cells 53 [.c (.int .i64 (cx)), .c (.int .i64 (cy)), .c (.int .i64 (cz)), .t (.rows cm)]), (4, .cells 53 [.c (.int .i64 (if skOk cx cy cz cm k = true then cx else 0)), .c (.int .i64 (if skOk cx cy cz cm k = true then cy else 0)), .c (.int .i64 (if skOk cx cy cz cm k = true then k * cz else 0)), .t (.rows (skR cx cy cz cm k))]), (5, .cells 53 [.c (.int .i64 (dx)), .c (.int .i64 (dy)), .c (.int .i64 (dz)), .t (.rows dm)]), (6, .cells 53 [.c (.int .i64 (if goodB dx dy dz dm = true then dx else 0)), .c (.int .i64 (if goodB dx dy dz dm = true then dy else 0)), .c (.int .i64 (if goodB dx dy dz dm = true then rdW dz (gcM dz dm dm.length) else 0)), .t (.rows (rdgR dx dy dz dm))])], 7⟩ : St)) (by refine ⟨rfl, rfl, ?_, ?_⟩ <;> ((repeat' (first | exact trivial | exact rfl | refine And.intro ?_ ?_)) <;> (try ((conv => whnf); first | refine vint ?_ | refine vboo ?_ | refine rint ?_ | refine rrow ?_ | skip)) <;> (try first | omega | (simp; done) | ((repeat rw [flts_closed _ (by assumption)]); exact vws_closed _ (by assumption))))) ⟨rfl, trivial⟩ ?_
  refine ACall.use' (DrawAreAlike_spec code hc) ?_
  rintro v hr ⟨rfl, ex', ey, ez, em, fx, fy, fz, fm, hex, hey, hez, hem, hfx, hfy, hfz, hfm, rfl⟩
  conv => whnf
  refine ACall.use (AreAlike_i ex' ey ez em fx fy fz fm hem.ok.2 hfm.ok.2) ?_
  conv => whnf
  refine ACall.use (AreAlike_s ex' ey ez em fx fy fz fm hem.ok.2 hfm.ok.2) ?_
  conv => whnf
  refine ⟨fun _ => ?_, fun h => absurd h (by simp [])⟩
  conv => whnf
  refine ⟨fun h => absurd h (by simp []), fun _ => ?_⟩
  conv => whnf
  refine ACallS.view (R := [(0, .row 0), (1, .row 1), (2, .row 2), (3, .row 3), (4, .row 4), (5, .row 5), (6, .row 6)]) (args' := [.t (.ints .u8 code)]) (st' := (⟨383, [(0, .t (.ints .u8 code)), (2, .c (.bool false)), (3, .ptr 0 0), (4, .ptr 1 0), (5, .ptr 2 0), (6, .c (.bool (mbOk ax ay az am bx bx' bz bm))), (9, .ptr 3 0), (11, .ptr 4 0), (12, .c (.bool (skOk cx cy cz cm k))), (15, .ptr 5 0), (16, .ptr 6 0), (17, .c (.bool (goodB dx dy dz dm)))], [(0, .cells 53 [.c (.int .i64 (ax)), .c (.int .i64 (ay)), .c (.int .i64 (az)), .t (.rows am)]), (1, .cells 53 [.c (.int .i64 (bx)), .c (.int .i64 (bx')), .c (.int .i64 (bz)), .t (.rows bm)]), (2, .cells 53 [.c (.int .i64 (if mbOk ax ay az am bx bx' bz bm = true then ax else 0)), .c (.int .i64 (if mbOk ax ay az am bx bx' bz bm = true then ay else 0)), .c (.int .i64 (if mbOk ax ay az am bx bx' bz bm = true then az + bz else 0)), .t (.rows (mbR ax ay az am bx bx' bz bm))]), (3, .cells 53 [.c (.int .i64 (cx)), .c (.int .i64 (cy)), .c (.int .i64 (cz)), .t (.rows cm)]), (4, .cells 53 [.c (.int .i64 (if skOk cx cy cz cm k = true then cx else 0)), .c (.int .i64 (if skOk cx cy cz cm k = true then cy else 0)), .c (.int .i64 (if skOk cx cy cz cm k = true then k * cz else 0)), .t (.rows (skR cx cy cz cm k))]), (5, .cells 53 [.c (.int .i64 (dx)), .c (.int .i64 (dy)), .c (.int .i64 (dz)), .t (.rows dm)]), (6, .cells 53 [.c (.int .i64 (if goodB dx dy dz dm = true then dx else 0)), .c (.int .i64 (if goodB dx dy dz dm = true then dy else 0)), .c (.int .i64 (if goodB dx dy dz dm = true then rdW dz (gcM dz dm dm.length) else 0)), .t (.rows (rdgR dx dy dz dm))])], 7⟩ : St)) (by refine ⟨rfl, rfl, ?_, ?_⟩ <;> ((repeat' (first | exact trivial | exact rfl | refine And.intro ?_ ?_)) <;> (try ((conv => whnf); first | refine vint ?_ | refine vboo ?_ | refine rint ?_ | refine rrow ?_ | skip)) <;> (try first | omega | (simp; done) | ((repeat rw [flts_closed _ (by assumption)]); exact vws_closed _ (by assumption))))) ⟨rfl, trivial⟩ ?_
  refine ACall.use' (DrawWorthOf_spec code hc) ?_
  rintro v hr ⟨rfl, wf, gx, gy, gz, gm, hwf, hgx, hgy, hgz, hgm, rfl⟩
  conv => whnf
  refine ACall.use (WorthOf_i gx gy gz gm wf hgm.ok.2 hwf.ok.2) ?_
  conv => whnf
  refine ACall.use (WorthOf_s gx gy gz gm wf hgm.ok.2 hwf.ok.2) ?_
  conv => whnf
  refine ⟨fun _ => ?_, fun h => absurd h (by simp [])⟩
  conv => whnf
  refine ⟨fun h => absurd h (by simp []), fun _ => ?_⟩
  conv => whnf
  refine ACallS.view (R := [(0, .row 0), (1, .row 1), (2, .row 2), (3, .row 3), (4, .row 4), (5, .row 5), (6, .row 6)]) (args' := [.t (.ints .u8 code)]) (st' := (⟨383, [(0, .t (.ints .u8 code)), (2, .c (.bool false)), (3, .ptr 0 0), (4, .ptr 1 0), (5, .ptr 2 0), (6, .c (.bool (mbOk ax ay az am bx bx' bz bm))), (9, .ptr 3 0), (11, .ptr 4 0), (12, .c (.bool (skOk cx cy cz cm k))), (15, .ptr 5 0), (16, .ptr 6 0), (17, .c (.bool (goodB dx dy dz dm)))], [(0, .cells 53 [.c (.int .i64 (ax)), .c (.int .i64 (ay)), .c (.int .i64 (az)), .t (.rows am)]), (1, .cells 53 [.c (.int .i64 (bx)), .c (.int .i64 (bx')), .c (.int .i64 (bz)), .t (.rows bm)]), (2, .cells 53 [.c (.int .i64 (if mbOk ax ay az am bx bx' bz bm = true then ax else 0)), .c (.int .i64 (if mbOk ax ay az am bx bx' bz bm = true then ay else 0)), .c (.int .i64 (if mbOk ax ay az am bx bx' bz bm = true then az + bz else 0)), .t (.rows (mbR ax ay az am bx bx' bz bm))]), (3, .cells 53 [.c (.int .i64 (cx)), .c (.int .i64 (cy)), .c (.int .i64 (cz)), .t (.rows cm)]), (4, .cells 53 [.c (.int .i64 (if skOk cx cy cz cm k = true then cx else 0)), .c (.int .i64 (if skOk cx cy cz cm k = true then cy else 0)), .c (.int .i64 (if skOk cx cy cz cm k = true then k * cz else 0)), .t (.rows (skR cx cy cz cm k))]), (5, .cells 53 [.c (.int .i64 (dx)), .c (.int .i64 (dy)), .c (.int .i64 (dz)), .t (.rows dm)]), (6, .cells 53 [.c (.int .i64 (if goodB dx dy dz dm = true then dx else 0)), .c (.int .i64 (if goodB dx dy dz dm = true then dy else 0)), .c (.int .i64 (if goodB dx dy dz dm = true then rdW dz (gcM dz dm dm.length) else 0)), .t (.rows (rdgR dx dy dz dm))])], 7⟩ : St)) (by refine ⟨rfl, rfl, ?_, ?_⟩ <;> ((repeat' (first | exact trivial | exact rfl | refine And.intro ?_ ?_)) <;> (try ((conv => whnf); first | refine vint ?_ | refine vboo ?_ | refine rint ?_ | refine rrow ?_ | skip)) <;> (try first | omega | (simp; done) | ((repeat rw [flts_closed _ (by assumption)]); exact vws_closed _ (by assumption))))) ⟨rfl, trivial⟩ ?_
  refine ACall.use' (DrawPlayWorth_spec code hc) ?_
  rintro v hr ⟨rfl, px, py, pf, pp, hpx, hpy, hpf, hpp, hpi, rfl⟩
  have kp : SzI pp := by unfold SzI; omega
  conv => whnf
  refine ACall.use (PlayWorth_i px py pf pp hpf.ok.2 kp) ?_
  conv => whnf
  refine ACall.use (PlayWorth_s px py pf pp hpf.ok.2 kp) ?_
  conv => whnf
  refine ⟨fun _ => ?_, fun h => absurd h (by simp [])⟩
  conv => whnf
  refine ⟨fun h => absurd h (by simp []), fun _ => ?_⟩
  conv => whnf
  apply mp_of2 (h := mbOk ax ay az am bx bx' bz bm = true)
  case f =>
    intro key
    have one1 : skOk cx cy cz cm k = true → sqB cx cy cz cm (if skOk cx cy cz cm k = true then cx else 0) (if skOk cx cy cz cm k = true then cy else 0) (if skOk cx cy cz cm k = true then k * cz else 0) (skR cx cy cz cm k) = true ∧ aaV cx cy cz cm (if skOk cx cy cz cm k = true then cx else 0) (if skOk cx cy cz cm k = true then cy else 0) (if skOk cx cy cz cm k = true then k * cz else 0) (skR cx cy cz cm k) = true := fun h1 => by
      rw [if_pos h1, if_pos h1, if_pos h1]; exact sc_alike h1
    refine ⟨fun h1 => ?_, fun h1 => ?_⟩
    · obtain ⟨s1, s2⟩ := one1 h1
      clear one1
      conv => whnf
      refine ACall.use (AreAlike_i cx cy cz cm _ _ _ (skR cx cy cz cm k) hcm.ok.2 (SzM.of sb)) ?_
      conv => whnf
      refine ⟨fun _ => ?_, fun h => absurd h (by simp [s1])⟩
      conv => whnf
      refine ⟨fun h => absurd h (by simp [s2]), fun _ => ?_⟩
      conv => whnf
      have two2 : goodB dx dy dz dm = true → sqB dx dy dz dm (if goodB dx dy dz dm = true then dx else 0) (if goodB dx dy dz dm = true then dy else 0) (if goodB dx dy dz dm = true then rdW dz (gcM dz dm dm.length) else 0) (rdgR dx dy dz dm) = true ∧ aaV dx dy dz dm (if goodB dx dy dz dm = true then dx else 0) (if goodB dx dy dz dm = true then dy else 0) (if goodB dx dy dz dm = true then rdW dz (gcM dz dm dm.length) else 0) (rdgR dx dy dz dm) = true ∧
          ∃ (x y z : Int) (m : List (List Int)), (if goodB dx dy dz dm = true then dx else 0) = x ∧ (if goodB dx dy dz dm = true then dy else 0) = y ∧ (if goodB dx dy dz dm = true then rdW dz (gcM dz dm dm.length) else 0) = z ∧ rdgR dx dy dz dm = m ∧ goodB x y z m = true ∧ (if goodB x y z m = true then rdW z (gcM z m m.length) else 0) = z ∧ rdgR x y z m = m ∧ z ≠ 0 ∧ Int.tmod dz z = 0 := fun h2 => by
        obtain ⟨r1, r2, r3, r4, r5, r6, r7⟩ := rd_facts h2
        have e4 : rdgR dx dy dz dm = grid dm.length (rdgN dm (gcM dz dm dm.length)) := if_pos h2
        rw [if_pos h2, if_pos h2, if_pos h2, e4]
        exact ⟨r2, r3, _, _, _, _, rfl, rfl, rfl, rfl, r1, by rw [if_pos r1]; exact r4, by rw [rdgR, if_pos r1]; exact r5, r6, r7⟩
      refine ⟨fun h2 => ?_, fun h2 => ?_⟩
      · obtain ⟨r2, r3, x, y, z, m, q1, q2, q3, q4, r1, r4, r5, r6, r7⟩ := two2 h2
        clear two2
        conv => whnf
        refine ACall.use (AreAlike_i dx dy dz dm _ _ _ (rdgR dx dy dz dm) hdm.ok.2 (SzM.of rb)) ?_
        conv => whnf
        rw [q1, q2, q3, q4] at r2 r3 ⊢
        have km : SzM m := good_sz r1
        refine ACall.use (ReduceBoxG_i x y z m km) ?_
        conv => whnf
        refine ⟨fun _ => ?_, fun h => absurd h (by simp [r2])⟩
        conv => whnf
        refine ⟨fun _ => ?_, fun h => absurd h (by simp [r1])⟩
        conv => whnf
        refine ⟨fun _ => ?_, fun h => absurd h (by simp [r3])⟩
        conv => whnf
        refine ACall.use (rBox_eq (if_pos r1) (if_pos r1) r4 r5 (by have := good_len r1; omega) (fun r hr => by rw [good_row r1 hr]; omega)) ?_
        conv => whnf
        refine ⟨fun _ => ?_, fun h => absurd h (by simp [])⟩
        conv => whnf
        refine ⟨r6, ?_⟩
        conv => whnf
        refine ⟨fun h => absurd h (by simp [r7]), fun _ => ?_⟩
        conv => whnf
        have five5 : pwOk px py pf pp = true → plOk px py pp 1 = true ∧ woOk (if plOk px py pp 1 = true then px else 0) (if plOk px py pp 1 = true then py else 0) (if plOk px py pp 1 = true then 1 else 0) (plR px py pp 1) pf = true ∧ woV (if plOk px py pp 1 = true then px else 0) (if plOk px py pp 1 = true then py else 0) (if plOk px py pp 1 = true then 1 else 0) (plR px py pp 1) pf = pwV px py pf pp ∧ SzM (plR px py pp 1) := fun h5 => by
          obtain ⟨p1, p2, p3⟩ := py_worth h5
          rw [if_pos p1, if_pos p1, if_pos p1]
          refine ⟨p1, p2, p3, ?_⟩
          rw [woOk, Bool.and_eq_true] at p2
          exact good_sz p2.1
        refine ⟨fun h5 => ?_, fun h5 => ?_⟩
        · obtain ⟨p1, p2, p3, kpl⟩ := five5 h5
          clear five5
          conv => whnf
          refine ACall.use (PlayBox_i px py pp 1 kp) ?_
          conv => whnf
          refine ACall.use (WorthOf_i _ _ _ (plR px py pp 1) pf kpl hpf.ok.2) ?_
          conv => whnf
          refine ⟨fun _ => ?_, fun h => absurd h (by simp [p1])⟩
          conv => whnf
          refine ⟨fun _ => ?_, fun h => absurd h (by simp [p2])⟩
          conv => whnf
          refine ⟨fun h => absurd h (by simp [p3]), fun _ => ?_⟩
          conv => whnf
          refine ⟨fun hok => ?_, fun hok => ?_⟩
          · conv => whnf
            exact ⟨rfl, rfl⟩
          have hok : mbOk ax ay az am bx bx' bz bm = true := by simpa using hok
          have hla : am.length ≤ 9 := (good_len (sqB_spec (by rw [mbOk, Bool.and_eq_true] at hok; exact hok.1)).1).2
          conv => whnf
          refine ⟨am.length, rfl, rfl, by simp [room]; omega, ?_⟩
          conv => whnf
          rw [sumTo_zero]
          refine aloopI tyOk mx (fun n : Nat => (⟨383, [(2, .c (.bool false)), (3, .ptr 0 0), (4, .ptr 1 0), (5, .ptr 2 0), (50, .own 3), (51, .c (.int .i64 (n)))], [(0, .cells 53 [.c (.int .i64 (ax)), .c (.int .i64 (ay)), .c (.int .i64 (az)), .t (.rows am)]), (1, .cells 53 [.c (.int .i64 (bx)), .c (.int .i64 (bx')), .c (.int .i64 (bz)), .t (.rows bm)]), (2, .cells 53 [.c (.int .i64 (if mbOk ax ay az am bx bx' bz bm = true then ax else 0)), .c (.int .i64 (if mbOk ax ay az am bx bx' bz bm = true then ay else 0)), .c (.int .i64 (if mbOk ax ay az am bx bx' bz bm = true then az + bz else 0)), .t (.rows (mbR ax ay az am bx bx' bz bm))]), (3, .rows 25 3 true (sumTo am.length n))], 4⟩ : St)) (fun n => n ≤ am.length) (fun n => am.length - n) 0 (Nat.zero_le _) (some [(0, .row 0), (1, .row 1), (2, .row 2), (3, .row 11)]) (by (refine ⟨rfl, rfl, ?_, ?_⟩ <;> ((repeat' (first | exact trivial | exact rfl | refine And.intro ?_ ?_)) <;> (try ((conv => whnf); first | refine vint ?_ | refine vboo ?_ | refine rint ?_ | refine rrow ?_ | skip)) <;> (try first | omega | (simp; done) | ((repeat rw [flts_closed _ (by assumption)]); exact vws_closed _ (by assumption)))))) (key hok)
        · clear five5
          conv => whnf
          refine ⟨fun hok => ?_, fun hok => ?_⟩
          · conv => whnf
            exact ⟨rfl, rfl⟩
          have hok : mbOk ax ay az am bx bx' bz bm = true := by simpa using hok
          have hla : am.length ≤ 9 := (good_len (sqB_spec (by rw [mbOk, Bool.and_eq_true] at hok; exact hok.1)).1).2
          conv => whnf
          refine ⟨am.length, rfl, rfl, by simp [room]; omega, ?_⟩
          conv => whnf
          rw [sumTo_zero]
          refine aloopI tyOk mx (fun n : Nat => (⟨383, [(2, .c (.bool false)), (3, .ptr 0 0), (4, .ptr 1 0), (5, .ptr 2 0), (50, .own 3), (51, .c (.int .i64 (n)))], [(0, .cells 53 [.c (.int .i64 (ax)), .c (.int .i64 (ay)), .c (.int .i64 (az)), .t (.rows am)]), (1, .cells 53 [.c (.int .i64 (bx)), .c (.int .i64 (bx')), .c (.int .i64 (bz)), .t (.rows bm)]), (2, .cells 53 [.c (.int .i64 (if mbOk ax ay az am bx bx' bz bm = true then ax else 0)), .c (.int .i64 (if mbOk ax ay az am bx bx' bz bm = true then ay else 0)), .c (.int .i64 (if mbOk ax ay az am bx bx' bz bm = true then az + bz else 0)), .t (.rows (mbR ax ay az am bx bx' bz bm))]), (3, .rows 25 3 true (sumTo am.length n))], 4⟩ : St)) (fun n => n ≤ am.length) (fun n => am.length - n) 0 (Nat.zero_le _) (some [(0, .row 0), (1, .row 1), (2, .row 2), (3, .row 9)]) (by (refine ⟨rfl, rfl, ?_, ?_⟩ <;> ((repeat' (first | exact trivial | exact rfl | refine And.intro ?_ ?_)) <;> (try ((conv => whnf); first | refine vint ?_ | refine vboo ?_ | refine rint ?_ | refine rrow ?_ | skip)) <;> (try first | omega | (simp; done) | ((repeat rw [flts_closed _ (by assumption)]); exact vws_closed _ (by assumption)))))) (key hok)
      · clear two2
        conv => whnf
        have five5 : pwOk px py pf pp = true → plOk px py pp 1 = true ∧ woOk (if plOk px py pp 1 = true then px else 0) (if plOk px py pp 1 = true then py else 0) (if plOk px py pp 1 = true then 1 else 0) (plR px py pp 1) pf = true ∧ woV (if plOk px py pp 1 = true then px else 0) (if plOk px py pp 1 = true then py else 0) (if plOk px py pp 1 = true then 1 else 0) (plR px py pp 1) pf = pwV px py pf pp ∧ SzM (plR px py pp 1) := fun h5 => by
          obtain ⟨p1, p2, p3⟩ := py_worth h5
          rw [if_pos p1, if_pos p1, if_pos p1]
          refine ⟨p1, p2, p3, ?_⟩
          rw [woOk, Bool.and_eq_true] at p2
          exact good_sz p2.1
        refine ⟨fun h5 => ?_, fun h5 => ?_⟩
        · obtain ⟨p1, p2, p3, kpl⟩ := five5 h5
          clear five5
          conv => whnf
          refine ACall.use (PlayBox_i px py pp 1 kp) ?_
          conv => whnf
          refine ACall.use (WorthOf_i _ _ _ (plR px py pp 1) pf kpl hpf.ok.2) ?_
          conv => whnf
          refine ⟨fun _ => ?_, fun h => absurd h (by simp [p1])⟩
          conv => whnf
          refine ⟨fun _ => ?_, fun h => absurd h (by simp [p2])⟩
          conv => whnf
          refine ⟨fun h => absurd h (by simp [p3]), fun _ => ?_⟩
          conv => whnf
          refine ⟨fun hok => ?_, fun hok => ?_⟩
          · conv => whnf
            exact ⟨rfl, rfl⟩
          have hok : mbOk ax ay az am bx bx' bz bm = true := by simpa using hok
          have hla : am.length ≤ 9 := (good_len (sqB_spec (by rw [mbOk, Bool.and_eq_true] at hok; exact hok.1)).1).2
          conv => whnf
          refine ⟨am.length, rfl, rfl, by simp [room]; omega, ?_⟩
          conv => whnf
          rw [sumTo_zero]
          refine aloopI tyOk mx (fun n : Nat => (⟨383, [(2, .c (.bool false)), (3, .ptr 0 0), (4, .ptr 1 0), (5, .ptr 2 0), (50, .own 3), (51, .c (.int .i64 (n)))], [(0, .cells 53 [.c (.int .i64 (ax)), .c (.int .i64 (ay)), .c (.int .i64 (az)), .t (.rows am)]), (1, .cells 53 [.c (.int .i64 (bx)), .c (.int .i64 (bx')), .c (.int .i64 (bz)), .t (.rows bm)]), (2, .cells 53 [.c (.int .i64 (if mbOk ax ay az am bx bx' bz bm = true then ax else 0)), .c (.int .i64 (if mbOk ax ay az am bx bx' bz bm = true then ay else 0)), .c (.int .i64 (if mbOk ax ay az am bx bx' bz bm = true then az + bz else 0)), .t (.rows (mbR ax ay az am bx bx' bz bm))]), (3, .rows 25 3 true (sumTo am.length n))], 4⟩ : St)) (fun n => n ≤ am.length) (fun n => am.length - n) 0 (Nat.zero_le _) (some [(0, .row 0), (1, .row 1), (2, .row 2), (3, .row 9)]) (by (refine ⟨rfl, rfl, ?_, ?_⟩ <;> ((repeat' (first | exact trivial | exact rfl | refine And.intro ?_ ?_)) <;> (try ((conv => whnf); first | refine vint ?_ | refine vboo ?_ | refine rint ?_ | refine rrow ?_ | skip)) <;> (try first | omega | (simp; done) | ((repeat rw [flts_closed _ (by assumption)]); exact vws_closed _ (by assumption)))))) (key hok)
        · clear five5
          conv => whnf
          refine ⟨fun hok => ?_, fun hok => ?_⟩
          · conv => whnf
            exact ⟨rfl, rfl⟩
          have hok : mbOk ax ay az am bx bx' bz bm = true := by simpa using hok
          have hla : am.length ≤ 9 := (good_len (sqB_spec (by rw [mbOk, Bool.and_eq_true] at hok; exact hok.1)).1).2
          conv => whnf
          refine ⟨am.length, rfl, rfl, by simp [room]; omega, ?_⟩
          conv => whnf
          rw [sumTo_zero]
          refine aloopI tyOk mx (fun n : Nat => (⟨383, [(2, .c (.bool false)), (3, .ptr 0 0), (4, .ptr 1 0), (5, .ptr 2 0), (50, .own 3), (51, .c (.int .i64 (n)))], [(0, .cells 53 [.c (.int .i64 (ax)), .c (.int .i64 (ay)), .c (.int .i64 (az)), .t (.rows am)]), (1, .cells 53 [.c (.int .i64 (bx)), .c (.int .i64 (bx')), .c (.int .i64 (bz)), .t (.rows bm)]), (2, .cells 53 [.c (.int .i64 (if mbOk ax ay az am bx bx' bz bm = true then ax else 0)), .c (.int .i64 (if mbOk ax ay az am bx bx' bz bm = true then ay else 0)), .c (.int .i64 (if mbOk ax ay az am bx bx' bz bm = true then az + bz else 0)), .t (.rows (mbR ax ay az am bx bx' bz bm))]), (3, .rows 25 3 true (sumTo am.length n))], 4⟩ : St)) (fun n => n ≤ am.length) (fun n => am.length - n) 0 (Nat.zero_le _) (some [(0, .row 0), (1, .row 1), (2, .row 2), (3, .row 7)]) (by (refine ⟨rfl, rfl, ?_, ?_⟩ <;> ((repeat' (first | exact trivial | exact rfl | refine And.intro ?_ ?_)) <;> (try ((conv => whnf); first | refine vint ?_ | refine vboo ?_ | refine rint ?_ | refine rrow ?_ | skip)) <;> (try first | omega | (simp; done) | ((repeat rw [flts_closed _ (by assumption)]); exact vws_closed _ (by assumption)))))) (key hok)
    · clear one1
      conv => whnf
      have two2 : goodB dx dy dz dm = true → sqB dx dy dz dm (if goodB dx dy dz dm = true then dx else 0) (if goodB dx dy dz dm = true then dy else 0) (if goodB dx dy dz dm = true then rdW dz (gcM dz dm dm.length) else 0) (rdgR dx dy dz dm) = true ∧ aaV dx dy dz dm (if goodB dx dy dz dm = true then dx else 0) (if goodB dx dy dz dm = true then dy else 0) (if goodB dx dy dz dm = true then rdW dz (gcM dz dm dm.length) else 0) (rdgR dx dy dz dm) = true ∧
          ∃ (x y z : Int) (m : List (List Int)), (if goodB dx dy dz dm = true then dx else 0) = x ∧ (if goodB dx dy dz dm = true then dy else 0) = y ∧ (if goodB dx dy dz dm = true then rdW dz (gcM dz dm dm.length) else 0) = z ∧ rdgR dx dy dz dm = m ∧ goodB x y z m = true ∧ (if goodB x y z m = true then rdW z (gcM z m m.length) else 0) = z ∧ rdgR x y z m = m ∧ z ≠ 0 ∧ Int.tmod dz z = 0 := fun h2 => by
        obtain ⟨r1, r2, r3, r4, r5, r6, r7⟩ := rd_facts h2
        have e4 : rdgR dx dy dz dm = grid dm.length (rdgN dm (gcM dz dm dm.length)) := if_pos h2
        rw [if_pos h2, if_pos h2, if_pos h2, e4]
        exact ⟨r2, r3, _, _, _, _, rfl, rfl, rfl, rfl, r1, by rw [if_pos r1]; exact r4, by rw [rdgR, if_pos r1]; exact r5, r6, r7⟩
      refine ⟨fun h2 => ?_, fun h2 => ?_⟩
      · obtain ⟨r2, r3, x, y, z, m, q1, q2, q3, q4, r1, r4, r5, r6, r7⟩ := two2 h2
        clear two2
        conv => whnf
        refine ACall.use (AreAlike_i dx dy dz dm _ _ _ (rdgR dx dy dz dm) hdm.ok.2 (SzM.of rb)) ?_
        conv => whnf
        rw [q1, q2, q3, q4] at r2 r3 ⊢
        have km : SzM m := good_sz r1
        refine ACall.use (ReduceBoxG_i x y z m km) ?_
        conv => whnf
        refine ⟨fun _ => ?_, fun h => absurd h (by simp [r2])⟩
        conv => whnf
        refine ⟨fun _ => ?_, fun h => absurd h (by simp [r1])⟩
        conv => whnf
        refine ⟨fun _ => ?_, fun h => absurd h (by simp [r3])⟩
        conv => whnf
        refine ACall.use (rBox_eq (if_pos r1) (if_pos r1) r4 r5 (by have := good_len r1; omega) (fun r hr => by rw [good_row r1 hr]; omega)) ?_
        conv => whnf
        refine ⟨fun _ => ?_, fun h => absurd h (by simp [])⟩
        conv => whnf
        refine ⟨r6, ?_⟩
        conv => whnf
        refine ⟨fun h => absurd h (by simp [r7]), fun _ => ?_⟩
        conv => whnf
        have five5 : pwOk px py pf pp = true → plOk px py pp 1 = true ∧ woOk (if plOk px py pp 1 = true then px else 0) (if plOk px py pp 1 = true then py else 0) (if plOk px py pp 1 = true then 1 else 0) (plR px py pp 1) pf = true ∧ woV (if plOk px py pp 1 = true then px else 0) (if plOk px py pp 1 = true then py else 0) (if plOk px py pp 1 = true then 1 else 0) (plR px py pp 1) pf = pwV px py pf pp ∧ SzM (plR px py pp 1) := fun h5 => by
          obtain ⟨p1, p2, p3⟩ := py_worth h5
          rw [if_pos p1, if_pos p1, if_pos p1]
          refine ⟨p1, p2, p3, ?_⟩
          rw [woOk, Bool.and_eq_true] at p2
          exact good_sz p2.1
        refine ⟨fun h5 => ?_, fun h5 => ?_⟩
        · obtain ⟨p1, p2, p3, kpl⟩ := five5 h5
          clear five5
          conv => whnf
          refine ACall.use (PlayBox_i px py pp 1 kp) ?_
          conv => whnf
          refine ACall.use (WorthOf_i _ _ _ (plR px py pp 1) pf kpl hpf.ok.2) ?_
          conv => whnf
          refine ⟨fun _ => ?_, fun h => absurd h (by simp [p1])⟩
          conv => whnf
          refine ⟨fun _ => ?_, fun h => absurd h (by simp [p2])⟩
          conv => whnf
          refine ⟨fun h => absurd h (by simp [p3]), fun _ => ?_⟩
          conv => whnf
          refine ⟨fun hok => ?_, fun hok => ?_⟩
          · conv => whnf
            exact ⟨rfl, rfl⟩
          have hok : mbOk ax ay az am bx bx' bz bm = true := by simpa using hok
          have hla : am.length ≤ 9 := (good_len (sqB_spec (by rw [mbOk, Bool.and_eq_true] at hok; exact hok.1)).1).2
          conv => whnf
          refine ⟨am.length, rfl, rfl, by simp [room]; omega, ?_⟩
          conv => whnf
          rw [sumTo_zero]
          refine aloopI tyOk mx (fun n : Nat => (⟨383, [(2, .c (.bool false)), (3, .ptr 0 0), (4, .ptr 1 0), (5, .ptr 2 0), (50, .own 3), (51, .c (.int .i64 (n)))], [(0, .cells 53 [.c (.int .i64 (ax)), .c (.int .i64 (ay)), .c (.int .i64 (az)), .t (.rows am)]), (1, .cells 53 [.c (.int .i64 (bx)), .c (.int .i64 (bx')), .c (.int .i64 (bz)), .t (.rows bm)]), (2, .cells 53 [.c (.int .i64 (if mbOk ax ay az am bx bx' bz bm = true then ax else 0)), .c (.int .i64 (if mbOk ax ay az am bx bx' bz bm = true then ay else 0)), .c (.int .i64 (if mbOk ax ay az am bx bx' bz bm = true then az + bz else 0)), .t (.rows (mbR ax ay az am bx bx' bz bm))]), (3, .rows 25 3 true (sumTo am.length n))], 4⟩ : St)) (fun n => n ≤ am.length) (fun n => am.length - n) 0 (Nat.zero_le _) (some [(0, .row 0), (1, .row 1), (2, .row 2), (3, .row 11)]) (by (refine ⟨rfl, rfl, ?_, ?_⟩ <;> ((repeat' (first | exact trivial | exact rfl | refine And.intro ?_ ?_)) <;> (try ((conv => whnf); first | refine vint ?_ | refine vboo ?_ | refine rint ?_ | refine rrow ?_ | skip)) <;> (try first | omega | (simp; done) | ((repeat rw [flts_closed _ (by assumption)]); exact vws_closed _ (by assumption)))))) (key hok)
        · clear five5
          conv => whnf
          refine ⟨fun hok => ?_, fun hok => ?_⟩
          · conv => whnf
            exact ⟨rfl, rfl⟩
          have hok : mbOk ax ay az am bx bx' bz bm = true := by simpa using hok
          have hla : am.length ≤ 9 := (good_len (sqB_spec (by rw [mbOk, Bool.and_eq_true] at hok; exact hok.1)).1).2
          conv => whnf
          refine ⟨am.length, rfl, rfl, by simp [room]; omega, ?_⟩
          conv => whnf
          rw [sumTo_zero]
          refine aloopI tyOk mx (fun n : Nat => (⟨383, [(2, .c (.bool false)), (3, .ptr 0 0), (4, .ptr 1 0), (5, .ptr 2 0), (50, .own 3), (51, .c (.int .i64 (n)))], [(0, .cells 53 [.c (.int .i64 (ax)), .c (.int .i64 (ay)), .c (.int .i64 (az)), .t (.rows am)]), (1, .cells 53 [.c (.int .i64 (bx)), .c (.int .i64 (bx')), .c (.int .i64 (bz)), .t (.rows bm)]), (2, .cells 53 [.c (.int .i64 (if mbOk ax ay az am bx bx' bz bm = true then ax else 0)), .c (.int .i64 (if mbOk ax ay az am bx bx' bz bm = true then ay else 0)), .c (.int .i64 (if mbOk ax ay az am bx bx' bz bm = true then az + bz else 0)), .t (.rows (mbR ax ay az am bx bx' bz bm))]), (3, .rows 25 3 true (sumTo am.length n))], 4⟩ : St)) (fun n => n ≤ am.length) (fun n => am.length - n) 0 (Nat.zero_le _) (some [(0, .row 0), (1, .row 1), (2, .row 2), (3, .row 9)]) (by (refine ⟨rfl, rfl, ?_, ?_⟩ <;> ((repeat' (first | exact trivial | exact rfl | refine And.intro ?_ ?_)) <;> (try ((conv => whnf); first | refine vint ?_ | refine vboo ?_ | refine rint ?_ | refine rrow ?_ | skip)) <;> (try first | omega | (simp; done) | ((repeat rw [flts_closed _ (by assumption)]); exact vws_closed _ (by assumption)))))) (key hok)
      · clear two2
        conv => whnf
        have five5 : pwOk px py pf pp = true → plOk px py pp 1 = true ∧ woOk (if plOk px py pp 1 = true then px else 0) (if plOk px py pp 1 = true then py else 0) (if plOk px py pp 1 = true then 1 else 0) (plR px py pp 1) pf = true ∧ woV (if plOk px py pp 1 = true then px else 0) (if plOk px py pp 1 = true then py else 0) (if plOk px py pp 1 = true then 1 else 0) (plR px py pp 1) pf = pwV px py pf pp ∧ SzM (plR px py pp 1) := fun h5 => by
          obtain ⟨p1, p2, p3⟩ := py_worth h5
          rw [if_pos p1, if_pos p1, if_pos p1]
          refine ⟨p1, p2, p3, ?_⟩
          rw [woOk, Bool.and_eq_true] at p2
          exact good_sz p2.1
        refine ⟨fun h5 => ?_, fun h5 => ?_⟩
        · obtain ⟨p1, p2, p3, kpl⟩ := five5 h5
          clear five5
          conv => whnf
          refine ACall.use (PlayBox_i px py pp 1 kp) ?_
          conv => whnf
          refine ACall.use (WorthOf_i _ _ _ (plR px py pp 1) pf kpl hpf.ok.2) ?_
          conv => whnf
          refine ⟨fun _ => ?_, fun h => absurd h (by simp [p1])⟩
          conv => whnf
          refine ⟨fun _ => ?_, fun h => absurd h (by simp [p2])⟩
          conv => whnf
          refine ⟨fun h => absurd h (by simp [p3]), fun _ => ?_⟩
          conv => whnf
          refine ⟨fun hok => ?_, fun hok => ?_⟩
          · conv => whnf
            exact ⟨rfl, rfl⟩
          have hok : mbOk ax ay az am bx bx' bz bm = true := by simpa using hok
          have hla : am.length ≤ 9 := (good_len (sqB_spec (by rw [mbOk, Bool.and_eq_true] at hok; exact hok.1)).1).2
          conv => whnf
          refine ⟨am.length, rfl, rfl, by simp [room]; omega, ?_⟩
          conv => whnf
          rw [sumTo_zero]
          refine aloopI tyOk mx (fun n : Nat => (⟨383, [(2, .c (.bool false)), (3, .ptr 0 0), (4, .ptr 1 0), (5, .ptr 2 0), (50, .own 3), (51, .c (.int .i64 (n)))], [(0, .cells 53 [.c (.int .i64 (ax)), .c (.int .i64 (ay)), .c (.int .i64 (az)), .t (.rows am)]), (1, .cells 53 [.c (.int .i64 (bx)), .c (.int .i64 (bx')), .c (.int .i64 (bz)), .t (.rows bm)]), (2, .cells 53 [.c (.int .i64 (if mbOk ax ay az am bx bx' bz bm = true then ax else 0)), .c (.int .i64 (if mbOk ax ay az am bx bx' bz bm = true then ay else 0)), .c (.int .i64 (if mbOk ax ay az am bx bx' bz bm = true then az + bz else 0)), .t (.rows (mbR ax ay az am bx bx' bz bm))]), (3, .rows 25 3 true (sumTo am.length n))], 4⟩ : St)) (fun n => n ≤ am.length) (fun n => am.length - n) 0 (Nat.zero_le _) (some [(0, .row 0), (1, .row 1), (2, .row 2), (3, .row 9)]) (by (refine ⟨rfl, rfl, ?_, ?_⟩ <;> ((repeat' (first | exact trivial | exact rfl | refine And.intro ?_ ?_)) <;> (try ((conv => whnf); first | refine vint ?_ | refine vboo ?_ | refine rint ?_ | refine rrow ?_ | skip)) <;> (try first | omega | (simp; done) | ((repeat rw [flts_closed _ (by assumption)]); exact vws_closed _ (by assumption)))))) (key hok)
        · clear five5
          conv => whnf
          refine ⟨fun hok => ?_, fun hok => ?_⟩
          · conv => whnf
            exact ⟨rfl, rfl⟩
          have hok : mbOk ax ay az am bx bx' bz bm = true := by simpa using hok
          have hla : am.length ≤ 9 := (good_len (sqB_spec (by rw [mbOk, Bool.and_eq_true] at hok; exact hok.1)).1).2
          conv => whnf
          refine ⟨am.length, rfl, rfl, by simp [room]; omega, ?_⟩
          conv => whnf
          rw [sumTo_zero]
          refine aloopI tyOk mx (fun n : Nat => (⟨383, [(2, .c (.bool false)), (3, .ptr 0 0), (4, .ptr 1 0), (5, .ptr 2 0), (50, .own 3), (51, .c (.int .i64 (n)))], [(0, .cells 53 [.c (.int .i64 (ax)), .c (.int .i64 (ay)), .c (.int .i64 (az)), .t (.rows am)]), (1, .cells 53 [.c (.int .i64 (bx)), .c (.int .i64 (bx')), .c (.int .i64 (bz)), .t (.rows bm)]), (2, .cells 53 [.c (.int .i64 (if mbOk ax ay az am bx bx' bz bm = true then ax else 0)), .c (.int .i64 (if mbOk ax ay az am bx bx' bz bm = true then ay else 0)), .c (.int .i64 (if mbOk ax ay az am bx bx' bz bm = true then az + bz else 0)), .t (.rows (mbR ax ay az am bx bx' bz bm))]), (3, .rows 25 3 true (sumTo am.length n))], 4⟩ : St)) (fun n => n ≤ am.length) (fun n => am.length - n) 0 (Nat.zero_le _) (some [(0, .row 0), (1, .row 1), (2, .row 2), (3, .row 7)]) (by (refine ⟨rfl, rfl, ?_, ?_⟩ <;> ((repeat' (first | exact trivial | exact rfl | refine And.intro ?_ ?_)) <;> (try ((conv => whnf); first | refine vint ?_ | refine vboo ?_ | refine rint ?_ | refine rrow ?_ | skip)) <;> (try first | omega | (simp; done) | ((repeat rw [flts_closed _ (by assumption)]); exact vws_closed _ (by assumption)))))) (key hok)
  case x =>
    intro hok
    obtain ⟨rfl, rfl, ga, gb, gm, hl, hW, hQ⟩ := mix_facts hok
    have hla := good_len ga
    have wa : woOk ax ay az am (sumF' am.length) = true := by rw [woOk, ga, sum_fn ga]; rfl
    have wb : woOk ax ay bz bm (sumF' am.length) = true := by rw [woOk, gb, sum_fn ga]; rfl
    have wm : woOk ax ay (az + bz) (mbR ax ay az am ax ay bz bm) (sumF' am.length) = true := by rw [woOk, gm, sum_fn ga]; rfl
    have va : woV ax ay az am (sumF' am.length) = worthF (sumF' am.length) am := if_pos wa
    have vb : woV ax ay bz bm (sumF' am.length) = worthF (sumF' am.length) bm := if_pos wb
    have vm : woV ax ay (az + bz) (mbR ax ay az am ax ay bz bm) (sumF' am.length) = worthF (sumF' am.length) (mbR ax ay az am ax ay bz bm) := if_pos wm
    have ks : SzM (sumF' am.length) := SzM.of (sumF_bd hla.2)
    have km := SzM.of (mb_bd ax ay az am ax ay bz bm)
    generalize hR : mbR ax ay az am ax ay bz bm = mr at *
    rw [if_pos hok, if_pos hok, if_pos hok]
    intro n hn
    refine ⟨fun h => ?_, fun h => ?_⟩
    · have h : n < am.length := by have := ltT h; rw [sumTo_len hn] at this; exact this
      conv => whnf
      refine ⟨n, rfl, by rw [sumTo_len hn]; exact h, ?_⟩
      conv => whnf
      rw [nat_wrap (by omega)]
      refine ⟨n + 1, some [(0, .row 0), (1, .row 1), (2, .row 2), (3, .row 3)], ?_, by omega, by omega⟩
      rw [← sumTo_set h rfl]
      (refine ⟨rfl, rfl, ?_, ?_⟩ <;> ((repeat' (first | exact trivial | exact rfl | refine And.intro ?_ ?_)) <;> (try ((conv => whnf); first | refine vint ?_ | refine vboo ?_ | refine rint ?_ | refine rrow ?_ | skip)) <;> (try first | omega | (simp; done) | ((repeat rw [flts_closed _ (by assumption)]); exact vws_closed _ (by assumption)))))
    · have h := ltF h
      rw [sumTo_len hn] at h
      obtain rfl : n = am.length := by omega
      rw [sumTo_end]
      conv => whnf
      refine ACall.use (WorthOf_i ax ay az am (sumF' am.length) ham.ok.2 ks) ?_
      conv => whnf
      refine ACall.use (WorthOf_i ax ay bz bm (sumF' am.length) hbm.ok.2 ks) ?_
      conv => whnf
      refine ACall.use (WorthOf_i ax ay (az + bz) mr (sumF' am.length) km ks) ?_
      conv => whnf
      refine ACall.use (IsQuiet_i ax ay az am ham.ok.2) ?_
      conv => whnf
      refine ACall.use (IsQuiet_i ax ay bz bm hbm.ok.2) ?_
      conv => whnf
      refine ACall.use (IsQuiet_i ax ay (az + bz) mr km) ?_
      conv => whnf
      refine ⟨fun _ => ?_, fun h => absurd h (by simp [wa])⟩
      conv => whnf
      refine ⟨fun _ => ?_, fun h => absurd h (by simp [wb])⟩
      conv => whnf
      refine ⟨fun _ => ?_, fun h => absurd h (by simp [wm])⟩
      conv => whnf
      refine ⟨fun _ => ?_, fun h => absurd h (by simp [ga])⟩
      conv => whnf
      refine ⟨fun _ => ?_, fun h => absurd h (by simp [gb])⟩
      conv => whnf
      refine ⟨fun _ => ?_, fun h => absurd h (by simp [gm])⟩
      conv => whnf
      rw [va, vb, vm]
      refine ⟨fun _ => ?_, fun h => absurd h (by simp only [beq_eq_false_iff_ne, ne_eq]; exact fun h => h hW)⟩
      conv => whnf
      refine ⟨fun q1 => ?_, fun q1 => ?_⟩
      · have q1 : quietB ax ay az am = true := by simpa using q1
        conv => whnf
        refine ⟨fun q2 => ?_, fun q2 => ?_⟩
        · have q2 : quietB ax ay bz bm = true := by simpa using q2
          conv => whnf
          exact ⟨by rw [hQ q1 q2], rfl⟩
        · conv => whnf
          exact ⟨rfl, rfl⟩
      · (repeat (conv => whnf); (first | refine ⟨fun h => absurd h (by decide), fun _ => ?_⟩ | refine ⟨fun _ => ?_, fun h => absurd h (by decide)⟩)); conv => whnf
        exact ⟨rfl, rfl⟩
end Go.Proofs.Ytkomndcehdneaaa
