/- FnBoxScores, walked. -/
import Derived.Test.YtkomndcehdneaaaM4
import Derived.Test.YtkomndcehdneaaaM12
namespace Go.Proofs.Ytkomndcehdneaaa
open Go.Aw
set_option maxRecDepth 100000
set_option maxHeartbeats 16000000

theorem mp_of {a b : Prop} (f : a → b) (x : a) : b := f x
theorem mp_of2 {h a b : Prop} (f : (h → a) → b) (x : h → a) : b := f x
theorem SzM.of {m : List (List Int)} (h : m.length ≤ 1000 ∧ tot m ≤ 1000) : SzM m := by unfold SzM; omega
theorem good_row {x y z : Int} {m : List (List Int)} (h : goodB x y z m = true) {r : List Int} (hr : r ∈ m) : r.length = 4 := by
  obtain ⟨na, nb, _, _, _, _, _, _, _, _, _, _, g9⟩ := goodB_spec h
  exact (g9 r hr).1
theorem good_sz {x y z : Int} {m : List (List Int)} (h : goodB x y z m = true) : SzM m := by
  have h1 := (good_len h).2
  have h2 := tot_le_mul (m := m) (n := 4) (fun r hr => by rw [good_row h hr]; omega)
  have : m.length * 4 ≤ 9 * 4 := Nat.mul_le_mul_right 4 h1
  exact SzM.of (by omega)
theorem good_ok {x y z : Int} {m : List (List Int)} (h : goodB x y z m = true) : OkM m := by
  have h1 := (good_len h).2
  obtain ⟨na, nb, _, _, _, _, _, _, g5, g6, _, _, g9⟩ := goodB_spec h
  refine ⟨by omega, fun r hr => ⟨by have := (g9 r hr).1; omega, fun v hv => ?_⟩⟩
  have := (g9 r hr).2.1 v hv
  unfold InR; omega
theorem ite_inr {c : Bool} {x : Int} (h : InR x) : InR (if c = true then x else 0) := by split; exact h; exact inr0
theorem nz_ok (x y : Int) : OkM (nzR x y 1) := by
  unfold nzR; split
  · rename_i h
    simp only [nzOk, Bool.and_eq_true] at h
    obtain ⟨nx, ny, rfl, rfl, x1, x3, y1, y3, _, _⟩ := szOk_nat h.1
    have hn : nx * ny ≤ 3 * 3 := Nat.mul_le_mul x3 y3
    rw [Int.toNat_natCast, Int.toNat_natCast]
    refine ⟨by rw [boxRows_len]; omega, fun r hr => ⟨by have := boxRows_rows _ _ _ r hr; omega, fun v hv => ?_⟩⟩
    rw [boxRows, List.mem_flatMap] at hr
    obtain ⟨i, _, hr⟩ := hr
    obtain ⟨k, _, rfl⟩ := List.mem_map.1 hr
    obtain ⟨q, _, rfl⟩ := List.mem_map.1 hv
    show InR 1
    unfold InR; omega
  · exact ⟨by simp, fun v hv => by simp at hv⟩
theorem win_ok {so : List Int} (h : so.length ≤ 16) (hv : ∀ v, v ∈ so → InR v) : OkM (winsOf so) ∧ SzM (winsOf so) := by
  have h1 : (winsOf so).length = so.length := by simp [winsOf]
  have h2 := tot_le_mul (m := winsOf so) (n := 4) (fun r hr => by obtain ⟨i, _, rfl⟩ := List.mem_map.1 hr; exact Nat.le_refl 4)
  have : (winsOf so).length * 4 ≤ 16 * 4 := Nat.mul_le_mul_right 4 (by omega)
  refine ⟨⟨by omega, fun r hr => ?_⟩, SzM.of (by omega)⟩
  obtain ⟨n, hn, rfl⟩ := List.mem_map.1 hr
  refine ⟨show 4 ≤ 9223372036854775807 by omega, fun v hv' => ?_⟩
  simp only [winR, List.mem_cons, List.not_mem_nil, or_false] at hv'
  rcases hv' with rfl | rfl | rfl | rfl
  · exact W_inr _
  · exact hv _ hn
  · exact hv _ hn
  · exact W_inr _

theorem fn_sz {x y : Int} {s : List Int} {m : List (List Int)} (h : goodG x y s m = true) : SzM (gfRes x y s m) := by
  rw [gfRes, if_pos h]
  obtain ⟨nx, ny, _, _, _, _, _, _, l1, l2, l3, _, _, r3⟩ := goodG_spec h
  have h1 : (funG s m).length = m.length := by simp [funG]
  have h2 := tot_le_mul (m := funG s m) (n := 4) (fun r hr => by have := funG_rows (fun r hr => (r3 r hr).1) r hr; omega)
  have : (funG s m).length * 4 ≤ 9 * 4 := Nat.mul_le_mul_right 4 (by omega)
  exact SzM.of (by omega)
theorem po_len {x y z : Int} {m : List (List Int)} (h : goodB x y z m = true) : (if pfOk x y z m = true then poV x y z m else []).length ≤ 6 := by
  obtain ⟨nx, ny, rfl, rfl, g1, g2, g3, g4, _⟩ := goodB_spec h
  split
  · rw [poV, pofL_len, Int.toNat_natCast, Int.toNat_natCast]; omega
  · simp
theorem po_ok {x y z : Int} {m : List (List Int)} (h : goodB x y z m = true) : OkI (if pfOk x y z m = true then poV x y z m else []) := by
  have hl := po_len h
  refine ⟨by omega, fun v hv => ?_⟩
  split at hv
  · have := pofL_01 h v hv
    unfold InR; omega
  · simp at hv

theorem FnBoxScores_spec (code : List Int) (hc : OkB code) : FSpec Try.prog 7 [.t (.ints .u8 code)] (ex (.c (.bool true)) []) := by
  refine fspec tyOk mx Try.func7 rfl (by kernel_rfl) rfl ?_
  conv => whnf
  refine ACall.use (rBig_spec code) ?_
  refine ⟨fun h => ?_, fun h => ?_⟩
  · conv => whnf
    exact ⟨rfl, rfl⟩
  clear h
  conv => whnf
  refine ACall.use' (DrawBoxScore_spec code hc) ?_
  rintro v hr ⟨rfl, gx, gy, gw, gm, bx, by', bz, bm, hgx, hgy, hgs, hbx, hby, hbz, hbm, rfl⟩
  obtain ⟨og1, og2, kg1, kg2⟩ := hgs.ok
  conv => whnf
  refine ACall.use (BoxScore_i gx gy gw gm hgx hgy og1 og2 kg1 kg2 bx by' bz bm hbx hby hbz hbm.ok.1 hbm.ok.2) ?_
  conv => whnf
  refine ACall.use (BoxScore_s gx gy gw gm hgx hgy og1 og2 kg1 kg2 bx by' bz bm hbx hby hbz hbm.ok.1 hbm.ok.2) ?_
  conv => whnf
  refine ⟨fun _ => ?_, fun h => absurd h (by simp [])⟩
  conv => whnf
  refine ⟨fun h => absurd h (by simp []), fun _ => ?_⟩
  conv => whnf
  refine ACall.use (GameFunctional_i gx gy gw gm hgx hgy og1 og2 kg1 kg2) ?_
  conv => whnf
  refine ACall.use (GameFunctional_s gx gy gw gm hgx hgy og1 og2 kg1 kg2) ?_
  conv => whnf
  have gb := GameFunctional_bd gx gy gw gm hgx hgy og1 og2 kg1 kg2
  refine ⟨fun _ => ?_, fun h => absurd h (by simp [])⟩
  conv => whnf
  have rt := rTable_spec (gfRes gx gy gw gm) (gfRes gx gy gw gm) (by omega) (fun r hr => by have := tot_mem hr; omega)
  apply mp_of
  case f =>
    intro key
    refine ⟨fun ho => ?_, fun ho => ?_⟩
    · have hg := (bs_worth ho).1
      conv => whnf
      refine ⟨fun _ => ?_, fun h => absurd h (by simp [hg])⟩
      conv => whnf
      refine ACall.use rt ?_
      conv => whnf
      refine ⟨fun h => absurd h (by simp []), fun _ => ?_⟩
      conv => whnf
      refine ACallS.view (R := [(0, .row 0), (1, .row 1)]) (args' := [.t (.ints .u8 code)]) (st' := (⟨297, [(0, .t (.ints .u8 code)), (2, .c (.bool false)), (3, .ptr 0 0), (4, .ptr 1 0), (5, .c (.int .i64 (gbV gx gy gw gm bx by' bz bm))), (6, .c (.bool (gbOk gx gy gw gm bx by' bz bm))), (9, .t (.rows (gfRes gx gy gw gm)))], [(0, .cells 84 [.c (.int .i64 (gx)), .c (.int .i64 (gy)), .t (.ints .i64 gw), .t (.rows gm)]), (1, .cells 53 [.c (.int .i64 (bx)), .c (.int .i64 (by')), .c (.int .i64 (bz)), .t (.rows bm)])], 2⟩ : St)) (by refine ⟨rfl, rfl, ?_, ?_⟩ <;> ((repeat' (first | exact trivial | exact rfl | refine And.intro ?_ ?_)) <;> (try ((conv => whnf); first | refine vint ?_ | refine vboo ?_ | refine rint ?_ | refine rrow ?_ | skip)) <;> (try first | omega | (simp; done) | ((repeat rw [flts_closed _ (by assumption)]); exact vws_closed _ (by assumption))))) ⟨rfl, trivial⟩ ?_
      exact key
    · (repeat (conv => whnf); (first | refine ⟨fun h => absurd h (by decide), fun _ => ?_⟩ | refine ⟨fun _ => ?_, fun h => absurd h (by decide)⟩)); conv => whnf
      refine ACall.use rt ?_
      conv => whnf
      refine ⟨fun h => absurd h (by simp []), fun _ => ?_⟩
      conv => whnf
      refine ACallS.view (R := [(0, .row 0), (1, .row 1)]) (args' := [.t (.ints .u8 code)]) (st' := (⟨297, [(0, .t (.ints .u8 code)), (2, .c (.bool false)), (3, .ptr 0 0), (4, .ptr 1 0), (5, .c (.int .i64 (gbV gx gy gw gm bx by' bz bm))), (6, .c (.bool (gbOk gx gy gw gm bx by' bz bm))), (9, .t (.rows (gfRes gx gy gw gm)))], [(0, .cells 84 [.c (.int .i64 (gx)), .c (.int .i64 (gy)), .t (.ints .i64 gw), .t (.rows gm)]), (1, .cells 53 [.c (.int .i64 (bx)), .c (.int .i64 (by')), .c (.int .i64 (bz)), .t (.rows bm)])], 2⟩ : St)) (by refine ⟨rfl, rfl, ?_, ?_⟩ <;> ((repeat' (first | exact trivial | exact rfl | refine And.intro ?_ ?_)) <;> (try ((conv => whnf); first | refine vint ?_ | refine vboo ?_ | refine rint ?_ | refine rrow ?_ | skip)) <;> (try first | omega | (simp; done) | ((repeat rw [flts_closed _ (by assumption)]); exact vws_closed _ (by assumption))))) ⟨rfl, trivial⟩ ?_
      exact key
  case x =>
    refine ACall.use' (DrawPlayScore_spec code hc) ?_
    rintro v hr ⟨rfl, hx, hy, hw, hm, p, hhx, hhy, hhs, hpl, hpi, rfl⟩
    obtain ⟨oh1, oh2, kh1, kh2⟩ := hhs.ok
    have kp : SzI p := by unfold SzI; omega
    have op : OkI p := ⟨by omega, hpi⟩
    conv => whnf
    refine ACall.use (PlayScore_i hx hy hw hm hhx hhy oh1 oh2 kh1 kh2 p op kp) ?_
    conv => whnf
    refine ACall.use (PlayScore_s hx hy hw hm hhx hhy oh1 oh2 kh1 kh2 p op kp) ?_
    conv => whnf
    refine ⟨fun _ => ?_, fun h => absurd h (by simp [])⟩
    conv => whnf
    refine ⟨fun h => absurd h (by simp []), fun _ => ?_⟩
    conv => whnf
    refine ACall.use (LostPairs_i hx hy hw hm hhx hhy oh1 oh2 kh1 kh2 p op kp) ?_
    conv => whnf
    refine ACall.use (LostPairs_s hx hy hw hm hhx hhy oh1 oh2 kh1 kh2 p op kp) ?_
    conv => whnf
    have lb := LostPairs_bd hx hy hw hm hhx hhy oh1 oh2 kh1 kh2 p op kp
    refine ⟨fun _ => ?_, fun h => absurd h (by simp [])⟩
    conv => whnf
    refine ⟨fun _ => ?_, fun h => absurd h (by simp [])⟩
    conv => whnf
    refine ACall.use (rInts_spec (lostRes hx hy hw hm p) (lostRes hx hy hw hm p) (by omega)) ?_
    conv => whnf
    refine ⟨fun h => absurd h (by simp []), fun _ => ?_⟩
    conv => whnf
    refine ACallS.view (R := [(0, .row 0), (1, .row 1), (2, .row 2)]) (args' := [.t (.ints .u8 code)]) (st' := (⟨297, [(0, .t (.ints .u8 code)), (2, .c (.bool false)), (3, .ptr 0 0), (4, .ptr 1 0), (5, .c (.int .i64 (gbV gx gy gw gm bx by' bz bm))), (6, .c (.bool (gbOk gx gy gw gm bx by' bz bm))), (9, .t (.rows (gfRes gx gy gw gm))), (13, .ptr 2 0), (14, .t (.ints .i64 p)), (15, .c (.int .i64 (psF hx hy hw hm p))), (16, .c (.bool (isGP hx hy hw hm p)))], [(0, .cells 84 [.c (.int .i64 (gx)), .c (.int .i64 (gy)), .t (.ints .i64 gw), .t (.rows gm)]), (1, .cells 53 [.c (.int .i64 (bx)), .c (.int .i64 (by')), .c (.int .i64 (bz)), .t (.rows bm)]), (2, .cells 84 [.c (.int .i64 (hx)), .c (.int .i64 (hy)), .t (.ints .i64 hw), .t (.rows hm)])], 3⟩ : St)) (by refine ⟨rfl, rfl, ?_, ?_⟩ <;> ((repeat' (first | exact trivial | exact rfl | refine And.intro ?_ ?_)) <;> (try ((conv => whnf); first | refine vint ?_ | refine vboo ?_ | refine rint ?_ | refine rrow ?_ | skip)) <;> (try first | omega | (simp; done) | ((repeat rw [flts_closed _ (by assumption)]); exact vws_closed _ (by assumption))))) ⟨rfl, trivial⟩ ?_
    refine ACall.use' (DrawSignGame_spec code hc) ?_
    rintro v hr ⟨rfl, sx, sy, sw, so, hsx, hsy, hsl, hsi, hol, hoi, rfl⟩
    have ksw : SzI sw := by unfold SzI; omega
    have kso : SzI so := by unfold SzI; omega
    have osw : OkI sw := ⟨by omega, hsi⟩
    obtain ⟨owin, kwin⟩ := win_ok hol hoi
    conv => whnf
    refine ACall.use (SignGame_i sx sy sw so ksw kso) ?_
    conv => whnf
    refine ACall.use (SignGame_s sx sy sw so ksw kso) ?_
    conv => whnf
    refine ⟨fun _ => ?_, fun h => absurd h (by simp [])⟩
    conv => whnf
    have four4 : sgOk sx sy sw so = true → nzOk sx sy 1 = true ∧ goodG (if sgOk sx sy sw so = true then sx else 0) (if sgOk sx sy sw so = true then sy else 0) (if sgOk sx sy sw so = true then sw else []) (if sgOk sx sy sw so = true then winsOf so else []) = true ∧
        gbOk (if sgOk sx sy sw so = true then sx else 0) (if sgOk sx sy sw so = true then sy else 0) (if sgOk sx sy sw so = true then sw else []) (if sgOk sx sy sw so = true then winsOf so else []) (if nzOk sx sy 1 = true then sx else 0) (if nzOk sx sy 1 = true then sy else 0) (if nzOk sx sy 1 = true then 4 * 1 else 0) (nzR sx sy 1) = true ∧
        gbV (if sgOk sx sy sw so = true then sx else 0) (if sgOk sx sy sw so = true then sy else 0) (if sgOk sx sy sw so = true then sw else []) (if sgOk sx sy sw so = true then winsOf so else []) (if nzOk sx sy 1 = true then sx else 0) (if nzOk sx sy 1 = true then sy else 0) (if nzOk sx sy 1 = true then 4 * 1 else 0) (nzR sx sy 1) = IntKind.i64.wrap (2 * (if goodG (if sgOk sx sy sw so = true then sx else 0) (if sgOk sx sy sw so = true then sy else 0) (if sgOk sx sy sw so = true then sw else []) (if sgOk sx sy sw so = true then winsOf so else []) = true then sumF (if sgOk sx sy sw so = true then sw else []) (if sgOk sx sy sw so = true then sw else []).length else 0)) ∧ SzM (nzR sx sy 1) := fun h4 => by
      obtain ⟨n1, n2, n3, n4⟩ := bs_noise h4
      rw [if_pos h4, if_pos h4, if_pos h4, if_pos h4, if_pos n1, if_pos n1, if_pos n1, if_pos n2]
      exact ⟨n1, n2, n3, n4, good_sz (bs_worth n3).2.1⟩
    have in1 : InR (if nzOk sx sy 1 = true then sx else 0) := ite_inr hsx
    have in2 : InR (if nzOk sx sy 1 = true then sy else 0) := ite_inr hsy
    have in3 : InR (if nzOk sx sy 1 = true then 4 * 1 else 0) := ite_inr (by unfold InR; omega)
    have in4 : OkM (nzR sx sy 1) := nz_ok sx sy
    have is1 : InR (if sgOk sx sy sw so = true then sx else 0) := ite_inr hsx
    have is2 : InR (if sgOk sx sy sw so = true then sy else 0) := ite_inr hsy
    have os1 : OkI (if sgOk sx sy sw so = true then sw else []) := by split; exact osw; exact ⟨by simp, fun v hv => by simp at hv⟩
    have os2 : OkM (if sgOk sx sy sw so = true then winsOf so else []) := by split; exact owin; exact ⟨by simp, fun v hv => by simp at hv⟩
    have ks1 : SzI (if sgOk sx sy sw so = true then sw else []) := by split; exact ksw; exact Nat.zero_le _
    have ks2 : SzM (if sgOk sx sy sw so = true then winsOf so else []) := by split; exact kwin; exact SzM.of (by simp [tot])
    refine ACall.use (rGame_spec _ _ _ _ _ _ os1.1 os2.1 (fun r hr => (os2.2 r hr).1)) ?_
    conv => whnf
    refine ⟨fun h => absurd h (by simp []), fun _ => ?_⟩
    conv => whnf
    have two2 : isGP hx hy hw hm p = true → plOk hx hy p 3 = true ∧ gbOk hx hy hw hm (if plOk hx hy p 3 = true then hx else 0) (if plOk hx hy p 3 = true then hy else 0) (if plOk hx hy p 3 = true then 3 else 0) (plR hx hy p 3) = true ∧ gbV hx hy hw hm (if plOk hx hy p 3 = true then hx else 0) (if plOk hx hy p 3 = true then hy else 0) (if plOk hx hy p 3 = true then 3 else 0) (plR hx hy p 3) = IntKind.i64.wrap (3 * psF hx hy hw hm p) ∧ SzM (plR hx hy p 3) ∧
        InR (if plOk hx hy p 3 = true then hx else 0) ∧ InR (if plOk hx hy p 3 = true then hy else 0) ∧ InR (if plOk hx hy p 3 = true then 3 else 0) ∧ OkM (plR hx hy p 3) := fun h2 => by
      obtain ⟨p1, p2, p3⟩ := bs_play h2 (w := 3) (by omega) (by omega)
      have hg := (bs_worth p2).2.1
      rw [if_pos p1, if_pos p1, if_pos p1]
      exact ⟨p1, p2, p3, good_sz hg, hhx, hhy, by unfold InR; omega, good_ok hg⟩
    apply mp_of2 (h := gbOk gx gy gw gm bx by' bz bm = true)
    case f =>
      intro key
      refine ⟨fun h2 => ?_, fun h2 => ?_⟩
      · obtain ⟨p1, p2, p3, kpl, i1, i2, i3, i4⟩ := two2 h2
        conv => whnf
        refine ACall.use (PlayBox_i hx hy p 3 kp) ?_
        conv => whnf
        refine ACall.use (BoxScore_i hx hy hw hm hhx hhy oh1 oh2 kh1 kh2 _ _ _ (plR hx hy p 3) i1 i2 i3 i4 kpl) ?_
        conv => whnf
        refine ⟨fun _ => ?_, fun h => absurd h (by simp [p1])⟩
        conv => whnf
        refine ⟨fun _ => ?_, fun h => absurd h (by simp [p2])⟩
        conv => whnf
        rw [p3]
        refine ⟨fun h => absurd h (by simp []), fun _ => ?_⟩
        conv => whnf
        refine ⟨fun h4 => ?_, fun h4 => ?_⟩
        · obtain ⟨n1, n2, n3, n4, kn⟩ := four4 h4
          conv => whnf
          refine ACall.use (NoiseBox_i sx sy 1) ?_
          conv => whnf
          refine ACall.use (BoxScore_i _ _ _ _ is1 is2 os1 os2 ks1 ks2 _ _ _ (nzR sx sy 1) in1 in2 in3 in4 kn) ?_
          conv => whnf
          refine ACall.use (TotalWeight_i _ _ _ _ ks1 ks2) ?_
          conv => whnf
          refine ⟨fun _ => ?_, fun h => absurd h (by simp [n1])⟩
          conv => whnf
          refine ⟨fun _ => ?_, fun h => absurd h (by rw [n3]; decide)⟩
          conv => whnf
          refine ⟨fun _ => ?_, fun h => absurd h (by simp [n2])⟩
          conv => whnf
          rw [n4]
          refine ⟨fun h => absurd h (by simp []), fun _ => ?_⟩
          conv => whnf
          refine ⟨fun hok => ?_, fun hok => ?_⟩
          · conv => whnf
            exact ⟨rfl, rfl⟩
          · have hok : gbOk gx gy gw gm bx by' bz bm = true := by simpa using hok
            conv => whnf
            refine ACallS.view (R := [(0, .row 0), (1, .row 1)]) (args' := [.t (.rows (gfRes gx gy gw gm)), .ag [.c (.int .i64 (bx)), .c (.int .i64 (by')), .c (.int .i64 (bz)), .t (.rows bm)]]) (st' := (⟨297, [(2, .c (.bool false)), (3, .ptr 0 0), (4, .ptr 1 0), (5, .c (.int .i64 (gbV gx gy gw gm bx by' bz bm))), (6, .c (.bool (gbOk gx gy gw gm bx by' bz bm))), (9, .t (.rows (gfRes gx gy gw gm)))], [(0, .cells 84 [.c (.int .i64 (gx)), .c (.int .i64 (gy)), .t (.ints .i64 gw), .t (.rows gm)]), (1, .cells 53 [.c (.int .i64 (bx)), .c (.int .i64 (by')), .c (.int .i64 (bz)), .t (.rows bm)])], 2⟩ : St)) (by refine ⟨rfl, rfl, ?_, ?_⟩ <;> ((repeat' (first | exact trivial | exact rfl | refine And.intro ?_ ?_)) <;> (try ((conv => whnf); first | refine vint ?_ | refine vboo ?_ | refine rint ?_ | refine rrow ?_ | skip)) <;> (try first | omega | (simp; done) | ((repeat rw [flts_closed _ (by assumption)]); exact vws_closed _ (by assumption))))) ⟨rfl, ⟨rfl, rfl, rfl, rfl, trivial⟩, trivial⟩ ?_
            exact key hok
        · conv => whnf
          refine ⟨fun hok => ?_, fun hok => ?_⟩
          · conv => whnf
            exact ⟨rfl, rfl⟩
          · have hok : gbOk gx gy gw gm bx by' bz bm = true := by simpa using hok
            conv => whnf
            refine ACallS.view (R := [(0, .row 0), (1, .row 1)]) (args' := [.t (.rows (gfRes gx gy gw gm)), .ag [.c (.int .i64 (bx)), .c (.int .i64 (by')), .c (.int .i64 (bz)), .t (.rows bm)]]) (st' := (⟨297, [(2, .c (.bool false)), (3, .ptr 0 0), (4, .ptr 1 0), (5, .c (.int .i64 (gbV gx gy gw gm bx by' bz bm))), (6, .c (.bool (gbOk gx gy gw gm bx by' bz bm))), (9, .t (.rows (gfRes gx gy gw gm)))], [(0, .cells 84 [.c (.int .i64 (gx)), .c (.int .i64 (gy)), .t (.ints .i64 gw), .t (.rows gm)]), (1, .cells 53 [.c (.int .i64 (bx)), .c (.int .i64 (by')), .c (.int .i64 (bz)), .t (.rows bm)])], 2⟩ : St)) (by refine ⟨rfl, rfl, ?_, ?_⟩ <;> ((repeat' (first | exact trivial | exact rfl | refine And.intro ?_ ?_)) <;> (try ((conv => whnf); first | refine vint ?_ | refine vboo ?_ | refine rint ?_ | refine rrow ?_ | skip)) <;> (try first | omega | (simp; done) | ((repeat rw [flts_closed _ (by assumption)]); exact vws_closed _ (by assumption))))) ⟨rfl, ⟨rfl, rfl, rfl, rfl, trivial⟩, trivial⟩ ?_
            exact key hok
      · conv => whnf
        refine ⟨fun h4 => ?_, fun h4 => ?_⟩
        · obtain ⟨n1, n2, n3, n4, kn⟩ := four4 h4
          conv => whnf
          refine ACall.use (NoiseBox_i sx sy 1) ?_
          conv => whnf
          refine ACall.use (BoxScore_i _ _ _ _ is1 is2 os1 os2 ks1 ks2 _ _ _ (nzR sx sy 1) in1 in2 in3 in4 kn) ?_
          conv => whnf
          refine ACall.use (TotalWeight_i _ _ _ _ ks1 ks2) ?_
          conv => whnf
          refine ⟨fun _ => ?_, fun h => absurd h (by simp [n1])⟩
          conv => whnf
          refine ⟨fun _ => ?_, fun h => absurd h (by rw [n3]; decide)⟩
          conv => whnf
          refine ⟨fun _ => ?_, fun h => absurd h (by simp [n2])⟩
          conv => whnf
          rw [n4]
          refine ⟨fun h => absurd h (by simp []), fun _ => ?_⟩
          conv => whnf
          refine ⟨fun hok => ?_, fun hok => ?_⟩
          · conv => whnf
            exact ⟨rfl, rfl⟩
          · have hok : gbOk gx gy gw gm bx by' bz bm = true := by simpa using hok
            conv => whnf
            refine ACallS.view (R := [(0, .row 0), (1, .row 1)]) (args' := [.t (.rows (gfRes gx gy gw gm)), .ag [.c (.int .i64 (bx)), .c (.int .i64 (by')), .c (.int .i64 (bz)), .t (.rows bm)]]) (st' := (⟨297, [(2, .c (.bool false)), (3, .ptr 0 0), (4, .ptr 1 0), (5, .c (.int .i64 (gbV gx gy gw gm bx by' bz bm))), (6, .c (.bool (gbOk gx gy gw gm bx by' bz bm))), (9, .t (.rows (gfRes gx gy gw gm)))], [(0, .cells 84 [.c (.int .i64 (gx)), .c (.int .i64 (gy)), .t (.ints .i64 gw), .t (.rows gm)]), (1, .cells 53 [.c (.int .i64 (bx)), .c (.int .i64 (by')), .c (.int .i64 (bz)), .t (.rows bm)])], 2⟩ : St)) (by refine ⟨rfl, rfl, ?_, ?_⟩ <;> ((repeat' (first | exact trivial | exact rfl | refine And.intro ?_ ?_)) <;> (try ((conv => whnf); first | refine vint ?_ | refine vboo ?_ | refine rint ?_ | refine rrow ?_ | skip)) <;> (try first | omega | (simp; done) | ((repeat rw [flts_closed _ (by assumption)]); exact vws_closed _ (by assumption))))) ⟨rfl, ⟨rfl, rfl, rfl, rfl, trivial⟩, trivial⟩ ?_
            exact key hok
        · conv => whnf
          refine ⟨fun hok => ?_, fun hok => ?_⟩
          · conv => whnf
            exact ⟨rfl, rfl⟩
          · have hok : gbOk gx gy gw gm bx by' bz bm = true := by simpa using hok
            conv => whnf
            refine ACallS.view (R := [(0, .row 0), (1, .row 1)]) (args' := [.t (.rows (gfRes gx gy gw gm)), .ag [.c (.int .i64 (bx)), .c (.int .i64 (by')), .c (.int .i64 (bz)), .t (.rows bm)]]) (st' := (⟨297, [(2, .c (.bool false)), (3, .ptr 0 0), (4, .ptr 1 0), (5, .c (.int .i64 (gbV gx gy gw gm bx by' bz bm))), (6, .c (.bool (gbOk gx gy gw gm bx by' bz bm))), (9, .t (.rows (gfRes gx gy gw gm)))], [(0, .cells 84 [.c (.int .i64 (gx)), .c (.int .i64 (gy)), .t (.ints .i64 gw), .t (.rows gm)]), (1, .cells 53 [.c (.int .i64 (bx)), .c (.int .i64 (by')), .c (.int .i64 (bz)), .t (.rows bm)])], 2⟩ : St)) (by refine ⟨rfl, rfl, ?_, ?_⟩ <;> ((repeat' (first | exact trivial | exact rfl | refine And.intro ?_ ?_)) <;> (try ((conv => whnf); first | refine vint ?_ | refine vboo ?_ | refine rint ?_ | refine rrow ?_ | skip)) <;> (try first | omega | (simp; done) | ((repeat rw [flts_closed _ (by assumption)]); exact vws_closed _ (by assumption))))) ⟨rfl, ⟨rfl, rfl, rfl, rfl, trivial⟩, trivial⟩ ?_
            exact key hok
    case x =>
      intro hok
      obtain ⟨w1, w2, _, _, w3, w4⟩ := bs_worth hok
      have kf : SzM (gfRes gx gy gw gm) := fn_sz w1
      refine ACall.use (WorthOf_i bx by' bz bm (gfRes gx gy gw gm) hbm.ok.2 kf) ?_
      conv => whnf
      refine ⟨fun _ => ?_, fun h => absurd h (by simp [w3])⟩
      conv => whnf
      rw [w4]
      refine ⟨fun h => absurd h (by simp []), fun _ => ?_⟩
      conv => whnf
      refine ACall.use (PlayOf_i bx by' bz bm hbm.ok.2) ?_
      conv => whnf
      refine ACall.use (PlayOf_s bx by' bz bm hbm.ok.2) ?_
      conv => whnf
      have pl : (if pfOk bx by' bz bm = true then poV bx by' bz bm else []).length ≤ 6 := po_len w2
      refine ⟨fun _ => ?_, fun h => absurd h (by simp [])⟩
      conv => whnf
      refine ACall.use (rInts_spec (if pfOk bx by' bz bm = true then poV bx by' bz bm else []) (if pfOk bx by' bz bm = true then poV bx by' bz bm else []) (by omega)) ?_
      conv => whnf
      refine ⟨fun h => absurd h (by simp []), fun _ => ?_⟩
      conv => whnf
      refine ⟨fun h6 => ?_, fun h6 => ?_⟩
      · obtain ⟨t1, t2⟩ := bs_told hok h6
        have pi : OkI (if pfOk bx by' bz bm = true then poV bx by' bz bm else []) := po_ok w2
        have pk : SzI (if pfOk bx by' bz bm = true then poV bx by' bz bm else []) := by unfold SzI; omega
        have e : (if pfOk bx by' bz bm = true then poV bx by' bz bm else []) = poV bx by' bz bm := if_pos h6
        rw [← e] at t1 t2
        conv => whnf
        refine ACall.use (PlayScore_i gx gy gw gm hgx hgy og1 og2 kg1 kg2 _ pi pk) ?_
        conv => whnf
        refine ⟨fun _ => ?_, fun h => absurd h (by simp [t1])⟩
        conv => whnf
        refine ⟨?_, rfl⟩
        rw [show IntKind.i64.wrap (psF gx gy gw gm (if pfOk bx by' bz bm = true then poV bx by' bz bm else []) * bz) = gbV gx gy gw gm bx by' bz bm from t2]
        simp
      · conv => whnf
        exact ⟨rfl, rfl⟩
end Go.Proofs.Ytkomndcehdneaaa
