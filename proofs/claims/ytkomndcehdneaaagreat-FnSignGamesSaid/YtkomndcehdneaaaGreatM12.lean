/- FnSignGames, walked. -/
import Derived.Test.YtkomndcehdneaaaGreatM4
import Derived.Test.YtkomndcehdneaaaGreatM11
import Derived.Test.YtkomndcehdneaaaGreatM2
namespace Go.Proofs.YtkomndcehdneaaaGreat
open Go.Aw
set_option maxRecDepth 100000
set_option maxHeartbeats 16000000

theorem mp_of2 {h a b : Prop} (f : (h → a) → b) (x : h → a) : b := f x
theorem best_bd (m : List (List Int)) : (bestRr m).length ≤ 3 ∧ (bestPr m).length ≤ 3 := by
  by_cases hg : goodM m = true
  · obtain ⟨g1, g2, g3, g4, g5⟩ := goodM_spec hg
    have := sg_best hg
    omega
  · have e : goodM m = false := by simpa using hg
    rw [bestRr, bestPr, e]
    exact ⟨Nat.zero_le _, Nat.zero_le _⟩
theorem good_sm {m : List (List Int)} (hg : goodM m = true) : SmM m := by
  obtain ⟨g1, g2, g3, g4, g5⟩ := goodM_spec hg
  exact ⟨by omega, fun r hr => ⟨by have := (g5 r hr).1; omega, fun x hx => by have := (g5 r hr).2 x hx; unfold InR; omega⟩⟩
theorem switch_bd (m : List (List Int)) (p q : List Int) : SmM (switchRes m p q) := by
  by_cases h : switchOk m p q = true
  · exact good_sm (sg_switch h).2.1
  · rw [switchRes, if_neg h]
    exact ⟨by simp, fun r hr => by simp at hr⟩
theorem sm_len {m : List (List Int)} (h : SmM m) : m.length ≤ 9223372036854775807 ∧ ∀ r, r ∈ m → r.length ≤ 9223372036854775807 :=
  ⟨by have := h.1; omega, fun r hr => by have := (h.2 r hr).1; omega⟩

theorem tdiv_natS (a b : Nat) (h : a ≤ 1000000) : IntKind.i64.wrap (Int.tdiv (a : Int) (b : Int)) = ((a / b : Nat) : Int) := by
  rw [show Int.tdiv (a : Int) (b : Int) = ((a / b : Nat) : Int) from (Int.ofNat_tdiv a b).symm]
  have h1 := Nat.div_le_self a b
  generalize a / b = c at h1
  exact w64 (by omega) (by omega)
theorem tmod_natS (a b : Nat) : Int.tmod (a : Int) (b : Int) = ((a % b : Nat) : Int) := (Int.ofNat_tmod a b).symm
theorem fnl_sz {m : List (List Int)} (hg : goodM m = true) : SzM (functionalL m) := by
  obtain ⟨g1, g2, g3, g4, g5⟩ := goodM_spec hg
  have hl := sg_len m (m.getD 0 []).length fun r hr => (g5 r hr).1
  have h9 : m.length * (m.getD 0 []).length ≤ 3 * 3 := Nat.mul_le_mul g2 g4
  have h2 := tot_le_mul (m := functionalL m) (n := 4) (fun r hr => by
    obtain ⟨row, _, h⟩ := List.mem_flatMap.1 hr
    obtain ⟨n, _, rfl⟩ := List.mem_map.1 h
    exact Nat.le_refl 4)
  have : (functionalL m).length * 4 ≤ 9 * 4 := Nat.mul_le_mul_right 4 (by omega)
  unfold SzM; omega
theorem smb_ok {m : List (List Int)} (h : SmB m) : OkM m ∧ SzM m := by
  refine ⟨⟨by have := h.1; omega, fun r hr => ⟨by have := (h.2 r hr).1; omega, (h.2 r hr).2⟩⟩, ?_⟩
  have h1 := tot_le_mul (m := m) (n := 4) (fun r hr => (h.2 r hr).1)
  have h2 := h.1
  have : m.length * 4 ≤ 17 * 4 := Nat.mul_le_mul_right 4 h2
  unfold SzM; omega
theorem FnSignGames_spec (code : List Int) (hc : OkB code) : FSpec Tryz.prog 5 [.t (.ints .u8 code)] (ex (.c (.bool true)) []) := by
  refine fspec tyOk mx Tryz.func5 rfl (by kernel_rfl) rfl ?_
  conv => whnf
  refine ACall.use (vBig_spec code) ?_
  refine ⟨fun h => ?_, fun h => ?_⟩
  · conv => whnf
    exact ⟨rfl, rfl⟩
  have hlen : code.length ≤ 65536 := by have := of_decide_eq_false h; omega
  clear h
  conv => whnf
  refine ACall.use' (DrawSignBias_spec code hc) ?_
  rintro v hr ⟨rfl, m, hm, rfl⟩
  obtain ⟨okm, szm⟩ := hm.ok
  have bb := best_bd m
  have fb := SignFunctional_bd m okm szm
  conv => whnf
  refine ACall.use (SignBias_i m okm szm) ?_
  conv => whnf
  refine ACall.use (SignBias_s m okm szm) ?_
  conv => whnf
  refine ACall.use ((BestSigns_i m okm szm).told (x' := .tu [.t (.ints .i64 (bestRr m)), .t (.ints .i64 (bestPr m)), .c (.bool (goodM m))]) ⟨⟨rfl, rfl⟩, ⟨rfl, rfl⟩, rfl, trivial⟩) ?_
  conv => whnf
  refine ACall.use ((BestSigns_s m okm szm).told (x' := .tu [.t (.ints .i64 (bestRr m)), .t (.ints .i64 (bestPr m)), .c (.bool (goodM m))]) ⟨⟨rfl, rfl⟩, ⟨rfl, rfl⟩, rfl, trivial⟩) ?_
  conv => whnf
  refine ACall.use (CutOf_i m okm szm) ?_
  conv => whnf
  refine ACall.use (CutOf_s m okm szm) ?_
  conv => whnf
  refine ACall.use ((SignFunctional_i m okm szm).told (x' := .tu [.t (.rows (fnRes m)), .c (.bool (goodM m))]) ⟨⟨rfl, rfl⟩, rfl, trivial⟩) ?_
  conv => whnf
  refine ACall.use ((SignFunctional_s m okm szm).told (x' := .tu [.t (.rows (fnRes m)), .c (.bool (goodM m))]) ⟨⟨rfl, rfl⟩, rfl, trivial⟩) ?_
  conv => whnf
  refine ACall.use' (vCut_spec code hc hlen 1 (by omega)) ?_
  rintro v hr ⟨rfl, c1, hc1, rfl⟩
  conv => whnf
  refine ACall.use' (DrawSwitchSigns_spec c1 hc1) ?_
  rintro v hr ⟨rfl, n, p, q, hn, ⟨lp, ip⟩, ⟨lq, iq⟩, rfl⟩
  obtain ⟨okn, szn⟩ := hn.ok
  have okp : OkI p := ⟨by omega, ip⟩
  have okq : OkI q := ⟨by omega, iq⟩
  have szp : SzI p := by unfold SzI; omega
  have szq : SzI q := by unfold SzI; omega
  have ht := switch_bd n p q
  conv => whnf
  refine ACall.use ((SwitchSigns_i n okn szn p okp szp q okq szq).told (x' := .tu [.t (.rows (switchRes n p q)), .c (.bool (switchOk n p q))]) ⟨⟨rfl, rfl⟩, rfl, trivial⟩) ?_
  conv => whnf
  refine ACall.use ((SwitchSigns_s n okn szn p okp szp q okq szq).told (x' := .tu [.t (.rows (switchRes n p q)), .c (.bool (switchOk n p q))]) ⟨⟨rfl, rfl⟩, rfl, trivial⟩) ?_
  conv => whnf
  refine ACall.use' (vCut_spec code hc hlen 2 (by omega)) ?_
  rintro v hr ⟨rfl, c2, hc2, rfl⟩
  conv => whnf
  refine ACall.use' (DrawSignWorth_spec c2 hc2) ?_
  rintro v hr ⟨rfl, g, x, y, z, bm, hgs, hx, hy, hz, hb, rfl⟩
  obtain ⟨okg, szg⟩ := hgs.ok
  obtain ⟨okb, szb⟩ := smb_ok hb
  conv => whnf
  refine ACall.use (SignWorth_i g okg szg x y z bm hx hy hz okb szb) ?_
  conv => whnf
  refine ACall.use (SignWorth_s g okg szg x y z bm hx hy hz okb szb) ?_
  conv => whnf
  refine ⟨fun _ => ?_, fun h => absurd h (by simp [])⟩
  conv => whnf
  refine ⟨fun _ => ?_, fun h => absurd h (by simp [])⟩
  conv => whnf
  refine ⟨fun _ => ?_, fun h => absurd h (by simp [])⟩
  conv => whnf
  refine ACall.use (vInts_spec (bestRr m) (bestRr m) (by omega)) ?_
  conv => whnf
  refine ⟨fun _ => ?_, fun h => absurd h (by simp [])⟩
  conv => whnf
  refine ACall.use (vInts_spec (bestPr m) (bestPr m) (by omega)) ?_
  conv => whnf
  refine ⟨fun _ => ?_, fun h => absurd h (by simp [])⟩
  conv => whnf
  refine ⟨fun _ => ?_, fun h => absurd h (by simp [])⟩
  conv => whnf
  refine ⟨fun _ => ?_, fun h => absurd h (by simp [])⟩
  conv => whnf
  refine ⟨fun _ => ?_, fun h => absurd h (by simp [])⟩
  conv => whnf
  refine ACall.use (vTable_spec (fnRes m) (fnRes m) (by omega) (fun r hr => by have := tot_mem hr; omega)) ?_
  conv => whnf
  refine ⟨fun _ => ?_, fun h => absurd h (by simp [])⟩
  conv => whnf
  refine ⟨fun _ => ?_, fun h => absurd h (by simp [])⟩
  conv => whnf
  refine ACall.use (vTable_spec (switchRes n p q) (switchRes n p q) (sm_len ht).1 (sm_len ht).2) ?_
  conv => whnf
  refine ⟨fun _ => ?_, fun h => absurd h (by simp [])⟩
  conv => whnf
  refine ⟨fun _ => ?_, fun h => absurd h (by simp [])⟩
  conv => whnf
  refine ⟨fun _ => ?_, fun h => absurd h (by simp [])⟩
  conv => whnf
  refine ACall.use (iIsSignGame_spec m okm.1 okm.len) ?_
  conv => whnf
  refine ACall.use (IsSignGame_spec m okm.1 okm.len) ?_
  conv => whnf
  refine ⟨fun _ => ?_, fun h => absurd h (by simp [])⟩
  conv => whnf
  refine ACall.use (iIsSignGame_spec m okm.1 okm.len) ?_
  conv => whnf
  refine ⟨fun h => absurd h (by simp []), fun _ => ?_⟩
  conv => whnf
  apply mp_of2 (h := swOk g x y z bm = true)
  case f =>
    intro key
    refine ⟨fun h2 => ?_, fun h2 => ?_⟩
    · obtain ⟨hgn, hgt, hbi, hok2, hback⟩ := sg_switch h2
      obtain ⟨okt, szt⟩ := ht.ok
      conv => whnf
      refine ACall.use (SignBias_i n okn szn) ?_
      conv => whnf
      refine ACall.use (SignBias_i (switchRes n p q) okt szt) ?_
      conv => whnf
      refine ACall.use ((SwitchSigns_i (switchRes n p q) okt szt p okp szp q okq szq).told (x' := .tu [.t (.rows (switchRes (switchRes n p q) p q)), .c (.bool (switchOk (switchRes n p q) p q))]) ⟨⟨rfl, rfl⟩, rfl, trivial⟩) ?_
      conv => whnf
      refine ⟨fun _ => ?_, fun h => absurd h (by simp [hgt])⟩
      conv => whnf
      refine ⟨fun _ => ?_, fun h => absurd h (by simp [hok2])⟩
      conv => whnf
      refine ⟨fun _ => ?_, fun h => absurd h (by simp [hbi])⟩
      conv => whnf
      refine ACall.use (vTable_spec (switchRes (switchRes n p q) p q) n (by rw [hback]; exact (sm_len hn).1) (by rw [hback]; exact (sm_len hn).2)) ?_
      conv => whnf
      refine ⟨fun h => absurd h (by simp [hback]), fun _ => ?_⟩
      conv => whnf
      refine ⟨fun h3 => ?_, fun h3 => ?_⟩
      · conv => whnf
        refine ACallS.view (R := [(0, .row 0)]) (args' := [.ag [.c (.int .i64 (x)), .c (.int .i64 (y)), .c (.int .i64 (z)), .t (.rows bm)]]) (st' := (⟨394, [(2, .c (.bool false)), (3, .t (.rows m)), (4, .c (.int .i64 (biasOf m))), (5, .c (.bool (goodM m))), (8, .t (.ints .i64 (bestRr m))), (9, .t (.ints .i64 (bestPr m))), (14, .c (.int .i64 (cutOf m))), (18, .t (.rows (fnRes m))), (29, .t (.rows g)), (30, .ptr 0 0), (31, .c (.int .i64 (swV g x y z bm)))], [(0, .cells 26 [.c (.int .i64 (x)), .c (.int .i64 (y)), .c (.int .i64 (z)), .t (.rows bm)])], 1⟩ : St)) (by refine ⟨rfl, rfl, ?_, ?_⟩ <;> ((repeat' (first | exact trivial | exact rfl | refine And.intro ?_ ?_)) <;> (try ((conv => whnf); first | refine vint ?_ | refine vboo ?_ | refine rint ?_ | refine rrow ?_ | skip)) <;> (try first | omega | (simp; done) | ((repeat rw [flts_closed _ (by assumption)]); exact vws_closed _ (by assumption))))) ⟨⟨rfl, rfl, rfl, rfl, trivial⟩, trivial⟩ ?_
        exact key h3
      · conv => whnf
        refine ⟨fun ho => ?_, fun ho => ?_⟩
        · conv => whnf
          exact ⟨rfl, rfl⟩
        have hg : goodM m = true := by simpa using ho
        obtain ⟨g1, g2, g3, g4, g5⟩ := goodM_spec hg
        have sb := sg_best hg
        conv => whnf
        refine aloopI tyOk mx (fun i : Nat => (⟨394, [(2, .c (.bool false)), (3, .t (.rows m)), (4, .c (.int .i64 (biasOf m))), (5, .c (.bool (goodM m))), (8, .t (.ints .i64 (bestRr m))), (9, .t (.ints .i64 (bestPr m))), (14, .c (.int .i64 (cutOf m))), (18, .t (.rows (fnRes m))), (49, .c (.int .i64 (sumTo m (bestRr m) (bestPr m) i))), (50, .c (.int .i64 (i)))], [(0, .cells 26 [.c (.int .i64 (x)), .c (.int .i64 (y)), .c (.int .i64 (z)), .t (.rows bm)])], 1⟩ : St)) (fun i => i ≤ m.length) (fun i => m.length - i) 0 (Nat.zero_le _) none (by refine ⟨rfl, rfl, ?_, ?_⟩ <;> ((repeat' (first | exact trivial | exact rfl | refine And.intro ?_ ?_)) <;> (try ((conv => whnf); first | refine vint ?_ | refine vboo ?_ | refine rint ?_ | refine rrow ?_ | skip)) <;> (try first | omega | (simp; done) | ((repeat rw [flts_closed _ (by assumption)]); exact vws_closed _ (by assumption))))) (fun i hi => ?_)
        conv => whnf
        refine ⟨fun h => ?_, fun h => ?_⟩
        · have hi1 : i < m.length := ltT h
          have hwi := good_wid hg hi1
          conv => whnf
          refine aloopI tyOk mx (fun k : Nat => (⟨394, [(2, .c (.bool false)), (3, .t (.rows m)), (4, .c (.int .i64 (biasOf m))), (5, .c (.bool (goodM m))), (8, .t (.ints .i64 (bestRr m))), (9, .t (.ints .i64 (bestPr m))), (14, .c (.int .i64 (cutOf m))), (18, .t (.rows (fnRes m))), (49, .c (.int .i64 (sumRow (m.getD i []) (bestPr m) ((bestRr m).getD i 0) (sumTo m (bestRr m) (bestPr m) i) k))), (50, .c (.int .i64 (i))), (51, .c (.int .i64 (k)))], [(0, .cells 26 [.c (.int .i64 (x)), .c (.int .i64 (y)), .c (.int .i64 (z)), .t (.rows bm)])], 1⟩ : St)) (fun k => k ≤ (m.getD i []).length) (fun k => (m.getD i []).length - k) 0 (Nat.zero_le _) none (by refine ⟨rfl, rfl, ?_, ?_⟩ <;> ((repeat' (first | exact trivial | exact rfl | refine And.intro ?_ ?_)) <;> (try ((conv => whnf); first | refine vint ?_ | refine vboo ?_ | refine rint ?_ | refine rrow ?_ | skip)) <;> (try first | omega | (simp; done) | ((repeat rw [flts_closed _ (by assumption)]); exact vws_closed _ (by assumption))))) (fun k hk => ?_)
          conv => whnf
          refine ⟨i, rfl, hi1, ?_⟩
          conv => whnf
          refine ⟨fun h => ?_, fun h => ?_⟩
          · have hk1 : k < (m.getD i []).length := ltT h
            conv => whnf
            refine ADraw.std tyOk mx ⟨by kernel_rfl, ?_⟩
            conv => whnf
            refine ⟨i, rfl, hi1, ?_⟩
            conv => whnf
            refine ⟨k, rfl, hk1, ?_⟩
            conv => whnf
            refine ⟨i, rfl, by omega, ?_⟩
            conv => whnf
            refine ⟨k, rfl, by omega, ?_⟩
            conv => whnf
            rw [nat_wrap (by omega)]
            exact ⟨k + 1, none, (by refine ⟨rfl, rfl, ?_, ?_⟩ <;> ((repeat' (first | exact trivial | exact rfl | refine And.intro ?_ ?_)) <;> (try ((conv => whnf); first | refine vint ?_ | refine vboo ?_ | refine rint ?_ | refine rrow ?_ | skip)) <;> (try first | omega | (simp; done) | ((repeat rw [flts_closed _ (by assumption)]); exact vws_closed _ (by assumption))))), by omega, by omega⟩
          · have hk1 : k = (m.getD i []).length := by have := ltF h; omega
            subst hk1
            conv => whnf
            rw [nat_wrap (by omega)]
            exact ⟨i + 1, none, (by refine ⟨rfl, rfl, ?_, ?_⟩ <;> ((repeat' (first | exact trivial | exact rfl | refine And.intro ?_ ?_)) <;> (try ((conv => whnf); first | refine vint ?_ | refine vboo ?_ | refine rint ?_ | refine rrow ?_ | skip)) <;> (try first | omega | (simp; done) | ((repeat rw [flts_closed _ (by assumption)]); exact vws_closed _ (by assumption))))), by omega, by omega⟩
        · have hi1 : i = m.length := by have := ltF h; omega
          subst hi1
          have e1 : fnRes m = functionalL m := if_pos hg
          have fn : fnG (m.length : Int) ((m.getD 0 []).length : Int) (fnRes m) = true := by rw [e1]; exact sg_fn hg
          have lv : lvV (m.length : Int) ((m.getD 0 []).length : Int) (fnRes m) = biasOf m := by rw [e1]; exact sg_local hg
          have szf : SzM (fnRes m) := by rw [e1]; exact fnl_sz hg
          have sc := sg_cut hg
          have ss := sg_sum hg
          have w4 : IntKind.i64.wrap (4 * cutOf m) = 4 * cutOf m := w64 (by omega) (by omega)
          conv => whnf
          refine ⟨0, rfl, by omega, ?_⟩
          conv => whnf
          refine ACall.use (LocalValue_i (m.length : Int) ((m.getD 0 []).length : Int) (fnRes m) szf) ?_
          conv => whnf
          refine ⟨fun _ => ?_, fun h => absurd h (by rw [fn]; decide)⟩
          conv => whnf
          refine ⟨fun _ => ?_, fun h => absurd h (by rw [ss]; simp)⟩
          conv => whnf
          refine ⟨fun _ => ?_, fun h => absurd h (by rw [lv]; simp)⟩
          conv => whnf
          refine ⟨fun _ => ?_, fun h => absurd h (by simp [sc.1])⟩
          conv => whnf
          rw [w4]
          refine ⟨?_, rfl⟩
          refine congrArg (fun b => AVal.c (Value.bool b)) ?_
          exact decide_eq_true sc.2.1
    · conv => whnf
      refine ⟨fun h3 => ?_, fun h3 => ?_⟩
      · conv => whnf
        refine ACallS.view (R := [(0, .row 0)]) (args' := [.ag [.c (.int .i64 (x)), .c (.int .i64 (y)), .c (.int .i64 (z)), .t (.rows bm)]]) (st' := (⟨394, [(2, .c (.bool false)), (3, .t (.rows m)), (4, .c (.int .i64 (biasOf m))), (5, .c (.bool (goodM m))), (8, .t (.ints .i64 (bestRr m))), (9, .t (.ints .i64 (bestPr m))), (14, .c (.int .i64 (cutOf m))), (18, .t (.rows (fnRes m))), (29, .t (.rows g)), (30, .ptr 0 0), (31, .c (.int .i64 (swV g x y z bm)))], [(0, .cells 26 [.c (.int .i64 (x)), .c (.int .i64 (y)), .c (.int .i64 (z)), .t (.rows bm)])], 1⟩ : St)) (by refine ⟨rfl, rfl, ?_, ?_⟩ <;> ((repeat' (first | exact trivial | exact rfl | refine And.intro ?_ ?_)) <;> (try ((conv => whnf); first | refine vint ?_ | refine vboo ?_ | refine rint ?_ | refine rrow ?_ | skip)) <;> (try first | omega | (simp; done) | ((repeat rw [flts_closed _ (by assumption)]); exact vws_closed _ (by assumption))))) ⟨⟨rfl, rfl, rfl, rfl, trivial⟩, trivial⟩ ?_
        exact key h3
      · conv => whnf
        refine ⟨fun ho => ?_, fun ho => ?_⟩
        · conv => whnf
          exact ⟨rfl, rfl⟩
        have hg : goodM m = true := by simpa using ho
        obtain ⟨g1, g2, g3, g4, g5⟩ := goodM_spec hg
        have sb := sg_best hg
        conv => whnf
        refine aloopI tyOk mx (fun i : Nat => (⟨394, [(2, .c (.bool false)), (3, .t (.rows m)), (4, .c (.int .i64 (biasOf m))), (5, .c (.bool (goodM m))), (8, .t (.ints .i64 (bestRr m))), (9, .t (.ints .i64 (bestPr m))), (14, .c (.int .i64 (cutOf m))), (18, .t (.rows (fnRes m))), (49, .c (.int .i64 (sumTo m (bestRr m) (bestPr m) i))), (50, .c (.int .i64 (i)))], [(0, .cells 26 [.c (.int .i64 (x)), .c (.int .i64 (y)), .c (.int .i64 (z)), .t (.rows bm)])], 1⟩ : St)) (fun i => i ≤ m.length) (fun i => m.length - i) 0 (Nat.zero_le _) none (by refine ⟨rfl, rfl, ?_, ?_⟩ <;> ((repeat' (first | exact trivial | exact rfl | refine And.intro ?_ ?_)) <;> (try ((conv => whnf); first | refine vint ?_ | refine vboo ?_ | refine rint ?_ | refine rrow ?_ | skip)) <;> (try first | omega | (simp; done) | ((repeat rw [flts_closed _ (by assumption)]); exact vws_closed _ (by assumption))))) (fun i hi => ?_)
        conv => whnf
        refine ⟨fun h => ?_, fun h => ?_⟩
        · have hi1 : i < m.length := ltT h
          have hwi := good_wid hg hi1
          conv => whnf
          refine aloopI tyOk mx (fun k : Nat => (⟨394, [(2, .c (.bool false)), (3, .t (.rows m)), (4, .c (.int .i64 (biasOf m))), (5, .c (.bool (goodM m))), (8, .t (.ints .i64 (bestRr m))), (9, .t (.ints .i64 (bestPr m))), (14, .c (.int .i64 (cutOf m))), (18, .t (.rows (fnRes m))), (49, .c (.int .i64 (sumRow (m.getD i []) (bestPr m) ((bestRr m).getD i 0) (sumTo m (bestRr m) (bestPr m) i) k))), (50, .c (.int .i64 (i))), (51, .c (.int .i64 (k)))], [(0, .cells 26 [.c (.int .i64 (x)), .c (.int .i64 (y)), .c (.int .i64 (z)), .t (.rows bm)])], 1⟩ : St)) (fun k => k ≤ (m.getD i []).length) (fun k => (m.getD i []).length - k) 0 (Nat.zero_le _) none (by refine ⟨rfl, rfl, ?_, ?_⟩ <;> ((repeat' (first | exact trivial | exact rfl | refine And.intro ?_ ?_)) <;> (try ((conv => whnf); first | refine vint ?_ | refine vboo ?_ | refine rint ?_ | refine rrow ?_ | skip)) <;> (try first | omega | (simp; done) | ((repeat rw [flts_closed _ (by assumption)]); exact vws_closed _ (by assumption))))) (fun k hk => ?_)
          conv => whnf
          refine ⟨i, rfl, hi1, ?_⟩
          conv => whnf
          refine ⟨fun h => ?_, fun h => ?_⟩
          · have hk1 : k < (m.getD i []).length := ltT h
            conv => whnf
            refine ADraw.std tyOk mx ⟨by kernel_rfl, ?_⟩
            conv => whnf
            refine ⟨i, rfl, hi1, ?_⟩
            conv => whnf
            refine ⟨k, rfl, hk1, ?_⟩
            conv => whnf
            refine ⟨i, rfl, by omega, ?_⟩
            conv => whnf
            refine ⟨k, rfl, by omega, ?_⟩
            conv => whnf
            rw [nat_wrap (by omega)]
            exact ⟨k + 1, none, (by refine ⟨rfl, rfl, ?_, ?_⟩ <;> ((repeat' (first | exact trivial | exact rfl | refine And.intro ?_ ?_)) <;> (try ((conv => whnf); first | refine vint ?_ | refine vboo ?_ | refine rint ?_ | refine rrow ?_ | skip)) <;> (try first | omega | (simp; done) | ((repeat rw [flts_closed _ (by assumption)]); exact vws_closed _ (by assumption))))), by omega, by omega⟩
          · have hk1 : k = (m.getD i []).length := by have := ltF h; omega
            subst hk1
            conv => whnf
            rw [nat_wrap (by omega)]
            exact ⟨i + 1, none, (by refine ⟨rfl, rfl, ?_, ?_⟩ <;> ((repeat' (first | exact trivial | exact rfl | refine And.intro ?_ ?_)) <;> (try ((conv => whnf); first | refine vint ?_ | refine vboo ?_ | refine rint ?_ | refine rrow ?_ | skip)) <;> (try first | omega | (simp; done) | ((repeat rw [flts_closed _ (by assumption)]); exact vws_closed _ (by assumption))))), by omega, by omega⟩
        · have hi1 : i = m.length := by have := ltF h; omega
          subst hi1
          have e1 : fnRes m = functionalL m := if_pos hg
          have fn : fnG (m.length : Int) ((m.getD 0 []).length : Int) (fnRes m) = true := by rw [e1]; exact sg_fn hg
          have lv : lvV (m.length : Int) ((m.getD 0 []).length : Int) (fnRes m) = biasOf m := by rw [e1]; exact sg_local hg
          have szf : SzM (fnRes m) := by rw [e1]; exact fnl_sz hg
          have sc := sg_cut hg
          have ss := sg_sum hg
          have w4 : IntKind.i64.wrap (4 * cutOf m) = 4 * cutOf m := w64 (by omega) (by omega)
          conv => whnf
          refine ⟨0, rfl, by omega, ?_⟩
          conv => whnf
          refine ACall.use (LocalValue_i (m.length : Int) ((m.getD 0 []).length : Int) (fnRes m) szf) ?_
          conv => whnf
          refine ⟨fun _ => ?_, fun h => absurd h (by rw [fn]; decide)⟩
          conv => whnf
          refine ⟨fun _ => ?_, fun h => absurd h (by rw [ss]; simp)⟩
          conv => whnf
          refine ⟨fun _ => ?_, fun h => absurd h (by rw [lv]; simp)⟩
          conv => whnf
          refine ⟨fun _ => ?_, fun h => absurd h (by simp [sc.1])⟩
          conv => whnf
          rw [w4]
          refine ⟨?_, rfl⟩
          refine congrArg (fun b => AVal.c (Value.bool b)) ?_
          exact decide_eq_true sc.2.1
  case x =>
    intro h3
    obtain ⟨nx, ny, rfl, rfl, ex, ey, hgg, hgb, esum, wb, wl⟩ := sg_worth h3
    have ea : agOf (nx : Int) ny z bm = bm.map agr := if_pos hgb
    obtain ⟨nx', ny', enx, eny, x1, x3, y1, y3, z1, z2, q7, q8, q9⟩ := goodB_spec hgb
    have hl9 : bm.length = nx * ny := by rw [q7]; congr 1 <;> omega
    have h9 : nx * ny ≤ 3 * 3 := Nat.mul_le_mul (by omega) (by omega)
    have hny : (ny : Int) ≠ 0 := by omega
    have ags := (AgreementsOf_i (nx : Int) ny z bm szb).told (x' := .tu [.t (.ints .i64 (agOf (nx : Int) ny z bm)), .c (.bool (goodB (nx : Int) ny z bm))]) ⟨⟨rfl, rfl⟩, rfl, trivial⟩
    rw [ea] at ags
    refine ACall.use ags ?_
    conv => whnf
    refine aloopI tyOk mx (fun i : Nat => (⟨394, [(2, .c (.bool false)), (3, .t (.rows m)), (4, .c (.int .i64 (biasOf m))), (5, .c (.bool (goodM m))), (8, .t (.ints .i64 (bestRr m))), (9, .t (.ints .i64 (bestPr m))), (14, .c (.int .i64 (cutOf m))), (18, .t (.rows (fnRes m))), (29, .t (.rows g)), (30, .ptr 0 0), (31, .c (.int .i64 (swV g nx ny z bm))), (41, .t (.ints .i64 (bm.map agr))), (42, .c (.bool (goodB (nx : Int) ny z bm))), (43, .c (.int .i64 (agS g bm ny i))), (44, .c (.int .i64 (i)))], [(0, .cells 26 [.c (.int .i64 (nx)), .c (.int .i64 (ny)), .c (.int .i64 (z)), .t (.rows bm)])], 1⟩ : St)) (fun i => i ≤ nx * ny) (fun i => nx * ny - i) 0 (Nat.zero_le _) none (by refine ⟨rfl, rfl, ?_, ?_⟩ <;> ((repeat' (first | exact trivial | exact rfl | refine And.intro ?_ ?_)) <;> (try ((conv => whnf); first | refine vint ?_ | refine vboo ?_ | refine rint ?_ | refine rrow ?_ | skip)) <;> (try first | omega | (simp; done) | ((repeat rw [flts_closed _ (by assumption)]); exact vws_closed _ (by assumption))))) (fun i hi => ?_)
    conv => whnf
    refine ⟨fun _ => ?_, fun h => absurd h (by simp [hgb])⟩
    conv => whnf
    refine ⟨fun h => ?_, fun h => ?_⟩
    · have hi1 : i < nx * ny := by have := ltT h; rw [List.length_map] at this; omega
      have d1 : i / ny < g.length := by rw [← ex]; exact Nat.div_lt_of_lt_mul (by rw [Nat.mul_comm]; exact hi1)
      have d2 : i % ny < (g.getD (i / ny) []).length := by rw [good_wid hgg d1, ← ey]; exact Nat.mod_lt _ (by omega)
      conv => whnf
      refine ADraw.std tyOk mx ⟨by kernel_rfl, ?_⟩
      conv => whnf
      refine ⟨hny, ?_⟩
      conv => whnf
      refine ⟨i / ny, tdiv_natS i ny (by omega), d1, ?_⟩
      conv => whnf
      refine ⟨hny, ?_⟩
      conv => whnf
      refine ⟨i % ny, tmod_natS i ny, d2, ?_⟩
      conv => whnf
      refine ⟨i, rfl, by rw [List.length_map]; omega, ?_⟩
      conv => whnf
      rw [nat_wrap (by omega)]
      exact ⟨i + 1, none, (by refine ⟨rfl, rfl, ?_, ?_⟩ <;> ((repeat' (first | exact trivial | exact rfl | refine And.intro ?_ ?_)) <;> (try ((conv => whnf); first | refine vint ?_ | refine vboo ?_ | refine rint ?_ | refine rrow ?_ | skip)) <;> (try first | omega | (simp; done) | ((repeat rw [flts_closed _ (by assumption)]); exact vws_closed _ (by assumption))))), by omega, by omega⟩
    · have hi1 : i = nx * ny := by have := ltF h; rw [List.length_map] at this; omega
      subst hi1
      have es : agS g bm ny (nx * ny) = swV g nx ny z bm := by
        rw [sg_agS hl9, swV, if_pos h3, ← ex, ← ey]
      have bg := (sg_cut hgg).2.2
      have zb : 0 ≤ z * biasOf g ∧ z * biasOf g ≤ 1000 * 81 := ⟨Int.mul_nonneg (by omega) bg.1, Int.mul_le_mul z2 bg.2 bg.1 (by omega)⟩
      have wz : IntKind.i64.wrap (z * biasOf g) = z * biasOf g := w64 (by omega) (by omega)
      conv => whnf
      refine ACall.use (L.IsLocal_i (nx : Int) ny z bm szb) ?_
      conv => whnf
      refine ACall.use (SignBias_i g okg szg) ?_
      conv => whnf
      refine ⟨fun _ => ?_, fun h => absurd h (by simp [hgb])⟩
      conv => whnf
      refine ⟨fun _ => ?_, fun h => absurd h (by simp [hgb])⟩
      conv => whnf
      refine ⟨fun _ => ?_, fun h => absurd h (by simp [hgg])⟩
      conv => whnf
      refine ⟨fun _ => ?_, fun h => absurd h (by simp [es])⟩
      conv => whnf
      refine ⟨fun hl => ?_, fun hl => ?_⟩
      · have hl : Go.Aw.Loc nx ny z bm := by simpa [L.lcV, locB_true, hgb] using hl
        have := wl hl
        conv => whnf
        rw [wz]
        refine ⟨fun h => absurd (of_decide_eq_true h) (by omega), fun _ => ?_⟩
        conv => whnf
        refine ⟨fun ho => ?_, fun ho => ?_⟩
        · conv => whnf
          exact ⟨rfl, rfl⟩
        have hg : goodM m = true := by simpa using ho
        obtain ⟨g1, g2, g3, g4, g5⟩ := goodM_spec hg
        have sb := sg_best hg
        conv => whnf
        refine aloopI tyOk mx (fun i : Nat => (⟨394, [(2, .c (.bool false)), (3, .t (.rows m)), (4, .c (.int .i64 (biasOf m))), (5, .c (.bool (goodM m))), (8, .t (.ints .i64 (bestRr m))), (9, .t (.ints .i64 (bestPr m))), (14, .c (.int .i64 (cutOf m))), (18, .t (.rows (fnRes m))), (49, .c (.int .i64 (sumTo m (bestRr m) (bestPr m) i))), (50, .c (.int .i64 (i)))], [(0, .cells 26 [.c (.int .i64 (nx)), .c (.int .i64 (ny)), .c (.int .i64 (z)), .t (.rows bm)])], 1⟩ : St)) (fun i => i ≤ m.length) (fun i => m.length - i) 0 (Nat.zero_le _) none (by refine ⟨rfl, rfl, ?_, ?_⟩ <;> ((repeat' (first | exact trivial | exact rfl | refine And.intro ?_ ?_)) <;> (try ((conv => whnf); first | refine vint ?_ | refine vboo ?_ | refine rint ?_ | refine rrow ?_ | skip)) <;> (try first | omega | (simp; done) | ((repeat rw [flts_closed _ (by assumption)]); exact vws_closed _ (by assumption))))) (fun i hi => ?_)
        conv => whnf
        refine ⟨fun h => ?_, fun h => ?_⟩
        · have hi1 : i < m.length := ltT h
          have hwi := good_wid hg hi1
          conv => whnf
          refine aloopI tyOk mx (fun k : Nat => (⟨394, [(2, .c (.bool false)), (3, .t (.rows m)), (4, .c (.int .i64 (biasOf m))), (5, .c (.bool (goodM m))), (8, .t (.ints .i64 (bestRr m))), (9, .t (.ints .i64 (bestPr m))), (14, .c (.int .i64 (cutOf m))), (18, .t (.rows (fnRes m))), (49, .c (.int .i64 (sumRow (m.getD i []) (bestPr m) ((bestRr m).getD i 0) (sumTo m (bestRr m) (bestPr m) i) k))), (50, .c (.int .i64 (i))), (51, .c (.int .i64 (k)))], [(0, .cells 26 [.c (.int .i64 (nx)), .c (.int .i64 (ny)), .c (.int .i64 (z)), .t (.rows bm)])], 1⟩ : St)) (fun k => k ≤ (m.getD i []).length) (fun k => (m.getD i []).length - k) 0 (Nat.zero_le _) none (by refine ⟨rfl, rfl, ?_, ?_⟩ <;> ((repeat' (first | exact trivial | exact rfl | refine And.intro ?_ ?_)) <;> (try ((conv => whnf); first | refine vint ?_ | refine vboo ?_ | refine rint ?_ | refine rrow ?_ | skip)) <;> (try first | omega | (simp; done) | ((repeat rw [flts_closed _ (by assumption)]); exact vws_closed _ (by assumption))))) (fun k hk => ?_)
          conv => whnf
          refine ⟨i, rfl, hi1, ?_⟩
          conv => whnf
          refine ⟨fun h => ?_, fun h => ?_⟩
          · have hk1 : k < (m.getD i []).length := ltT h
            conv => whnf
            refine ADraw.std tyOk mx ⟨by kernel_rfl, ?_⟩
            conv => whnf
            refine ⟨i, rfl, hi1, ?_⟩
            conv => whnf
            refine ⟨k, rfl, hk1, ?_⟩
            conv => whnf
            refine ⟨i, rfl, by omega, ?_⟩
            conv => whnf
            refine ⟨k, rfl, by omega, ?_⟩
            conv => whnf
            rw [nat_wrap (by omega)]
            exact ⟨k + 1, none, (by refine ⟨rfl, rfl, ?_, ?_⟩ <;> ((repeat' (first | exact trivial | exact rfl | refine And.intro ?_ ?_)) <;> (try ((conv => whnf); first | refine vint ?_ | refine vboo ?_ | refine rint ?_ | refine rrow ?_ | skip)) <;> (try first | omega | (simp; done) | ((repeat rw [flts_closed _ (by assumption)]); exact vws_closed _ (by assumption))))), by omega, by omega⟩
          · have hk1 : k = (m.getD i []).length := by have := ltF h; omega
            subst hk1
            conv => whnf
            rw [nat_wrap (by omega)]
            exact ⟨i + 1, none, (by refine ⟨rfl, rfl, ?_, ?_⟩ <;> ((repeat' (first | exact trivial | exact rfl | refine And.intro ?_ ?_)) <;> (try ((conv => whnf); first | refine vint ?_ | refine vboo ?_ | refine rint ?_ | refine rrow ?_ | skip)) <;> (try first | omega | (simp; done) | ((repeat rw [flts_closed _ (by assumption)]); exact vws_closed _ (by assumption))))), by omega, by omega⟩
        · have hi1 : i = m.length := by have := ltF h; omega
          subst hi1
          have e1 : fnRes m = functionalL m := if_pos hg
          have fn : fnG (m.length : Int) ((m.getD 0 []).length : Int) (fnRes m) = true := by rw [e1]; exact sg_fn hg
          have lv : lvV (m.length : Int) ((m.getD 0 []).length : Int) (fnRes m) = biasOf m := by rw [e1]; exact sg_local hg
          have szf : SzM (fnRes m) := by rw [e1]; exact fnl_sz hg
          have sc := sg_cut hg
          have ss := sg_sum hg
          have w4 : IntKind.i64.wrap (4 * cutOf m) = 4 * cutOf m := w64 (by omega) (by omega)
          conv => whnf
          refine ⟨0, rfl, by omega, ?_⟩
          conv => whnf
          refine ACall.use (LocalValue_i (m.length : Int) ((m.getD 0 []).length : Int) (fnRes m) szf) ?_
          conv => whnf
          refine ⟨fun _ => ?_, fun h => absurd h (by rw [fn]; decide)⟩
          conv => whnf
          refine ⟨fun _ => ?_, fun h => absurd h (by rw [ss]; simp)⟩
          conv => whnf
          refine ⟨fun _ => ?_, fun h => absurd h (by rw [lv]; simp)⟩
          conv => whnf
          refine ⟨fun _ => ?_, fun h => absurd h (by simp [sc.1])⟩
          conv => whnf
          rw [w4]
          refine ⟨?_, rfl⟩
          refine congrArg (fun b => AVal.c (Value.bool b)) ?_
          exact decide_eq_true sc.2.1
      · conv => whnf
        refine ⟨fun h => absurd h (by simp), fun _ => ?_⟩
        conv => whnf
        refine ⟨fun ho => ?_, fun ho => ?_⟩
        · conv => whnf
          exact ⟨rfl, rfl⟩
        have hg : goodM m = true := by simpa using ho
        obtain ⟨g1, g2, g3, g4, g5⟩ := goodM_spec hg
        have sb := sg_best hg
        conv => whnf
        refine aloopI tyOk mx (fun i : Nat => (⟨394, [(2, .c (.bool false)), (3, .t (.rows m)), (4, .c (.int .i64 (biasOf m))), (5, .c (.bool (goodM m))), (8, .t (.ints .i64 (bestRr m))), (9, .t (.ints .i64 (bestPr m))), (14, .c (.int .i64 (cutOf m))), (18, .t (.rows (fnRes m))), (49, .c (.int .i64 (sumTo m (bestRr m) (bestPr m) i))), (50, .c (.int .i64 (i)))], [(0, .cells 26 [.c (.int .i64 (nx)), .c (.int .i64 (ny)), .c (.int .i64 (z)), .t (.rows bm)])], 1⟩ : St)) (fun i => i ≤ m.length) (fun i => m.length - i) 0 (Nat.zero_le _) none (by refine ⟨rfl, rfl, ?_, ?_⟩ <;> ((repeat' (first | exact trivial | exact rfl | refine And.intro ?_ ?_)) <;> (try ((conv => whnf); first | refine vint ?_ | refine vboo ?_ | refine rint ?_ | refine rrow ?_ | skip)) <;> (try first | omega | (simp; done) | ((repeat rw [flts_closed _ (by assumption)]); exact vws_closed _ (by assumption))))) (fun i hi => ?_)
        conv => whnf
        refine ⟨fun h => ?_, fun h => ?_⟩
        · have hi1 : i < m.length := ltT h
          have hwi := good_wid hg hi1
          conv => whnf
          refine aloopI tyOk mx (fun k : Nat => (⟨394, [(2, .c (.bool false)), (3, .t (.rows m)), (4, .c (.int .i64 (biasOf m))), (5, .c (.bool (goodM m))), (8, .t (.ints .i64 (bestRr m))), (9, .t (.ints .i64 (bestPr m))), (14, .c (.int .i64 (cutOf m))), (18, .t (.rows (fnRes m))), (49, .c (.int .i64 (sumRow (m.getD i []) (bestPr m) ((bestRr m).getD i 0) (sumTo m (bestRr m) (bestPr m) i) k))), (50, .c (.int .i64 (i))), (51, .c (.int .i64 (k)))], [(0, .cells 26 [.c (.int .i64 (nx)), .c (.int .i64 (ny)), .c (.int .i64 (z)), .t (.rows bm)])], 1⟩ : St)) (fun k => k ≤ (m.getD i []).length) (fun k => (m.getD i []).length - k) 0 (Nat.zero_le _) none (by refine ⟨rfl, rfl, ?_, ?_⟩ <;> ((repeat' (first | exact trivial | exact rfl | refine And.intro ?_ ?_)) <;> (try ((conv => whnf); first | refine vint ?_ | refine vboo ?_ | refine rint ?_ | refine rrow ?_ | skip)) <;> (try first | omega | (simp; done) | ((repeat rw [flts_closed _ (by assumption)]); exact vws_closed _ (by assumption))))) (fun k hk => ?_)
          conv => whnf
          refine ⟨i, rfl, hi1, ?_⟩
          conv => whnf
          refine ⟨fun h => ?_, fun h => ?_⟩
          · have hk1 : k < (m.getD i []).length := ltT h
            conv => whnf
            refine ADraw.std tyOk mx ⟨by kernel_rfl, ?_⟩
            conv => whnf
            refine ⟨i, rfl, hi1, ?_⟩
            conv => whnf
            refine ⟨k, rfl, hk1, ?_⟩
            conv => whnf
            refine ⟨i, rfl, by omega, ?_⟩
            conv => whnf
            refine ⟨k, rfl, by omega, ?_⟩
            conv => whnf
            rw [nat_wrap (by omega)]
            exact ⟨k + 1, none, (by refine ⟨rfl, rfl, ?_, ?_⟩ <;> ((repeat' (first | exact trivial | exact rfl | refine And.intro ?_ ?_)) <;> (try ((conv => whnf); first | refine vint ?_ | refine vboo ?_ | refine rint ?_ | refine rrow ?_ | skip)) <;> (try first | omega | (simp; done) | ((repeat rw [flts_closed _ (by assumption)]); exact vws_closed _ (by assumption))))), by omega, by omega⟩
          · have hk1 : k = (m.getD i []).length := by have := ltF h; omega
            subst hk1
            conv => whnf
            rw [nat_wrap (by omega)]
            exact ⟨i + 1, none, (by refine ⟨rfl, rfl, ?_, ?_⟩ <;> ((repeat' (first | exact trivial | exact rfl | refine And.intro ?_ ?_)) <;> (try ((conv => whnf); first | refine vint ?_ | refine vboo ?_ | refine rint ?_ | refine rrow ?_ | skip)) <;> (try first | omega | (simp; done) | ((repeat rw [flts_closed _ (by assumption)]); exact vws_closed _ (by assumption))))), by omega, by omega⟩
        · have hi1 : i = m.length := by have := ltF h; omega
          subst hi1
          have e1 : fnRes m = functionalL m := if_pos hg
          have fn : fnG (m.length : Int) ((m.getD 0 []).length : Int) (fnRes m) = true := by rw [e1]; exact sg_fn hg
          have lv : lvV (m.length : Int) ((m.getD 0 []).length : Int) (fnRes m) = biasOf m := by rw [e1]; exact sg_local hg
          have szf : SzM (fnRes m) := by rw [e1]; exact fnl_sz hg
          have sc := sg_cut hg
          have ss := sg_sum hg
          have w4 : IntKind.i64.wrap (4 * cutOf m) = 4 * cutOf m := w64 (by omega) (by omega)
          conv => whnf
          refine ⟨0, rfl, by omega, ?_⟩
          conv => whnf
          refine ACall.use (LocalValue_i (m.length : Int) ((m.getD 0 []).length : Int) (fnRes m) szf) ?_
          conv => whnf
          refine ⟨fun _ => ?_, fun h => absurd h (by rw [fn]; decide)⟩
          conv => whnf
          refine ⟨fun _ => ?_, fun h => absurd h (by rw [ss]; simp)⟩
          conv => whnf
          refine ⟨fun _ => ?_, fun h => absurd h (by rw [lv]; simp)⟩
          conv => whnf
          refine ⟨fun _ => ?_, fun h => absurd h (by simp [sc.1])⟩
          conv => whnf
          rw [w4]
          refine ⟨?_, rfl⟩
          refine congrArg (fun b => AVal.c (Value.bool b)) ?_
          exact decide_eq_true sc.2.1
end Go.Proofs.YtkomndcehdneaaaGreat
