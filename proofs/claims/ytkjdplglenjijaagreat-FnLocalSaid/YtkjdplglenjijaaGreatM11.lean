/- FnLocal, walked. -/
import Derived.Test.YtkjdplglenjijaaGreatM9
import Derived.Test.YtkjdplglenjijaaGreatM10
namespace Go.Proofs.YtkjdplglenjijaaGreat.L
open Go.Aw
set_option maxRecDepth 100000
set_option maxHeartbeats 16000000

theorem mp_of3 {h a b : Prop} (f : (h → a) → b) (x : h → a) : b := f x
theorem gtrip_ex {m : List (List Int)} (h : R9 m) : ∃ g, GTrip m g := by
  have inn : ∀ I, I < 6 → ∀ g, MTo m I 0 g → ∀ K, K ≤ 6 → ∃ g, MTo m I K g := fun I hI g hg K => by
    induction K with
    | zero => exact fun _ => ⟨g, hg⟩
    | succ K ih => intro hK; obtain ⟨g', h'⟩ := ih (by omega); exact ⟨_, h'.nextK hI (by omega)⟩
  have out : ∀ I, I ≤ 6 → ∃ g, MTo m I 0 g := fun I => by
    induction I with
    | zero => exact fun _ => ⟨_, MTo.zero h⟩
    | succ I ih =>
      intro hI
      obtain ⟨g, hg⟩ := ih (by omega)
      obtain ⟨g', hg'⟩ := inn I (by omega) g hg 6 (by omega)
      exact ⟨_, hg'.nextI⟩
  obtain ⟨g, hg⟩ := out 6 (by omega)
  exact ⟨g, hg.fin⟩
theorem tw_le {x y z : Int} {m : List (List Int)} (h : trB x y z m = true) : ¬ twV x y z m > gtV x y z m := by
  obtain ⟨rfl, rfl, hq⟩ := trB_of h
  obtain ⟨g, hg⟩ := gtrip_ex hq.toGB.r9
  have a := hg.all 0 [0, 1, 2] [0, 1, 2] [0, 0, 0, 0, 0, 0] (by omega) (by decide) (by decide) ⟨rfl, by decide⟩
  rw [trm_id hq.toGB.r9] at a
  rw [twV, gtV, if_pos h, if_pos h, gtN_eq hg]
  omega
theorem lcV_nat {nx ny : Nat} {z : Int} {m : List (List Int)} (h : goodB nx ny z m = true) : lcV nx ny z m = locB nx ny z m := by rw [lcV, h, Bool.true_and, Int.toNat_natCast, Int.toNat_natCast]
theorem loc_eq {z : Int} {m : List (List Int)} (h : trB 3 3 z m = true) {g : Int} (hg : GSum 3 3 m g) : lcV 3 3 z m = (decide (g ≤ 2 * z) && decide (gtV 3 3 z m ≤ 0)) := by
  obtain ⟨_, _, hq⟩ := trB_of h
  obtain ⟨t, ht⟩ := gtrip_ex hq.toGB.r9
  have z1 := hq.z1
  have e : gtV 3 3 z m = t := by rw [gtV, if_pos h, gtN_eq ht]
  rw [e]
  have := lcV_nat (nx := 3) (ny := 3) hq.toGB.good
  refine this.trans (locB_of ?_)
  rw [Bool.and_eq_true, decide_eq_true_eq, decide_eq_true_eq]
  exact ⟨fun ⟨h1, h2⟩ => ⟨(QB.iff hq.toGB).2 hq, (hg.le (by omega)).1 h1, fun _ _ => (ht.le).1 h2⟩, fun hl => ⟨(hg.le (by omega)).2 hl.sums, (ht.le).2 (hl.trip rfl rfl)⟩⟩
theorem wi_loc {x y z : Int} {m f : List (List Int)} (h : wiV x y z m f = true) : lcV x y z m = false ∧ goodB x y z m = true := by
  simp only [wiV, Bool.and_eq_true, decide_eq_true_eq] at h
  obtain ⟨h1, h2⟩ := h
  obtain ⟨nx, ny, rfl, rfl, hG, hg, hf, hl, f4⟩ := woOk_of h1
  refine ⟨?_, hg⟩
  rw [Int.toNat_natCast, Int.toNat_natCast] at h2
  rw [lcV_nat hg]
  cases hb : locB nx ny z m with
  | false => rfl
  | true =>
    obtain ⟨a1, a2⟩ := loc_worth hg hf (locB_true.1 hb)
    have a2 : W (z * lvF f nx ny) = z * lvF f nx ny := a2
    rw [a2] at h2
    omega
theorem sw_sz {nx ny : Nat} {z : Int} {m : List (List Int)} (h : GB nx ny z m) : SzM m := sq_sz ⟨h.len, h.four⟩ (by have := Nat.mul_le_mul h.x3 h.y3; omega)
theorem FnLocal_spec (code : List Int) (hc : OkB code) : FSpec Tryz.prog 3 [.t (.ints .u8 code)] (ex (.c (.bool true)) []) := by
  refine fspec tyOk mx Tryz.func3 rfl (by kernel_rfl) rfl ?_
  conv => whnf
  refine ACall.use (vBig_spec code) ?_
  refine ⟨fun h => ?_, fun h => ?_⟩
  · conv => whnf
    exact ⟨rfl, rfl⟩
  have hlen : code.length ≤ 65536 := by have := of_decide_eq_false h; omega
  clear h
  conv => whnf
  refine ACall.use' (DrawIsLocal_spec code hc) ?_
  rintro v hr ⟨rfl, x, y, z, m, hx, hy, hz, km, rfl⟩
  conv => whnf
  refine ACall.use (IsLocal_i x y z m km) ?_
  conv => whnf
  refine ACall.use (IsLocal_s x y z m km) ?_
  conv => whnf
  refine ACall.use' (vCut_spec code hc hlen 1 (by omega)) ?_
  rintro v hr ⟨rfl, c1, hc1, rfl⟩
  conv => whnf
  refine ACall.use' (DrawTripleWorth_spec c1 hc1) ?_
  rintro v hr ⟨rfl, x1, y1, z1, m1, hx1, hy1, hz1, km1, rfl⟩
  conv => whnf
  refine ACall.use (TripleWorth_i x1 y1 z1 m1 km1) ?_
  conv => whnf
  refine ACall.use (TripleWorth_s x1 y1 z1 m1 km1) ?_
  conv => whnf
  refine ACall.use (GreatestTriple_i x1 y1 z1 m1 km1) ?_
  conv => whnf
  refine ACall.use (GreatestTriple_s x1 y1 z1 m1 km1) ?_
  conv => whnf
  refine ACall.use' (vCut_spec code hc hlen 2 (by omega)) ?_
  rintro v hr ⟨rfl, c2, hc2, rfl⟩
  conv => whnf
  refine ACall.use' (DrawIsWitness_spec c2 hc2) ?_
  rintro v hr ⟨rfl, x2, y2, z2, m2, f2, hx2, hy2, hz2, km2, kf2, rfl⟩
  conv => whnf
  refine ACall.use (IsWitness_i x2 y2 z2 m2 f2 km2 kf2) ?_
  conv => whnf
  refine ACall.use (IsWitness_s x2 y2 z2 m2 f2 km2 kf2) ?_
  conv => whnf
  apply mp_of3 (h := goodB x y z m = true)
  case f =>
    intro key
    refine ⟨fun _ => ?_, fun h => absurd h (by simp [])⟩
    conv => whnf
    refine ⟨fun _ => ?_, fun h => absurd h (by simp [])⟩
    conv => whnf
    refine ⟨fun _ => ?_, fun h => absurd h (by simp [])⟩
    conv => whnf
    refine ⟨fun _ => ?_, fun h => absurd h (by simp [])⟩
    conv => whnf
    refine ⟨fun _ => ?_, fun h => absurd h (by simp [])⟩
    conv => whnf
    refine ⟨fun _ => ?_, fun h => absurd h (by simp [])⟩
    conv => whnf
    refine ⟨fun _ => ?_, fun h => absurd h (by simp [])⟩
    conv => whnf
    refine ⟨fun _ => ?_, fun h => absurd h (by simp [])⟩
    conv => whnf
    refine ⟨fun _ => ?_, fun h => absurd h (by simp [])⟩
    conv => whnf
    refine ⟨fun hf => ?_, fun hf => ?_⟩
    · have hft := hf
      have htw := tw_le hf
      obtain ⟨rfl, rfl, hq1⟩ := trB_of hf
      have hgd : goodB 3 3 z1 m1 = true := hq1.toGB.good
      conv => whnf
      refine ⟨fun h => absurd (of_decide_eq_true h) htw, fun _ => ?_⟩
      conv => whnf
      refine ⟨fun hone => ?_, fun hone => ?_⟩
      · conv => whnf
        refine ⟨fun his => ?_, fun his => ?_⟩
        · obtain ⟨w1, w2⟩ := wi_loc his
          conv => whnf
          refine ACall.use (IsLocal_i x2 y2 z2 m2 km2) ?_
          conv => whnf
          refine ⟨fun _ => ?_, fun h => absurd h (by simp [w2])⟩
          conv => whnf
          refine ⟨fun h => absurd h (by rw [w1]; decide), fun _ => ?_⟩
          conv => whnf
          refine ⟨fun _ => ?_, fun h => absurd h (by simp [hft])⟩
          conv => whnf
          refine ACall.use' (GreatestSum_i 3 3 z1 m1 km1 hq1.toGB.good) ?_
          rintro v hr ⟨rfl, g, hgs, rfl⟩
          have hle := loc_eq hf hgs
          conv => whnf
          refine ACall.use (IsLocal_i 3 3 z1 m1 km1) ?_
          conv => whnf
          refine ⟨fun _ => ?_, fun h => absurd h (by simp [])⟩
          conv => whnf
          refine ⟨fun _ => ?_, fun h => absurd h (by simp [hgd])⟩
          conv => whnf
          have e2 : IntKind.i64.wrap (2 * z1) = 2 * z1 := w64 (by have := hq1.z1; omega) (by have := hq1.z2; omega)
          rw [e2]
          refine ⟨fun hs => ?_, fun hs => ?_⟩
          · conv => whnf
            refine ⟨fun h => absurd h (by rw [hle, hs]; simp), fun _ => ?_⟩
            conv => whnf
            refine ⟨fun ho => ?_, fun ho => ?_⟩
            · conv => whnf
              exact ⟨rfl, rfl⟩
            · have hg : goodB x y z m = true := by simpa using ho
              conv => whnf
              refine ACallS.view (R := [(0, .row 0)]) (args' := [.ag [.c (.int .i64 (x)), .c (.int .i64 (y)), .c (.int .i64 (z)), .t (.rows m)]]) (st' := (⟨264, [(3, .ptr 0 0), (4, .c (.bool (lcV x y z m)))], [(0, .cells 26 [.c (.int .i64 (x)), .c (.int .i64 (y)), .c (.int .i64 (z)), .t (.rows m)])], 1⟩ : St)) (by refine ⟨rfl, rfl, ?_, ?_⟩ <;> ((repeat' (first | exact trivial | exact rfl | refine And.intro ?_ ?_)) <;> (try ((conv => whnf); first | refine vint ?_ | refine vboo ?_ | refine rint ?_ | refine rrow ?_ | skip)) <;> (try first | omega | (simp; done) | ((repeat rw [flts_closed _ (by assumption)]); exact vws_closed _ (by assumption))))) ⟨⟨rfl, rfl, rfl, rfl, trivial⟩, trivial⟩ ?_
              exact key hg
          · conv => whnf
            refine ⟨fun h => absurd h (by rw [hle, hs]; simp), fun _ => ?_⟩
            conv => whnf
            refine ⟨fun ho => ?_, fun ho => ?_⟩
            · conv => whnf
              exact ⟨rfl, rfl⟩
            · have hg : goodB x y z m = true := by simpa using ho
              conv => whnf
              refine ACallS.view (R := [(0, .row 0)]) (args' := [.ag [.c (.int .i64 (x)), .c (.int .i64 (y)), .c (.int .i64 (z)), .t (.rows m)]]) (st' := (⟨264, [(3, .ptr 0 0), (4, .c (.bool (lcV x y z m)))], [(0, .cells 26 [.c (.int .i64 (x)), .c (.int .i64 (y)), .c (.int .i64 (z)), .t (.rows m)])], 1⟩ : St)) (by refine ⟨rfl, rfl, ?_, ?_⟩ <;> ((repeat' (first | exact trivial | exact rfl | refine And.intro ?_ ?_)) <;> (try ((conv => whnf); first | refine vint ?_ | refine vboo ?_ | refine rint ?_ | refine rrow ?_ | skip)) <;> (try first | omega | (simp; done) | ((repeat rw [flts_closed _ (by assumption)]); exact vws_closed _ (by assumption))))) ⟨⟨rfl, rfl, rfl, rfl, trivial⟩, trivial⟩ ?_
              exact key hg
        · conv => whnf
          refine ⟨fun _ => ?_, fun h => absurd h (by simp [hft])⟩
          conv => whnf
          refine ACall.use' (GreatestSum_i 3 3 z1 m1 km1 hq1.toGB.good) ?_
          rintro v hr ⟨rfl, g, hgs, rfl⟩
          have hle := loc_eq hf hgs
          conv => whnf
          refine ACall.use (IsLocal_i 3 3 z1 m1 km1) ?_
          conv => whnf
          refine ⟨fun _ => ?_, fun h => absurd h (by simp [])⟩
          conv => whnf
          refine ⟨fun _ => ?_, fun h => absurd h (by simp [hgd])⟩
          conv => whnf
          have e2 : IntKind.i64.wrap (2 * z1) = 2 * z1 := w64 (by have := hq1.z1; omega) (by have := hq1.z2; omega)
          rw [e2]
          refine ⟨fun hs => ?_, fun hs => ?_⟩
          · conv => whnf
            refine ⟨fun h => absurd h (by rw [hle, hs]; simp), fun _ => ?_⟩
            conv => whnf
            refine ⟨fun ho => ?_, fun ho => ?_⟩
            · conv => whnf
              exact ⟨rfl, rfl⟩
            · have hg : goodB x y z m = true := by simpa using ho
              conv => whnf
              refine ACallS.view (R := [(0, .row 0)]) (args' := [.ag [.c (.int .i64 (x)), .c (.int .i64 (y)), .c (.int .i64 (z)), .t (.rows m)]]) (st' := (⟨264, [(3, .ptr 0 0), (4, .c (.bool (lcV x y z m)))], [(0, .cells 26 [.c (.int .i64 (x)), .c (.int .i64 (y)), .c (.int .i64 (z)), .t (.rows m)])], 1⟩ : St)) (by refine ⟨rfl, rfl, ?_, ?_⟩ <;> ((repeat' (first | exact trivial | exact rfl | refine And.intro ?_ ?_)) <;> (try ((conv => whnf); first | refine vint ?_ | refine vboo ?_ | refine rint ?_ | refine rrow ?_ | skip)) <;> (try first | omega | (simp; done) | ((repeat rw [flts_closed _ (by assumption)]); exact vws_closed _ (by assumption))))) ⟨⟨rfl, rfl, rfl, rfl, trivial⟩, trivial⟩ ?_
              exact key hg
          · conv => whnf
            refine ⟨fun h => absurd h (by rw [hle, hs]; simp), fun _ => ?_⟩
            conv => whnf
            refine ⟨fun ho => ?_, fun ho => ?_⟩
            · conv => whnf
              exact ⟨rfl, rfl⟩
            · have hg : goodB x y z m = true := by simpa using ho
              conv => whnf
              refine ACallS.view (R := [(0, .row 0)]) (args' := [.ag [.c (.int .i64 (x)), .c (.int .i64 (y)), .c (.int .i64 (z)), .t (.rows m)]]) (st' := (⟨264, [(3, .ptr 0 0), (4, .c (.bool (lcV x y z m)))], [(0, .cells 26 [.c (.int .i64 (x)), .c (.int .i64 (y)), .c (.int .i64 (z)), .t (.rows m)])], 1⟩ : St)) (by refine ⟨rfl, rfl, ?_, ?_⟩ <;> ((repeat' (first | exact trivial | exact rfl | refine And.intro ?_ ?_)) <;> (try ((conv => whnf); first | refine vint ?_ | refine vboo ?_ | refine rint ?_ | refine rrow ?_ | skip)) <;> (try first | omega | (simp; done) | ((repeat rw [flts_closed _ (by assumption)]); exact vws_closed _ (by assumption))))) ⟨⟨rfl, rfl, rfl, rfl, trivial⟩, trivial⟩ ?_
              exact key hg
      · (repeat (conv => whnf); (first | refine ⟨fun h => absurd h (by decide), fun _ => ?_⟩ | refine ⟨fun _ => ?_, fun h => absurd h (by decide)⟩)); conv => whnf
        refine ⟨fun _ => ?_, fun h => absurd h (by simp [hft])⟩
        conv => whnf
        refine ACall.use' (GreatestSum_i 3 3 z1 m1 km1 hq1.toGB.good) ?_
        rintro v hr ⟨rfl, g, hgs, rfl⟩
        have hle := loc_eq hf hgs
        conv => whnf
        refine ACall.use (IsLocal_i 3 3 z1 m1 km1) ?_
        conv => whnf
        refine ⟨fun _ => ?_, fun h => absurd h (by simp [])⟩
        conv => whnf
        refine ⟨fun _ => ?_, fun h => absurd h (by simp [hgd])⟩
        conv => whnf
        have e2 : IntKind.i64.wrap (2 * z1) = 2 * z1 := w64 (by have := hq1.z1; omega) (by have := hq1.z2; omega)
        rw [e2]
        refine ⟨fun hs => ?_, fun hs => ?_⟩
        · conv => whnf
          refine ⟨fun h => absurd h (by rw [hle, hs]; simp), fun _ => ?_⟩
          conv => whnf
          refine ⟨fun ho => ?_, fun ho => ?_⟩
          · conv => whnf
            exact ⟨rfl, rfl⟩
          · have hg : goodB x y z m = true := by simpa using ho
            conv => whnf
            refine ACallS.view (R := [(0, .row 0)]) (args' := [.ag [.c (.int .i64 (x)), .c (.int .i64 (y)), .c (.int .i64 (z)), .t (.rows m)]]) (st' := (⟨264, [(3, .ptr 0 0), (4, .c (.bool (lcV x y z m)))], [(0, .cells 26 [.c (.int .i64 (x)), .c (.int .i64 (y)), .c (.int .i64 (z)), .t (.rows m)])], 1⟩ : St)) (by refine ⟨rfl, rfl, ?_, ?_⟩ <;> ((repeat' (first | exact trivial | exact rfl | refine And.intro ?_ ?_)) <;> (try ((conv => whnf); first | refine vint ?_ | refine vboo ?_ | refine rint ?_ | refine rrow ?_ | skip)) <;> (try first | omega | (simp; done) | ((repeat rw [flts_closed _ (by assumption)]); exact vws_closed _ (by assumption))))) ⟨⟨rfl, rfl, rfl, rfl, trivial⟩, trivial⟩ ?_
            exact key hg
        · conv => whnf
          refine ⟨fun h => absurd h (by rw [hle, hs]; simp), fun _ => ?_⟩
          conv => whnf
          refine ⟨fun ho => ?_, fun ho => ?_⟩
          · conv => whnf
            exact ⟨rfl, rfl⟩
          · have hg : goodB x y z m = true := by simpa using ho
            conv => whnf
            refine ACallS.view (R := [(0, .row 0)]) (args' := [.ag [.c (.int .i64 (x)), .c (.int .i64 (y)), .c (.int .i64 (z)), .t (.rows m)]]) (st' := (⟨264, [(3, .ptr 0 0), (4, .c (.bool (lcV x y z m)))], [(0, .cells 26 [.c (.int .i64 (x)), .c (.int .i64 (y)), .c (.int .i64 (z)), .t (.rows m)])], 1⟩ : St)) (by refine ⟨rfl, rfl, ?_, ?_⟩ <;> ((repeat' (first | exact trivial | exact rfl | refine And.intro ?_ ?_)) <;> (try ((conv => whnf); first | refine vint ?_ | refine vboo ?_ | refine rint ?_ | refine rrow ?_ | skip)) <;> (try first | omega | (simp; done) | ((repeat rw [flts_closed _ (by assumption)]); exact vws_closed _ (by assumption))))) ⟨⟨rfl, rfl, rfl, rfl, trivial⟩, trivial⟩ ?_
            exact key hg
    · (repeat (conv => whnf); (first | refine ⟨fun h => absurd h (by decide), fun _ => ?_⟩ | refine ⟨fun _ => ?_, fun h => absurd h (by decide)⟩)); conv => whnf
      refine ⟨fun hone => ?_, fun hone => ?_⟩
      · conv => whnf
        refine ⟨fun his => ?_, fun his => ?_⟩
        · obtain ⟨w1, w2⟩ := wi_loc his
          conv => whnf
          refine ACall.use (IsLocal_i x2 y2 z2 m2 km2) ?_
          conv => whnf
          refine ⟨fun _ => ?_, fun h => absurd h (by simp [w2])⟩
          conv => whnf
          refine ⟨fun h => absurd h (by rw [w1]; decide), fun _ => ?_⟩
          conv => whnf
          refine ⟨fun h => absurd h (by simp [hf]), fun _ => ?_⟩
          conv => whnf
          refine ⟨fun ho => ?_, fun ho => ?_⟩
          · conv => whnf
            exact ⟨rfl, rfl⟩
          · have hg : goodB x y z m = true := by simpa using ho
            conv => whnf
            refine ACallS.view (R := [(0, .row 0)]) (args' := [.ag [.c (.int .i64 (x)), .c (.int .i64 (y)), .c (.int .i64 (z)), .t (.rows m)]]) (st' := (⟨264, [(3, .ptr 0 0), (4, .c (.bool (lcV x y z m)))], [(0, .cells 26 [.c (.int .i64 (x)), .c (.int .i64 (y)), .c (.int .i64 (z)), .t (.rows m)])], 1⟩ : St)) (by refine ⟨rfl, rfl, ?_, ?_⟩ <;> ((repeat' (first | exact trivial | exact rfl | refine And.intro ?_ ?_)) <;> (try ((conv => whnf); first | refine vint ?_ | refine vboo ?_ | refine rint ?_ | refine rrow ?_ | skip)) <;> (try first | omega | (simp; done) | ((repeat rw [flts_closed _ (by assumption)]); exact vws_closed _ (by assumption))))) ⟨⟨rfl, rfl, rfl, rfl, trivial⟩, trivial⟩ ?_
            exact key hg
        · conv => whnf
          refine ⟨fun h => absurd h (by simp [hf]), fun _ => ?_⟩
          conv => whnf
          refine ⟨fun ho => ?_, fun ho => ?_⟩
          · conv => whnf
            exact ⟨rfl, rfl⟩
          · have hg : goodB x y z m = true := by simpa using ho
            conv => whnf
            refine ACallS.view (R := [(0, .row 0)]) (args' := [.ag [.c (.int .i64 (x)), .c (.int .i64 (y)), .c (.int .i64 (z)), .t (.rows m)]]) (st' := (⟨264, [(3, .ptr 0 0), (4, .c (.bool (lcV x y z m)))], [(0, .cells 26 [.c (.int .i64 (x)), .c (.int .i64 (y)), .c (.int .i64 (z)), .t (.rows m)])], 1⟩ : St)) (by refine ⟨rfl, rfl, ?_, ?_⟩ <;> ((repeat' (first | exact trivial | exact rfl | refine And.intro ?_ ?_)) <;> (try ((conv => whnf); first | refine vint ?_ | refine vboo ?_ | refine rint ?_ | refine rrow ?_ | skip)) <;> (try first | omega | (simp; done) | ((repeat rw [flts_closed _ (by assumption)]); exact vws_closed _ (by assumption))))) ⟨⟨rfl, rfl, rfl, rfl, trivial⟩, trivial⟩ ?_
            exact key hg
      · (repeat (conv => whnf); (first | refine ⟨fun h => absurd h (by decide), fun _ => ?_⟩ | refine ⟨fun _ => ?_, fun h => absurd h (by decide)⟩)); conv => whnf
        refine ⟨fun h => absurd h (by simp [hf]), fun _ => ?_⟩
        conv => whnf
        refine ⟨fun ho => ?_, fun ho => ?_⟩
        · conv => whnf
          exact ⟨rfl, rfl⟩
        · have hg : goodB x y z m = true := by simpa using ho
          conv => whnf
          refine ACallS.view (R := [(0, .row 0)]) (args' := [.ag [.c (.int .i64 (x)), .c (.int .i64 (y)), .c (.int .i64 (z)), .t (.rows m)]]) (st' := (⟨264, [(3, .ptr 0 0), (4, .c (.bool (lcV x y z m)))], [(0, .cells 26 [.c (.int .i64 (x)), .c (.int .i64 (y)), .c (.int .i64 (z)), .t (.rows m)])], 1⟩ : St)) (by refine ⟨rfl, rfl, ?_, ?_⟩ <;> ((repeat' (first | exact trivial | exact rfl | refine And.intro ?_ ?_)) <;> (try ((conv => whnf); first | refine vint ?_ | refine vboo ?_ | refine rint ?_ | refine rrow ?_ | skip)) <;> (try first | omega | (simp; done) | ((repeat rw [flts_closed _ (by assumption)]); exact vws_closed _ (by assumption))))) ⟨⟨rfl, rfl, rfl, rfl, trivial⟩, trivial⟩ ?_
          exact key hg
  case x =>
    intro hg
    obtain ⟨nx, ny, rfl, rfl⟩ := goodB_nat hg
    have hG := GB.of hg
    have x3 := hG.x3; have y3 := hG.y3; have x1' := hG.x1; have y1' := hG.y1
    have elc := lcV_nat hg
    refine ACall.use (SwapPlayers_i nx ny z m km hg) ?_
    conv => whnf
    refine ACall.use (IsLocal_i (ny : Int) (nx : Int) z (swG nx ny m) (sw_sz hG.sw)) ?_
    conv => whnf
    refine ⟨fun _ => ?_, fun h => absurd h (by simp [])⟩
    conv => whnf
    refine ⟨fun _ => ?_, fun h => absurd h (by simp [hG.sw.good])⟩
    conv => whnf
    refine ⟨fun h => absurd h (by rw [lcV_nat hG.sw.good, elc, loc_sw hG]; simp), fun _ => ?_⟩
    conv => whnf
    have en : IntKind.i64.wrap ((nx : Int) + (ny : Int)) = ((nx + ny : Nat) : Int) := by rw [w64 (by omega) (by omega)]; omega
    refine ⟨nx + ny, en, en, by simp only [room]; omega, ?_⟩
    conv => whnf
    refine ⟨0, rfl, by rw [List.length_replicate]; omega, ?_⟩
    conv => whnf
    have he : OkE (nx + ny) ((List.replicate (nx + ny) (0 : Int)).set 0 1) := ⟨by simp, fun v hv => by
      rcases List.mem_or_eq_of_mem_set hv with h | rfl
      · rw [List.eq_of_mem_replicate h]; omega
      · omega⟩
    refine ACallS.view (R := [(0, .row 0)]) (args' := [.ag [.c (.int .i64 (nx)), .c (.int .i64 (ny)), .c (.int .i64 (z)), .t (.rows m)], .t (.ints .i64 ((List.replicate (nx + ny) (0 : Int)).set 0 1))]) (st' := (⟨264, [(3, .ptr 0 0), (4, .c (.bool (lcV nx ny z m)))], [(0, .cells 26 [.c (.int .i64 (nx)), .c (.int .i64 (ny)), .c (.int .i64 (z)), .t (.rows m)])], 1⟩ : St)) (by refine ⟨rfl, rfl, ?_, ?_⟩ <;> ((repeat' (first | exact trivial | exact rfl | refine And.intro ?_ ?_)) <;> (try ((conv => whnf); first | refine vint ?_ | refine vboo ?_ | refine rint ?_ | refine rrow ?_ | skip)) <;> (try first | omega | (simp; done) | ((repeat rw [flts_closed _ (by assumption)]); exact vws_closed _ (by assumption))))) ⟨⟨rfl, rfl, rfl, rfl, trivial⟩, ⟨rfl, rfl⟩, trivial⟩ ?_
    refine ACall.use (FlipAnswers_i nx ny z m km hg _ he) ?_
    conv => whnf
    refine ACall.use (IsLocal_i (nx : Int) (ny : Int) z (flG nx ny m ((List.replicate (nx + ny) (0 : Int)).set 0 1)) (sw_sz (hG.fl he))) ?_
    conv => whnf
    refine ⟨fun _ => ?_, fun h => absurd h (by simp [])⟩
    conv => whnf
    refine ⟨fun _ => ?_, fun h => absurd h (by simp [(hG.fl he).good])⟩
    conv => whnf
    refine ⟨fun h => absurd h (by rw [lcV_nat (hG.fl he).good, elc, loc_fl hG he]; simp), fun _ => ?_⟩
    conv => whnf
    refine ACall.use (IsQuiet_i (nx : Int) (ny : Int) z m km) ?_
    conv => whnf
    have eq : quietB nx ny z m = quietF nx ny m := by rw [quietB, hg, Bool.true_and, Int.toNat_natCast, Int.toNat_natCast]
    refine ⟨fun hx1 => ?_, fun hx1 => ?_⟩
    · conv => whnf
      refine ⟨fun hy1 => ?_, fun hy1 => ?_⟩
      · have e1 : (ny : Int) = 1 := by simpa using hy1
        conv => whnf
        refine ⟨congrArg (fun b => AVal.c (Value.bool b)) ?_, rfl⟩
        rw [elc, eq, loc_one (nx := nx) (ny := ny) (z := z) (m := m) (.inr (by omega))]
        simp
      · conv => whnf
        refine ⟨fun hn => ?_, fun hn => ?_⟩
        · have hl : locB nx ny z m = true := by rw [elc] at hn; simpa using hn
          conv => whnf
          refine ⟨congrArg (fun b => AVal.c (Value.bool b)) ?_, rfl⟩
          rw [eq, loc_quiet hl]
        · conv => whnf
          refine ⟨congrArg (fun b => AVal.c (Value.bool b)) ?_, rfl⟩
          first | rfl | exact hn
    · have e1 : (nx : Int) = 1 := by simpa using hx1
      (repeat (conv => whnf); (first | refine ⟨fun h => absurd h (by decide), fun _ => ?_⟩ | refine ⟨fun _ => ?_, fun h => absurd h (by decide)⟩)); conv => whnf
      refine ⟨congrArg (fun b => AVal.c (Value.bool b)) ?_, rfl⟩
      rw [elc, eq, loc_one (nx := nx) (ny := ny) (z := z) (m := m) (.inl (by omega))]
      simp
end Go.Proofs.YtkjdplglenjijaaGreat.L
