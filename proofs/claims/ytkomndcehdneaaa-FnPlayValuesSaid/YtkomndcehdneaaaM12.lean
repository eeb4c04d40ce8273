/- FnPlayValues, walked. -/
import Derived.Test.YtkomndcehdneaaaM4
import Derived.Test.YtkomndcehdneaaaM11
namespace Go.Proofs.Ytkomndcehdneaaa
open Go.Aw
set_option maxRecDepth 100000
set_option maxHeartbeats 16000000

theorem mp_of2 {h a b : Prop} (f : (h → a) → b) (x : h → a) : b := f x
theorem bp_mem (f : List (List Int)) (nx ny : Nat) : ∀ n, n ≤ 2 ^ (nx + ny) → ∀ r, r ∈ bpTo f nx ny n → r ∈ playsL (nx + ny)
  | 0, _, r, hr => by simp [bpTo] at hr
  | n + 1, hn, r, hr => by
    by_cases c : pwI f nx ny n = lvF f nx ny
    · rw [bpTo, if_pos c] at hr
      rcases List.mem_append.1 hr with h | h
      · exact bp_mem f nx ny n (by omega) r h
      · rw [List.mem_singleton] at h
        rw [h]; exact getD_mem (by rw [playsL_len]; omega)
    · rw [bpTo, if_neg c] at hr
      exact bp_mem f nx ny n (by omega) r hr
theorem pl_rows {n : Nat} (hn : n ≤ 6) {r : List Int} (hr : r ∈ playsL n) : r.length ≤ 6 := by
  obtain ⟨i, hi, rfl⟩ := List.mem_iff_getElem.1 hr
  have := (playsL_row hn hi).1
  have e : (playsL n)[i] = (playsL n).getD i [] := by simp [List.getD, hi]
  rw [e, this]; exact hn
theorem bpV_sm (x y : Int) (f : List (List Int)) : (bpV x y f).length ≤ 64 ∧ ∀ r, r ∈ bpV x y f → r.length ≤ 6 := by
  unfold bpV
  split
  · rename_i h
    obtain ⟨nx, ny, rfl, rfl, _, x3, _, y3, _⟩ := fnG_spec h
    rw [Int.toNat_natCast, Int.toNat_natCast]
    have h64 := two_pow6 (n := nx + ny) (by omega)
    have := bpTo_len f nx ny (2 ^ (nx + ny))
    exact ⟨by omega, fun r hr => pl_rows (by omega) (bp_mem f nx ny _ (Nat.le_refl _) r hr)⟩
  · exact ⟨by simp, fun r hr => by simp at hr⟩
theorem plV_sm (x y : Int) : (plV x y).length ≤ 64 ∧ ∀ r, r ∈ plV x y → r.length ≤ 6 := by
  unfold plV
  split
  · rename_i h
    obtain ⟨nx, ny, rfl, rfl, _, x3, _, y3, _⟩ := szOk_nat h
    rw [Int.toNat_natCast, Int.toNat_natCast, playsL_len]
    exact ⟨two_pow6 (by omega), fun r hr => pl_rows (by omega) hr⟩
  · exact ⟨by simp, fun r hr => by simp at hr⟩
theorem mbR_sq (x y : Int) (l : List Int) : ∃ n, n ≤ 9 ∧ Sq n (if shOk x y l = true then mixL l x.toNat y.toNat else []) := by
  split
  · rename_i h
    obtain ⟨nx, ny, rfl, rfl, _, x3, _, y3, _⟩ := shOk_spec h
    rw [Int.toNat_natCast, Int.toNat_natCast]
    exact ⟨nx * ny, Nat.mul_le_mul x3 y3, Sq.mix l nx ny _⟩
  · exact ⟨0, by omega, rfl, fun r hr => by simp at hr⟩
theorem alk_self (z : Int) (m : List (List Int)) : alkB z z m m = true := by
  simp [alkB, alkN]
theorem inI {l : List Int} {n : Nat} (hl : l.length ≤ n) (hn : n ≤ 100) (hv : ∀ v, v ∈ l → InR v) : OkI l ∧ SzI l := ⟨⟨by omega, hv⟩, by unfold SzI; omega⟩

theorem py_ok {nx ny : Nat} {f : List (List Int)} {p : List Int} (hf : fnG nx ny f = true) (hx : nx ≤ 3) (hy : ny ≤ 3) (p1 : p.length = nx + ny) (p2 : ∀ v, v ∈ p → 0 ≤ v ∧ v ≤ 1) : pwOk nx ny f p = true := by
  rw [pwOk, hf, Bool.true_and, pyB, show W ((nx : Int) + (ny : Int)) = (nx : Int) + ny from w64 (by omega) (by omega)]
  simp only [Bool.and_eq_true, decide_eq_true_eq, rowIn_iff]
  exact ⟨by omega, p2⟩
theorem mulW {z v : Int} (hz : 0 ≤ z ∧ z ≤ 1000) (hv : -3564000 ≤ v ∧ v ≤ 3564000) : -3564000000 ≤ z * v ∧ z * v ≤ 3564000000 := by
  have h1 : z * v ≤ z * 3564000 := Int.mul_le_mul_of_nonneg_left hv.2 hz.1
  have h2 : z * (-3564000) ≤ z * v := Int.mul_le_mul_of_nonneg_left hv.1 hz.1
  omega
theorem im_local {x y z : Int} {m : List (List Int)} {l : List Int} (h4 : imOk x y z m l = true) (h5 : imV x y z m l = true) : goodB x y z m = true ∧ L.lcV x y z m = true := by
  rw [imV, h4, Bool.true_and] at h5
  rw [imOk, Bool.and_eq_true] at h4
  obtain ⟨nx, ny, rfl, rfl, u1, u3, w1, w3, hsh, s1, s2⟩ := sh_of h4.2
  rw [Int.toNat_natCast, Int.toNat_natCast] at h5
  exact ⟨h4.1, (alike_of u1 u3 w1 w3 hsh s1 s2 h4.1 h5).local⟩

theorem FnPlayValues_spec (code : List Int) (hc : OkB code) : FSpec Try.prog 4 [.t (.ints .u8 code)] (ex (.c (.bool true)) []) := by
  refine fspec tyOk mx Try.func4 rfl (by kernel_rfl) rfl ?_
  conv => whnf
  refine ACall.use (vBig_spec code) ?_
  refine ⟨fun h => ?_, fun h => ?_⟩
  · conv => whnf
    exact ⟨rfl, rfl⟩
  have hlen : code.length ≤ 65536 := by have := of_decide_eq_false h; omega
  clear h
  conv => whnf
  refine ACall.use' (DrawLocalValue_spec code hc) ?_
  rintro v hr ⟨rfl, x, y, f, hx, hy, hf, rfl⟩
  have kf := smb_sz hf
  have b1 := bpV_sm x y f
  have b2 := plV_sm x y
  conv => whnf
  refine ACall.use (LocalValue_i x y f kf) ?_
  conv => whnf
  refine ACall.use (LocalValue_s x y f kf) ?_
  conv => whnf
  refine ACall.use (BestPlays_i x y f kf) ?_
  conv => whnf
  refine ACall.use (BestPlays_s x y f kf) ?_
  conv => whnf
  refine ACall.use (PlaysOf_i x y) ?_
  conv => whnf
  refine ACall.use (PlaysOf_s x y) ?_
  conv => whnf
  refine ACall.use' (vCut_spec code hc hlen 1 (by omega)) ?_
  rintro v hr ⟨rfl, c1, hc1, rfl⟩
  conv => whnf
  refine ACall.use' (DrawMixtureBox_spec c1 hc1) ?_
  rintro v hr ⟨rfl, u, w, l, hu, hw, hl, hli, rfl⟩
  have kl : SzI l := by unfold SzI; omega
  obtain ⟨nb, hnb, sqb⟩ := mbR_sq u w l
  have kb := sq_sz sqb (by omega)
  conv => whnf
  refine ACall.use ((MixtureBox_i u w l kl).told (x' := .tu [.ag [.c (.int .i64 (if shOk u w l then u else 0)), .c (.int .i64 (if shOk u w l then w else 0)), .c (.int .i64 (if shOk u w l then sumF l l.length else 0)), .t (.rows (if shOk u w l then mixL l u.toNat w.toNat else []))], .c (.bool (shOk u w l))]) ⟨⟨rfl, rfl, rfl, ⟨rfl, rfl⟩, trivial⟩, rfl, trivial⟩) ?_
  conv => whnf
  refine ACall.use ((MixtureBox_s u w l kl).told (x' := .tu [.ag [.c (.int .i64 (if shOk u w l then u else 0)), .c (.int .i64 (if shOk u w l then w else 0)), .c (.int .i64 (if shOk u w l then sumF l l.length else 0)), .t (.rows (if shOk u w l then mixL l u.toNat w.toNat else []))], .c (.bool (shOk u w l))]) ⟨⟨rfl, rfl, rfl, ⟨rfl, rfl⟩, trivial⟩, rfl, trivial⟩) ?_
  conv => whnf
  refine ACall.use' (vCut_spec code hc hlen 2 (by omega)) ?_
  rintro v hr ⟨rfl, c2, hc2, rfl⟩
  conv => whnf
  refine ACall.use' (DrawIsMixture_spec c2 hc2) ?_
  rintro v hr ⟨rfl, kx, ky, kz, km, l2, hkx, hky, hkz, skm, hl2, hli2, rfl⟩
  have kl2 : SzI l2 := by unfold SzI; omega
  conv => whnf
  refine ACall.use (IsMixture_i kx ky kz km skm l2 kl2) ?_
  conv => whnf
  refine ACall.use (IsMixture_s kx ky kz km skm l2 kl2) ?_
  conv => whnf
  refine ⟨fun _ => ?_, fun h => absurd h (by simp [])⟩
  conv => whnf
  refine ⟨fun _ => ?_, fun h => absurd h (by simp [])⟩
  conv => whnf
  refine ⟨fun _ => ?_, fun h => absurd h (by simp [])⟩
  conv => whnf
  refine ACall.use (vTable_spec (bpV x y f) (bpV x y f) (by omega) (fun r hr => by have := b1.2 r hr; omega)) ?_
  conv => whnf
  refine ⟨fun _ => ?_, fun h => absurd h (by simp [])⟩
  conv => whnf
  refine ⟨fun _ => ?_, fun h => absurd h (by simp [])⟩
  conv => whnf
  refine ACall.use (vTable_spec (plV x y) (plV x y) (by omega) (fun r hr => by have := b2.2 r hr; omega)) ?_
  conv => whnf
  refine ⟨fun _ => ?_, fun h => absurd h (by simp [])⟩
  conv => whnf
  refine ⟨fun _ => ?_, fun h => absurd h (by simp [])⟩
  conv => whnf
  refine ACall.use (vBox_spec _ _ _ _ _ (by rw [sqb.1]; omega) (fun r hr => by rw [sqb.2 r hr]; omega)) ?_
  conv => whnf
  refine ⟨fun _ => ?_, fun h => absurd h (by simp [])⟩
  conv => whnf
  refine ⟨fun _ => ?_, fun h => absurd h (by simp [])⟩
  conv => whnf
  refine ⟨fun _ => ?_, fun h => absurd h (by simp [])⟩
  conv => whnf
  refine ⟨fun h => absurd h (by simp []), fun _ => ?_⟩
  conv => whnf
  apply mp_of2 (h := imOk kx ky kz km l2 = true ∧ imV kx ky kz km l2 = true)
  case f =>
    intro key
    refine ⟨fun h1 => ?_, fun h1 => ?_⟩
    · obtain ⟨nu, nw, eu, ew, u1, u3, w1, w3, hsh, s1, s2⟩ := sh_of h1
      have MX := mix_of u1 u3 w1 w3 hsh s1 s2
      have gb : goodB (if shOk u w l = true then u else 0) (if shOk u w l = true then w else 0) (if shOk u w l = true then sumF l l.length else 0) (if shOk u w l = true then mixL l u.toNat w.toNat else []) = true := by subst eu; subst ew; rw [if_pos h1, if_pos h1, if_pos h1, if_pos h1, Int.toNat_natCast, Int.toNat_natCast]; exact MX.good
      have qb : quietB (if shOk u w l = true then u else 0) (if shOk u w l = true then w else 0) (if shOk u w l = true then sumF l l.length else 0) (if shOk u w l = true then mixL l u.toNat w.toNat else []) = true := by subst eu; subst ew; rw [if_pos h1, if_pos h1, if_pos h1, if_pos h1, Int.toNat_natCast, Int.toNat_natCast]; exact MX.quietB
      have lb : L.lcV (if shOk u w l = true then u else 0) (if shOk u w l = true then w else 0) (if shOk u w l = true then sumF l l.length else 0) (if shOk u w l = true then mixL l u.toNat w.toNat else []) = true := by subst eu; subst ew; rw [if_pos h1, if_pos h1, if_pos h1, if_pos h1, Int.toNat_natCast, Int.toNat_natCast]; exact MX.local
      have mo : imOk (if shOk u w l = true then u else 0) (if shOk u w l = true then w else 0) (if shOk u w l = true then sumF l l.length else 0) (if shOk u w l = true then mixL l u.toNat w.toNat else []) l = true := by subst eu; subst ew; rw [if_pos h1, if_pos h1, if_pos h1, if_pos h1, Int.toNat_natCast, Int.toNat_natCast]; exact (by rw [imOk, MX.good, h1]; rfl)
      have mv : imV (if shOk u w l = true then u else 0) (if shOk u w l = true then w else 0) (if shOk u w l = true then sumF l l.length else 0) (if shOk u w l = true then mixL l u.toNat w.toNat else []) l = true := by subst eu; subst ew; rw [if_pos h1, if_pos h1, if_pos h1, if_pos h1, Int.toNat_natCast, Int.toNat_natCast]; exact (by rw [imV, imOk, MX.good, h1, Int.toNat_natCast, Int.toNat_natCast, alk_self]; rfl)
      conv => whnf
      refine ACall.use (IsQuiet_i _ _ _ _ kb) ?_
      conv => whnf
      refine ACall.use (L.IsLocal_i _ _ _ _ kb) ?_
      conv => whnf
      refine ACall.use (IsMixture_i _ _ _ _ kb l kl) ?_
      conv => whnf
      refine ⟨fun _ => ?_, fun h => absurd h (by rw [gb]; decide)⟩
      conv => whnf
      refine ⟨fun _ => ?_, fun h => absurd h (by rw [gb]; decide)⟩
      conv => whnf
      refine ⟨fun _ => ?_, fun h => absurd h (by rw [mo]; decide)⟩
      conv => whnf
      refine ⟨fun _ => ?_, fun h => absurd h (by rw [qb]; decide)⟩
      conv => whnf
      refine ⟨fun _ => ?_, fun h => absurd h (by rw [lb]; decide)⟩
      conv => whnf
      refine ⟨fun h => absurd h (by rw [mv]; decide), fun _ => ?_⟩
      conv => whnf
      refine ⟨fun h2 => ?_, fun h2 => ?_⟩
      · conv => whnf
        refine ⟨fun h3 => ?_, fun h3 => ?_⟩
        · conv => whnf
          refine ⟨fun h6 => ?_, fun h6 => ?_⟩
          · have wo : woOk (if shOk u w l = true then u else 0) (if shOk u w l = true then w else 0) (if shOk u w l = true then sumF l l.length else 0) (if shOk u w l = true then mixL l u.toNat w.toNat else []) f = true := by
              have e3 := beq_iff_eq.1 h3
              have e6 := beq_iff_eq.1 h6
              rw [woOk, gb, if_pos h1, if_pos h1, e3, e6, h2]; rfl
            have wl : woV (if shOk u w l = true then u else 0) (if shOk u w l = true then w else 0) (if shOk u w l = true then sumF l l.length else 0) (if shOk u w l = true then mixL l u.toNat w.toNat else []) f ≤ (if shOk u w l = true then sumF l l.length else 0) * lvV x y f ∧ (-3564000000 ≤ (if shOk u w l = true then sumF l l.length else 0) * lvV x y f ∧ (if shOk u w l = true then sumF l l.length else 0) * lvV x y f ≤ 3564000000) := by
              have e3 := beq_iff_eq.1 h3
              have e6 := beq_iff_eq.1 h6
              rw [woV, if_pos wo, lvV, if_pos h2]
              rw [← e3, ← e6] at h2 ⊢
              subst eu; subst ew
              rw [if_pos h1, if_pos h1, Int.toNat_natCast, Int.toNat_natCast]
              have k1 := lvF_bd h2 u3 w3
              have k2 := MX.worth h2
              exact ⟨k2, mulW ⟨by omega, s2⟩ k1⟩
            have ww : IntKind.i64.wrap ((if shOk u w l = true then sumF l l.length else 0) * lvV x y f) = (if shOk u w l = true then sumF l l.length else 0) * lvV x y f := w64 (by omega) (by omega)
            conv => whnf
            refine ACall.use (WorthOf_i _ _ _ _ f kb kf) ?_
            conv => whnf
            refine ⟨fun _ => ?_, fun h => absurd h (by rw [wo]; decide)⟩
            conv => whnf
            rw [ww]
            refine ⟨fun h => absurd (of_decide_eq_true h) (Int.not_lt.2 wl.1), fun _ => ?_⟩
            conv => whnf
            refine ⟨fun h4 => ?_, fun h4 => ?_⟩
            · conv => whnf
              refine ⟨fun h5 => ?_, fun h5 => ?_⟩
              · conv => whnf
                refine ACallS.view (R := []) (args' := [.ag [.c (.int .i64 (kx)), .c (.int .i64 (ky)), .c (.int .i64 (kz)), .t (.rows km)]]) (st' := (⟨336, [(2, .c (.bool false)), (3, .c (.int .i64 (x))), (4, .c (.int .i64 (y))), (5, .t (.rows f)), (6, .c (.int .i64 (lvV x y f))), (7, .c (.bool (fnG x y f))), (10, .t (.rows (bpV x y f))), (14, .t (.rows (plV x y))), (15, .c (.bool (szOk x y)))], [], 0⟩ : St)) (by refine ⟨rfl, rfl, ?_, ?_⟩ <;> ((repeat' (first | exact trivial | exact rfl | refine And.intro ?_ ?_)) <;> (try ((conv => whnf); first | refine vint ?_ | refine vboo ?_ | refine rint ?_ | refine rrow ?_ | skip)) <;> (try first | omega | (simp; done) | ((repeat rw [flts_closed _ (by assumption)]); exact vws_closed _ (by assumption))))) ⟨⟨rfl, rfl, rfl, rfl, trivial⟩, trivial⟩ ?_
                exact key ⟨h4, h5⟩
              · conv => whnf
                refine ⟨fun ho => ?_, fun ho => ?_⟩
                · conv => whnf
                  exact ⟨rfl, rfl⟩
                have hfn : fnG x y f = true := by simpa using ho
                obtain ⟨nx, ny, rfl, rfl, x1, x3, y1, y3, f1, _, f3, _⟩ := fnG_spec hfn
                have hsz : szOk (nx : Int) ny = true := by
                  have h := hfn
                  simp only [fnG, Bool.and_eq_true] at h
                  exact h.1.1
                have hpl := playsL_len (nx + ny)
                have h64 := two_pow6 (n := nx + ny) (by omega)
                have epl : plV (nx : Int) ny = playsL (nx + ny) := by rw [plV, if_pos hsz, Int.toNat_natCast, Int.toNat_natCast]
                have ebp : bpV (nx : Int) ny f = bpTo f nx ny (2 ^ (nx + ny)) := by rw [bpV, if_pos hfn, Int.toNat_natCast, Int.toNat_natCast]
                have elv : lvV (nx : Int) ny f = lvF f nx ny := by rw [lvV, if_pos hfn, Int.toNat_natCast, Int.toNat_natCast]
                have bpos := bp_pos (f := f) (nx := nx) (ny := ny)
                have blen := bpTo_len f nx ny (2 ^ (nx + ny))
                rw [epl, ebp, elv]
                conv => whnf
                refine ⟨fun _ => ?_, fun h => absurd h (by rw [hsz]; decide)⟩
                conv => whnf
                rw [natAdd (by omega)]
                refine ⟨by omega, ?_⟩
                conv => whnf
                rw [shl_one (by omega)]
                refine ⟨fun _ => ?_, fun h => absurd h (by rw [hpl]; simp)⟩
                conv => whnf
                refine ⟨fun h => absurd (by simpa using h) (Nat.pos_iff_ne_zero.1 bpos), fun _ => ?_⟩
                conv => whnf
                refine aloopI tyOk mx (fun i : Nat => (⟨336, [(2, .c (.bool false)), (3, .c (.int .i64 (nx))), (4, .c (.int .i64 (ny))), (5, .t (.rows f)), (6, .c (.int .i64 (lvF f nx ny))), (10, .t (.rows (bpTo f nx ny (2 ^ (nx + ny))))), (14, .t (.rows (playsL (nx + ny)))), (41, .c (.int .i64 ((bpTo f nx ny i).length))), (42, .c (.int .i64 (i)))], [], 3⟩ : St)) (fun i => i ≤ (playsL (nx + ny)).length) (fun i => (playsL (nx + ny)).length - i) 0 (Nat.zero_le _) none (by refine ⟨rfl, rfl, ?_, ?_⟩ <;> ((repeat' (first | exact trivial | exact rfl | refine And.intro ?_ ?_)) <;> (try ((conv => whnf); first | refine vint ?_ | refine vboo ?_ | refine rint ?_ | refine rrow ?_ | skip)) <;> (try first | omega | (simp; done) | ((repeat rw [flts_closed _ (by assumption)]); exact vws_closed _ (by assumption))))) (fun i hi => ?_)
                conv => whnf
                refine ⟨fun h => ?_, fun h => ?_⟩
                · have h := ltT h
                  have hi2 : i < 2 ^ (nx + ny) := by omega
                  obtain ⟨p1, p2⟩ := playsL_row (n := nx + ny) (by omega) h
                  have kp : SzI ((playsL (nx + ny)).getD i []) := by unfold SzI; omega
                  have epy : pwOk (nx : Int) ny f ((playsL (nx + ny)).getD i []) = true := py_ok hfn x3 y3 p1 p2
                  have evw : pwV (nx : Int) ny f ((playsL (nx + ny)).getD i []) = pwI f nx ny i := by rw [pwV, if_pos epy, Int.toNat_natCast, Int.toNat_natCast]; rfl
                  have le : pwI f nx ny i ≤ lvF f nx ny := lvN_ge _ _ i hi2
                  have bln := bpTo_len f nx ny i
                  conv => whnf
                  refine ⟨i, rfl, h, ?_⟩
                  conv => whnf
                  refine ACall.use (PlayWorth_i (nx : Int) ny f _ kf kp) ?_
                  rw [evw]
                  conv => whnf
                  refine ⟨fun _ => ?_, fun h => absurd h (by rw [epy]; decide)⟩
                  conv => whnf
                  refine ⟨fun h => absurd (of_decide_eq_true h) (Int.not_lt.2 le), fun _ => ?_⟩
                  conv => whnf
                  refine ⟨fun h5 => ?_, fun h5 => ?_⟩
                  · have h5 : pwI f nx ny i = lvF f nx ny := by simpa using h5
                    obtain ⟨c1, c2⟩ := bp_at hi2 h5
                    have e5 : bpTo f nx ny (i + 1) = bpTo f nx ny i ++ [(playsL (nx + ny)).getD i []] := by rw [bpTo, if_pos h5]
                    have e6 : (bpTo f nx ny (i + 1)).length = (bpTo f nx ny i).length + 1 := by rw [e5]; simp
                    conv => whnf
                    refine ADraw.std tyOk mx ⟨by kernel_rfl, ?_⟩
                    conv => whnf
                    refine ⟨fun _ => ?_, fun h => absurd (of_decide_eq_true h) (by omega)⟩
                    conv => whnf
                    refine ⟨(bpTo f nx ny i).length, rfl, c1, ?_⟩
                    conv => whnf
                    refine ⟨i, rfl, h, ?_⟩
                    conv => whnf
                    refine QCall.use (vInts_spec _ _ (by rw [c2, p1]; omega)) ?_
                    conv => whnf
                    refine ⟨fun h => absurd h (by rw [c2]; simp), fun _ => ?_⟩
                    conv => whnf
                    rw [nat_wrap (k := (bpTo f nx ny i).length) (by omega), nat_wrap (k := i) (by omega), ← e6]
                    refine ⟨i + 1, none, ?_, by omega, by omega⟩
                    (refine ⟨rfl, rfl, ?_, ?_⟩ <;> ((repeat' (first | exact trivial | exact rfl | refine And.intro ?_ ?_)) <;> (try ((conv => whnf); first | refine vint ?_ | refine vboo ?_ | refine rint ?_ | refine rrow ?_ | skip)) <;> (try first | omega | (simp; done) | ((repeat rw [flts_closed _ (by assumption)]); exact vws_closed _ (by assumption)))))
                  · have h5 : ¬ pwI f nx ny i = lvF f nx ny := by simpa using h5
                    have e5 : bpTo f nx ny (i + 1) = bpTo f nx ny i := by rw [bpTo, if_neg h5]
                    conv => whnf
                    rw [nat_wrap (by omega)]
                    refine ⟨i + 1, none, ?_, by omega, by omega⟩
                    rw [e5]
                    (refine ⟨rfl, rfl, ?_, ?_⟩ <;> ((repeat' (first | exact trivial | exact rfl | refine And.intro ?_ ?_)) <;> (try ((conv => whnf); first | refine vint ?_ | refine vboo ?_ | refine rint ?_ | refine rrow ?_ | skip)) <;> (try first | omega | (simp; done) | ((repeat rw [flts_closed _ (by assumption)]); exact vws_closed _ (by assumption)))))
                · have h' := ltF h
                  obtain rfl : i = (playsL (nx + ny)).length := by omega
                  conv => whnf
                  refine ⟨?_, rfl⟩
                  rw [hpl]
                  simp
            · conv => whnf
              refine ⟨fun h => absurd h (by decide), fun _ => ?_⟩
              conv => whnf
              refine ⟨fun ho => ?_, fun ho => ?_⟩
              · conv => whnf
                exact ⟨rfl, rfl⟩
              have hfn : fnG x y f = true := by simpa using ho
              obtain ⟨nx, ny, rfl, rfl, x1, x3, y1, y3, f1, _, f3, _⟩ := fnG_spec hfn
              have hsz : szOk (nx : Int) ny = true := by
                have h := hfn
                simp only [fnG, Bool.and_eq_true] at h
                exact h.1.1
              have hpl := playsL_len (nx + ny)
              have h64 := two_pow6 (n := nx + ny) (by omega)
              have epl : plV (nx : Int) ny = playsL (nx + ny) := by rw [plV, if_pos hsz, Int.toNat_natCast, Int.toNat_natCast]
              have ebp : bpV (nx : Int) ny f = bpTo f nx ny (2 ^ (nx + ny)) := by rw [bpV, if_pos hfn, Int.toNat_natCast, Int.toNat_natCast]
              have elv : lvV (nx : Int) ny f = lvF f nx ny := by rw [lvV, if_pos hfn, Int.toNat_natCast, Int.toNat_natCast]
              have bpos := bp_pos (f := f) (nx := nx) (ny := ny)
              have blen := bpTo_len f nx ny (2 ^ (nx + ny))
              rw [epl, ebp, elv]
              conv => whnf
              refine ⟨fun _ => ?_, fun h => absurd h (by rw [hsz]; decide)⟩
              conv => whnf
              rw [natAdd (by omega)]
              refine ⟨by omega, ?_⟩
              conv => whnf
              rw [shl_one (by omega)]
              refine ⟨fun _ => ?_, fun h => absurd h (by rw [hpl]; simp)⟩
              conv => whnf
              refine ⟨fun h => absurd (by simpa using h) (Nat.pos_iff_ne_zero.1 bpos), fun _ => ?_⟩
              conv => whnf
              refine aloopI tyOk mx (fun i : Nat => (⟨336, [(2, .c (.bool false)), (3, .c (.int .i64 (nx))), (4, .c (.int .i64 (ny))), (5, .t (.rows f)), (6, .c (.int .i64 (lvF f nx ny))), (10, .t (.rows (bpTo f nx ny (2 ^ (nx + ny))))), (14, .t (.rows (playsL (nx + ny)))), (41, .c (.int .i64 ((bpTo f nx ny i).length))), (42, .c (.int .i64 (i)))], [], 3⟩ : St)) (fun i => i ≤ (playsL (nx + ny)).length) (fun i => (playsL (nx + ny)).length - i) 0 (Nat.zero_le _) none (by refine ⟨rfl, rfl, ?_, ?_⟩ <;> ((repeat' (first | exact trivial | exact rfl | refine And.intro ?_ ?_)) <;> (try ((conv => whnf); first | refine vint ?_ | refine vboo ?_ | refine rint ?_ | refine rrow ?_ | skip)) <;> (try first | omega | (simp; done) | ((repeat rw [flts_closed _ (by assumption)]); exact vws_closed _ (by assumption))))) (fun i hi => ?_)
              conv => whnf
              refine ⟨fun h => ?_, fun h => ?_⟩
              · have h := ltT h
                have hi2 : i < 2 ^ (nx + ny) := by omega
                obtain ⟨p1, p2⟩ := playsL_row (n := nx + ny) (by omega) h
                have kp : SzI ((playsL (nx + ny)).getD i []) := by unfold SzI; omega
                have epy : pwOk (nx : Int) ny f ((playsL (nx + ny)).getD i []) = true := py_ok hfn x3 y3 p1 p2
                have evw : pwV (nx : Int) ny f ((playsL (nx + ny)).getD i []) = pwI f nx ny i := by rw [pwV, if_pos epy, Int.toNat_natCast, Int.toNat_natCast]; rfl
                have le : pwI f nx ny i ≤ lvF f nx ny := lvN_ge _ _ i hi2
                have bln := bpTo_len f nx ny i
                conv => whnf
                refine ⟨i, rfl, h, ?_⟩
                conv => whnf
                refine ACall.use (PlayWorth_i (nx : Int) ny f _ kf kp) ?_
                rw [evw]
                conv => whnf
                refine ⟨fun _ => ?_, fun h => absurd h (by rw [epy]; decide)⟩
                conv => whnf
                refine ⟨fun h => absurd (of_decide_eq_true h) (Int.not_lt.2 le), fun _ => ?_⟩
                conv => whnf
                refine ⟨fun h5 => ?_, fun h5 => ?_⟩
                · have h5 : pwI f nx ny i = lvF f nx ny := by simpa using h5
                  obtain ⟨c1, c2⟩ := bp_at hi2 h5
                  have e5 : bpTo f nx ny (i + 1) = bpTo f nx ny i ++ [(playsL (nx + ny)).getD i []] := by rw [bpTo, if_pos h5]
                  have e6 : (bpTo f nx ny (i + 1)).length = (bpTo f nx ny i).length + 1 := by rw [e5]; simp
                  conv => whnf
                  refine ADraw.std tyOk mx ⟨by kernel_rfl, ?_⟩
                  conv => whnf
                  refine ⟨fun _ => ?_, fun h => absurd (of_decide_eq_true h) (by omega)⟩
                  conv => whnf
                  refine ⟨(bpTo f nx ny i).length, rfl, c1, ?_⟩
                  conv => whnf
                  refine ⟨i, rfl, h, ?_⟩
                  conv => whnf
                  refine QCall.use (vInts_spec _ _ (by rw [c2, p1]; omega)) ?_
                  conv => whnf
                  refine ⟨fun h => absurd h (by rw [c2]; simp), fun _ => ?_⟩
                  conv => whnf
                  rw [nat_wrap (k := (bpTo f nx ny i).length) (by omega), nat_wrap (k := i) (by omega), ← e6]
                  refine ⟨i + 1, none, ?_, by omega, by omega⟩
                  (refine ⟨rfl, rfl, ?_, ?_⟩ <;> ((repeat' (first | exact trivial | exact rfl | refine And.intro ?_ ?_)) <;> (try ((conv => whnf); first | refine vint ?_ | refine vboo ?_ | refine rint ?_ | refine rrow ?_ | skip)) <;> (try first | omega | (simp; done) | ((repeat rw [flts_closed _ (by assumption)]); exact vws_closed _ (by assumption)))))
                · have h5 : ¬ pwI f nx ny i = lvF f nx ny := by simpa using h5
                  have e5 : bpTo f nx ny (i + 1) = bpTo f nx ny i := by rw [bpTo, if_neg h5]
                  conv => whnf
                  rw [nat_wrap (by omega)]
                  refine ⟨i + 1, none, ?_, by omega, by omega⟩
                  rw [e5]
                  (refine ⟨rfl, rfl, ?_, ?_⟩ <;> ((repeat' (first | exact trivial | exact rfl | refine And.intro ?_ ?_)) <;> (try ((conv => whnf); first | refine vint ?_ | refine vboo ?_ | refine rint ?_ | refine rrow ?_ | skip)) <;> (try first | omega | (simp; done) | ((repeat rw [flts_closed _ (by assumption)]); exact vws_closed _ (by assumption)))))
              · have h' := ltF h
                obtain rfl : i = (playsL (nx + ny)).length := by omega
                conv => whnf
                refine ⟨?_, rfl⟩
                rw [hpl]
                simp
          · conv => whnf
            refine ⟨fun h4 => ?_, fun h4 => ?_⟩
            · conv => whnf
              refine ⟨fun h5 => ?_, fun h5 => ?_⟩
              · conv => whnf
                refine ACallS.view (R := []) (args' := [.ag [.c (.int .i64 (kx)), .c (.int .i64 (ky)), .c (.int .i64 (kz)), .t (.rows km)]]) (st' := (⟨336, [(2, .c (.bool false)), (3, .c (.int .i64 (x))), (4, .c (.int .i64 (y))), (5, .t (.rows f)), (6, .c (.int .i64 (lvV x y f))), (7, .c (.bool (fnG x y f))), (10, .t (.rows (bpV x y f))), (14, .t (.rows (plV x y))), (15, .c (.bool (szOk x y)))], [], 0⟩ : St)) (by refine ⟨rfl, rfl, ?_, ?_⟩ <;> ((repeat' (first | exact trivial | exact rfl | refine And.intro ?_ ?_)) <;> (try ((conv => whnf); first | refine vint ?_ | refine vboo ?_ | refine rint ?_ | refine rrow ?_ | skip)) <;> (try first | omega | (simp; done) | ((repeat rw [flts_closed _ (by assumption)]); exact vws_closed _ (by assumption))))) ⟨⟨rfl, rfl, rfl, rfl, trivial⟩, trivial⟩ ?_
                exact key ⟨h4, h5⟩
              · conv => whnf
                refine ⟨fun ho => ?_, fun ho => ?_⟩
                · conv => whnf
                  exact ⟨rfl, rfl⟩
                have hfn : fnG x y f = true := by simpa using ho
                obtain ⟨nx, ny, rfl, rfl, x1, x3, y1, y3, f1, _, f3, _⟩ := fnG_spec hfn
                have hsz : szOk (nx : Int) ny = true := by
                  have h := hfn
                  simp only [fnG, Bool.and_eq_true] at h
                  exact h.1.1
                have hpl := playsL_len (nx + ny)
                have h64 := two_pow6 (n := nx + ny) (by omega)
                have epl : plV (nx : Int) ny = playsL (nx + ny) := by rw [plV, if_pos hsz, Int.toNat_natCast, Int.toNat_natCast]
                have ebp : bpV (nx : Int) ny f = bpTo f nx ny (2 ^ (nx + ny)) := by rw [bpV, if_pos hfn, Int.toNat_natCast, Int.toNat_natCast]
                have elv : lvV (nx : Int) ny f = lvF f nx ny := by rw [lvV, if_pos hfn, Int.toNat_natCast, Int.toNat_natCast]
                have bpos := bp_pos (f := f) (nx := nx) (ny := ny)
                have blen := bpTo_len f nx ny (2 ^ (nx + ny))
                rw [epl, ebp, elv]
                conv => whnf
                refine ⟨fun _ => ?_, fun h => absurd h (by rw [hsz]; decide)⟩
                conv => whnf
                rw [natAdd (by omega)]
                refine ⟨by omega, ?_⟩
                conv => whnf
                rw [shl_one (by omega)]
                refine ⟨fun _ => ?_, fun h => absurd h (by rw [hpl]; simp)⟩
                conv => whnf
                refine ⟨fun h => absurd (by simpa using h) (Nat.pos_iff_ne_zero.1 bpos), fun _ => ?_⟩
                conv => whnf
                refine aloopI tyOk mx (fun i : Nat => (⟨336, [(2, .c (.bool false)), (3, .c (.int .i64 (nx))), (4, .c (.int .i64 (ny))), (5, .t (.rows f)), (6, .c (.int .i64 (lvF f nx ny))), (10, .t (.rows (bpTo f nx ny (2 ^ (nx + ny))))), (14, .t (.rows (playsL (nx + ny)))), (41, .c (.int .i64 ((bpTo f nx ny i).length))), (42, .c (.int .i64 (i)))], [], 3⟩ : St)) (fun i => i ≤ (playsL (nx + ny)).length) (fun i => (playsL (nx + ny)).length - i) 0 (Nat.zero_le _) none (by refine ⟨rfl, rfl, ?_, ?_⟩ <;> ((repeat' (first | exact trivial | exact rfl | refine And.intro ?_ ?_)) <;> (try ((conv => whnf); first | refine vint ?_ | refine vboo ?_ | refine rint ?_ | refine rrow ?_ | skip)) <;> (try first | omega | (simp; done) | ((repeat rw [flts_closed _ (by assumption)]); exact vws_closed _ (by assumption))))) (fun i hi => ?_)
                conv => whnf
                refine ⟨fun h => ?_, fun h => ?_⟩
                · have h := ltT h
                  have hi2 : i < 2 ^ (nx + ny) := by omega
                  obtain ⟨p1, p2⟩ := playsL_row (n := nx + ny) (by omega) h
                  have kp : SzI ((playsL (nx + ny)).getD i []) := by unfold SzI; omega
                  have epy : pwOk (nx : Int) ny f ((playsL (nx + ny)).getD i []) = true := py_ok hfn x3 y3 p1 p2
                  have evw : pwV (nx : Int) ny f ((playsL (nx + ny)).getD i []) = pwI f nx ny i := by rw [pwV, if_pos epy, Int.toNat_natCast, Int.toNat_natCast]; rfl
                  have le : pwI f nx ny i ≤ lvF f nx ny := lvN_ge _ _ i hi2
                  have bln := bpTo_len f nx ny i
                  conv => whnf
                  refine ⟨i, rfl, h, ?_⟩
                  conv => whnf
                  refine ACall.use (PlayWorth_i (nx : Int) ny f _ kf kp) ?_
                  rw [evw]
                  conv => whnf
                  refine ⟨fun _ => ?_, fun h => absurd h (by rw [epy]; decide)⟩
                  conv => whnf
                  refine ⟨fun h => absurd (of_decide_eq_true h) (Int.not_lt.2 le), fun _ => ?_⟩
                  conv => whnf
                  refine ⟨fun h5 => ?_, fun h5 => ?_⟩
                  · have h5 : pwI f nx ny i = lvF f nx ny := by simpa using h5
                    obtain ⟨c1, c2⟩ := bp_at hi2 h5
                    have e5 : bpTo f nx ny (i + 1) = bpTo f nx ny i ++ [(playsL (nx + ny)).getD i []] := by rw [bpTo, if_pos h5]
                    have e6 : (bpTo f nx ny (i + 1)).length = (bpTo f nx ny i).length + 1 := by rw [e5]; simp
                    conv => whnf
                    refine ADraw.std tyOk mx ⟨by kernel_rfl, ?_⟩
                    conv => whnf
                    refine ⟨fun _ => ?_, fun h => absurd (of_decide_eq_true h) (by omega)⟩
                    conv => whnf
                    refine ⟨(bpTo f nx ny i).length, rfl, c1, ?_⟩
                    conv => whnf
                    refine ⟨i, rfl, h, ?_⟩
                    conv => whnf
                    refine QCall.use (vInts_spec _ _ (by rw [c2, p1]; omega)) ?_
                    conv => whnf
                    refine ⟨fun h => absurd h (by rw [c2]; simp), fun _ => ?_⟩
                    conv => whnf
                    rw [nat_wrap (k := (bpTo f nx ny i).length) (by omega), nat_wrap (k := i) (by omega), ← e6]
                    refine ⟨i + 1, none, ?_, by omega, by omega⟩
                    (refine ⟨rfl, rfl, ?_, ?_⟩ <;> ((repeat' (first | exact trivial | exact rfl | refine And.intro ?_ ?_)) <;> (try ((conv => whnf); first | refine vint ?_ | refine vboo ?_ | refine rint ?_ | refine rrow ?_ | skip)) <;> (try first | omega | (simp; done) | ((repeat rw [flts_closed _ (by assumption)]); exact vws_closed _ (by assumption)))))
                  · have h5 : ¬ pwI f nx ny i = lvF f nx ny := by simpa using h5
                    have e5 : bpTo f nx ny (i + 1) = bpTo f nx ny i := by rw [bpTo, if_neg h5]
                    conv => whnf
                    rw [nat_wrap (by omega)]
                    refine ⟨i + 1, none, ?_, by omega, by omega⟩
                    rw [e5]
                    (refine ⟨rfl, rfl, ?_, ?_⟩ <;> ((repeat' (first | exact trivial | exact rfl | refine And.intro ?_ ?_)) <;> (try ((conv => whnf); first | refine vint ?_ | refine vboo ?_ | refine rint ?_ | refine rrow ?_ | skip)) <;> (try first | omega | (simp; done) | ((repeat rw [flts_closed _ (by assumption)]); exact vws_closed _ (by assumption)))))
                · have h' := ltF h
                  obtain rfl : i = (playsL (nx + ny)).length := by omega
                  conv => whnf
                  refine ⟨?_, rfl⟩
                  rw [hpl]
                  simp
            · conv => whnf
              refine ⟨fun h => absurd h (by decide), fun _ => ?_⟩
              conv => whnf
              refine ⟨fun ho => ?_, fun ho => ?_⟩
              · conv => whnf
                exact ⟨rfl, rfl⟩
              have hfn : fnG x y f = true := by simpa using ho
              obtain ⟨nx, ny, rfl, rfl, x1, x3, y1, y3, f1, _, f3, _⟩ := fnG_spec hfn
              have hsz : szOk (nx : Int) ny = true := by
                have h := hfn
                simp only [fnG, Bool.and_eq_true] at h
                exact h.1.1
              have hpl := playsL_len (nx + ny)
              have h64 := two_pow6 (n := nx + ny) (by omega)
              have epl : plV (nx : Int) ny = playsL (nx + ny) := by rw [plV, if_pos hsz, Int.toNat_natCast, Int.toNat_natCast]
              have ebp : bpV (nx : Int) ny f = bpTo f nx ny (2 ^ (nx + ny)) := by rw [bpV, if_pos hfn, Int.toNat_natCast, Int.toNat_natCast]
              have elv : lvV (nx : Int) ny f = lvF f nx ny := by rw [lvV, if_pos hfn, Int.toNat_natCast, Int.toNat_natCast]
              have bpos := bp_pos (f := f) (nx := nx) (ny := ny)
              have blen := bpTo_len f nx ny (2 ^ (nx + ny))
              rw [epl, ebp, elv]
              conv => whnf
              refine ⟨fun _ => ?_, fun h => absurd h (by rw [hsz]; decide)⟩
              conv => whnf
              rw [natAdd (by omega)]
              refine ⟨by omega, ?_⟩
              conv => whnf
              rw [shl_one (by omega)]
              refine ⟨fun _ => ?_, fun h => absurd h (by rw [hpl]; simp)⟩
              conv => whnf
              refine ⟨fun h => absurd (by simpa using h) (Nat.pos_iff_ne_zero.1 bpos), fun _ => ?_⟩
              conv => whnf
              refine aloopI tyOk mx (fun i : Nat => (⟨336, [(2, .c (.bool false)), (3, .c (.int .i64 (nx))), (4, .c (.int .i64 (ny))), (5, .t (.rows f)), (6, .c (.int .i64 (lvF f nx ny))), (10, .t (.rows (bpTo f nx ny (2 ^ (nx + ny))))), (14, .t (.rows (playsL (nx + ny)))), (41, .c (.int .i64 ((bpTo f nx ny i).length))), (42, .c (.int .i64 (i)))], [], 3⟩ : St)) (fun i => i ≤ (playsL (nx + ny)).length) (fun i => (playsL (nx + ny)).length - i) 0 (Nat.zero_le _) none (by refine ⟨rfl, rfl, ?_, ?_⟩ <;> ((repeat' (first | exact trivial | exact rfl | refine And.intro ?_ ?_)) <;> (try ((conv => whnf); first | refine vint ?_ | refine vboo ?_ | refine rint ?_ | refine rrow ?_ | skip)) <;> (try first | omega | (simp; done) | ((repeat rw [flts_closed _ (by assumption)]); exact vws_closed _ (by assumption))))) (fun i hi => ?_)
              conv => whnf
              refine ⟨fun h => ?_, fun h => ?_⟩
              · have h := ltT h
                have hi2 : i < 2 ^ (nx + ny) := by omega
                obtain ⟨p1, p2⟩ := playsL_row (n := nx + ny) (by omega) h
                have kp : SzI ((playsL (nx + ny)).getD i []) := by unfold SzI; omega
                have epy : pwOk (nx : Int) ny f ((playsL (nx + ny)).getD i []) = true := py_ok hfn x3 y3 p1 p2
                have evw : pwV (nx : Int) ny f ((playsL (nx + ny)).getD i []) = pwI f nx ny i := by rw [pwV, if_pos epy, Int.toNat_natCast, Int.toNat_natCast]; rfl
                have le : pwI f nx ny i ≤ lvF f nx ny := lvN_ge _ _ i hi2
                have bln := bpTo_len f nx ny i
                conv => whnf
                refine ⟨i, rfl, h, ?_⟩
                conv => whnf
                refine ACall.use (PlayWorth_i (nx : Int) ny f _ kf kp) ?_
                rw [evw]
                conv => whnf
                refine ⟨fun _ => ?_, fun h => absurd h (by rw [epy]; decide)⟩
                conv => whnf
                refine ⟨fun h => absurd (of_decide_eq_true h) (Int.not_lt.2 le), fun _ => ?_⟩
                conv => whnf
                refine ⟨fun h5 => ?_, fun h5 => ?_⟩
                · have h5 : pwI f nx ny i = lvF f nx ny := by simpa using h5
                  obtain ⟨c1, c2⟩ := bp_at hi2 h5
                  have e5 : bpTo f nx ny (i + 1) = bpTo f nx ny i ++ [(playsL (nx + ny)).getD i []] := by rw [bpTo, if_pos h5]
                  have e6 : (bpTo f nx ny (i + 1)).length = (bpTo f nx ny i).length + 1 := by rw [e5]; simp
                  conv => whnf
                  refine ADraw.std tyOk mx ⟨by kernel_rfl, ?_⟩
                  conv => whnf
                  refine ⟨fun _ => ?_, fun h => absurd (of_decide_eq_true h) (by omega)⟩
                  conv => whnf
                  refine ⟨(bpTo f nx ny i).length, rfl, c1, ?_⟩
                  conv => whnf
                  refine ⟨i, rfl, h, ?_⟩
                  conv => whnf
                  refine QCall.use (vInts_spec _ _ (by rw [c2, p1]; omega)) ?_
                  conv => whnf
                  refine ⟨fun h => absurd h (by rw [c2]; simp), fun _ => ?_⟩
                  conv => whnf
                  rw [nat_wrap (k := (bpTo f nx ny i).length) (by omega), nat_wrap (k := i) (by omega), ← e6]
                  refine ⟨i + 1, none, ?_, by omega, by omega⟩
                  (refine ⟨rfl, rfl, ?_, ?_⟩ <;> ((repeat' (first | exact trivial | exact rfl | refine And.intro ?_ ?_)) <;> (try ((conv => whnf); first | refine vint ?_ | refine vboo ?_ | refine rint ?_ | refine rrow ?_ | skip)) <;> (try first | omega | (simp; done) | ((repeat rw [flts_closed _ (by assumption)]); exact vws_closed _ (by assumption)))))
                · have h5 : ¬ pwI f nx ny i = lvF f nx ny := by simpa using h5
                  have e5 : bpTo f nx ny (i + 1) = bpTo f nx ny i := by rw [bpTo, if_neg h5]
                  conv => whnf
                  rw [nat_wrap (by omega)]
                  refine ⟨i + 1, none, ?_, by omega, by omega⟩
                  rw [e5]
                  (refine ⟨rfl, rfl, ?_, ?_⟩ <;> ((repeat' (first | exact trivial | exact rfl | refine And.intro ?_ ?_)) <;> (try ((conv => whnf); first | refine vint ?_ | refine vboo ?_ | refine rint ?_ | refine rrow ?_ | skip)) <;> (try first | omega | (simp; done) | ((repeat rw [flts_closed _ (by assumption)]); exact vws_closed _ (by assumption)))))
              · have h' := ltF h
                obtain rfl : i = (playsL (nx + ny)).length := by omega
                conv => whnf
                refine ⟨?_, rfl⟩
                rw [hpl]
                simp
        · conv => whnf
          refine ⟨fun h => absurd h (by decide), fun _ => ?_⟩
          conv => whnf
          refine ⟨fun h4 => ?_, fun h4 => ?_⟩
          · conv => whnf
            refine ⟨fun h5 => ?_, fun h5 => ?_⟩
            · conv => whnf
              refine ACallS.view (R := []) (args' := [.ag [.c (.int .i64 (kx)), .c (.int .i64 (ky)), .c (.int .i64 (kz)), .t (.rows km)]]) (st' := (⟨336, [(2, .c (.bool false)), (3, .c (.int .i64 (x))), (4, .c (.int .i64 (y))), (5, .t (.rows f)), (6, .c (.int .i64 (lvV x y f))), (7, .c (.bool (fnG x y f))), (10, .t (.rows (bpV x y f))), (14, .t (.rows (plV x y))), (15, .c (.bool (szOk x y)))], [], 0⟩ : St)) (by refine ⟨rfl, rfl, ?_, ?_⟩ <;> ((repeat' (first | exact trivial | exact rfl | refine And.intro ?_ ?_)) <;> (try ((conv => whnf); first | refine vint ?_ | refine vboo ?_ | refine rint ?_ | refine rrow ?_ | skip)) <;> (try first | omega | (simp; done) | ((repeat rw [flts_closed _ (by assumption)]); exact vws_closed _ (by assumption))))) ⟨⟨rfl, rfl, rfl, rfl, trivial⟩, trivial⟩ ?_
              exact key ⟨h4, h5⟩
            · conv => whnf
              refine ⟨fun ho => ?_, fun ho => ?_⟩
              · conv => whnf
                exact ⟨rfl, rfl⟩
              have hfn : fnG x y f = true := by simpa using ho
              obtain ⟨nx, ny, rfl, rfl, x1, x3, y1, y3, f1, _, f3, _⟩ := fnG_spec hfn
              have hsz : szOk (nx : Int) ny = true := by
                have h := hfn
                simp only [fnG, Bool.and_eq_true] at h
                exact h.1.1
              have hpl := playsL_len (nx + ny)
              have h64 := two_pow6 (n := nx + ny) (by omega)
              have epl : plV (nx : Int) ny = playsL (nx + ny) := by rw [plV, if_pos hsz, Int.toNat_natCast, Int.toNat_natCast]
              have ebp : bpV (nx : Int) ny f = bpTo f nx ny (2 ^ (nx + ny)) := by rw [bpV, if_pos hfn, Int.toNat_natCast, Int.toNat_natCast]
              have elv : lvV (nx : Int) ny f = lvF f nx ny := by rw [lvV, if_pos hfn, Int.toNat_natCast, Int.toNat_natCast]
              have bpos := bp_pos (f := f) (nx := nx) (ny := ny)
              have blen := bpTo_len f nx ny (2 ^ (nx + ny))
              rw [epl, ebp, elv]
              conv => whnf
              refine ⟨fun _ => ?_, fun h => absurd h (by rw [hsz]; decide)⟩
              conv => whnf
              rw [natAdd (by omega)]
              refine ⟨by omega, ?_⟩
              conv => whnf
              rw [shl_one (by omega)]
              refine ⟨fun _ => ?_, fun h => absurd h (by rw [hpl]; simp)⟩
              conv => whnf
              refine ⟨fun h => absurd (by simpa using h) (Nat.pos_iff_ne_zero.1 bpos), fun _ => ?_⟩
              conv => whnf
              refine aloopI tyOk mx (fun i : Nat => (⟨336, [(2, .c (.bool false)), (3, .c (.int .i64 (nx))), (4, .c (.int .i64 (ny))), (5, .t (.rows f)), (6, .c (.int .i64 (lvF f nx ny))), (10, .t (.rows (bpTo f nx ny (2 ^ (nx + ny))))), (14, .t (.rows (playsL (nx + ny)))), (41, .c (.int .i64 ((bpTo f nx ny i).length))), (42, .c (.int .i64 (i)))], [], 3⟩ : St)) (fun i => i ≤ (playsL (nx + ny)).length) (fun i => (playsL (nx + ny)).length - i) 0 (Nat.zero_le _) none (by refine ⟨rfl, rfl, ?_, ?_⟩ <;> ((repeat' (first | exact trivial | exact rfl | refine And.intro ?_ ?_)) <;> (try ((conv => whnf); first | refine vint ?_ | refine vboo ?_ | refine rint ?_ | refine rrow ?_ | skip)) <;> (try first | omega | (simp; done) | ((repeat rw [flts_closed _ (by assumption)]); exact vws_closed _ (by assumption))))) (fun i hi => ?_)
              conv => whnf
              refine ⟨fun h => ?_, fun h => ?_⟩
              · have h := ltT h
                have hi2 : i < 2 ^ (nx + ny) := by omega
                obtain ⟨p1, p2⟩ := playsL_row (n := nx + ny) (by omega) h
                have kp : SzI ((playsL (nx + ny)).getD i []) := by unfold SzI; omega
                have epy : pwOk (nx : Int) ny f ((playsL (nx + ny)).getD i []) = true := py_ok hfn x3 y3 p1 p2
                have evw : pwV (nx : Int) ny f ((playsL (nx + ny)).getD i []) = pwI f nx ny i := by rw [pwV, if_pos epy, Int.toNat_natCast, Int.toNat_natCast]; rfl
                have le : pwI f nx ny i ≤ lvF f nx ny := lvN_ge _ _ i hi2
                have bln := bpTo_len f nx ny i
                conv => whnf
                refine ⟨i, rfl, h, ?_⟩
                conv => whnf
                refine ACall.use (PlayWorth_i (nx : Int) ny f _ kf kp) ?_
                rw [evw]
                conv => whnf
                refine ⟨fun _ => ?_, fun h => absurd h (by rw [epy]; decide)⟩
                conv => whnf
                refine ⟨fun h => absurd (of_decide_eq_true h) (Int.not_lt.2 le), fun _ => ?_⟩
                conv => whnf
                refine ⟨fun h5 => ?_, fun h5 => ?_⟩
                · have h5 : pwI f nx ny i = lvF f nx ny := by simpa using h5
                  obtain ⟨c1, c2⟩ := bp_at hi2 h5
                  have e5 : bpTo f nx ny (i + 1) = bpTo f nx ny i ++ [(playsL (nx + ny)).getD i []] := by rw [bpTo, if_pos h5]
                  have e6 : (bpTo f nx ny (i + 1)).length = (bpTo f nx ny i).length + 1 := by rw [e5]; simp
                  conv => whnf
                  refine ADraw.std tyOk mx ⟨by kernel_rfl, ?_⟩
                  conv => whnf
                  refine ⟨fun _ => ?_, fun h => absurd (of_decide_eq_true h) (by omega)⟩
                  conv => whnf
                  refine ⟨(bpTo f nx ny i).length, rfl, c1, ?_⟩
                  conv => whnf
                  refine ⟨i, rfl, h, ?_⟩
                  conv => whnf
                  refine QCall.use (vInts_spec _ _ (by rw [c2, p1]; omega)) ?_
                  conv => whnf
                  refine ⟨fun h => absurd h (by rw [c2]; simp), fun _ => ?_⟩
                  conv => whnf
                  rw [nat_wrap (k := (bpTo f nx ny i).length) (by omega), nat_wrap (k := i) (by omega), ← e6]
                  refine ⟨i + 1, none, ?_, by omega, by omega⟩
                  (refine ⟨rfl, rfl, ?_, ?_⟩ <;> ((repeat' (first | exact trivial | exact rfl | refine And.intro ?_ ?_)) <;> (try ((conv => whnf); first | refine vint ?_ | refine vboo ?_ | refine rint ?_ | refine rrow ?_ | skip)) <;> (try first | omega | (simp; done) | ((repeat rw [flts_closed _ (by assumption)]); exact vws_closed _ (by assumption)))))
                · have h5 : ¬ pwI f nx ny i = lvF f nx ny := by simpa using h5
                  have e5 : bpTo f nx ny (i + 1) = bpTo f nx ny i := by rw [bpTo, if_neg h5]
                  conv => whnf
                  rw [nat_wrap (by omega)]
                  refine ⟨i + 1, none, ?_, by omega, by omega⟩
                  rw [e5]
                  (refine ⟨rfl, rfl, ?_, ?_⟩ <;> ((repeat' (first | exact trivial | exact rfl | refine And.intro ?_ ?_)) <;> (try ((conv => whnf); first | refine vint ?_ | refine vboo ?_ | refine rint ?_ | refine rrow ?_ | skip)) <;> (try first | omega | (simp; done) | ((repeat rw [flts_closed _ (by assumption)]); exact vws_closed _ (by assumption)))))
              · have h' := ltF h
                obtain rfl : i = (playsL (nx + ny)).length := by omega
                conv => whnf
                refine ⟨?_, rfl⟩
                rw [hpl]
                simp
          · conv => whnf
            refine ⟨fun h => absurd h (by decide), fun _ => ?_⟩
            conv => whnf
            refine ⟨fun ho => ?_, fun ho => ?_⟩
            · conv => whnf
              exact ⟨rfl, rfl⟩
            have hfn : fnG x y f = true := by simpa using ho
            obtain ⟨nx, ny, rfl, rfl, x1, x3, y1, y3, f1, _, f3, _⟩ := fnG_spec hfn
            have hsz : szOk (nx : Int) ny = true := by
              have h := hfn
              simp only [fnG, Bool.and_eq_true] at h
              exact h.1.1
            have hpl := playsL_len (nx + ny)
            have h64 := two_pow6 (n := nx + ny) (by omega)
            have epl : plV (nx : Int) ny = playsL (nx + ny) := by rw [plV, if_pos hsz, Int.toNat_natCast, Int.toNat_natCast]
            have ebp : bpV (nx : Int) ny f = bpTo f nx ny (2 ^ (nx + ny)) := by rw [bpV, if_pos hfn, Int.toNat_natCast, Int.toNat_natCast]
            have elv : lvV (nx : Int) ny f = lvF f nx ny := by rw [lvV, if_pos hfn, Int.toNat_natCast, Int.toNat_natCast]
            have bpos := bp_pos (f := f) (nx := nx) (ny := ny)
            have blen := bpTo_len f nx ny (2 ^ (nx + ny))
            rw [epl, ebp, elv]
            conv => whnf
            refine ⟨fun _ => ?_, fun h => absurd h (by rw [hsz]; decide)⟩
            conv => whnf
            rw [natAdd (by omega)]
            refine ⟨by omega, ?_⟩
            conv => whnf
            rw [shl_one (by omega)]
            refine ⟨fun _ => ?_, fun h => absurd h (by rw [hpl]; simp)⟩
            conv => whnf
            refine ⟨fun h => absurd (by simpa using h) (Nat.pos_iff_ne_zero.1 bpos), fun _ => ?_⟩
            conv => whnf
            refine aloopI tyOk mx (fun i : Nat => (⟨336, [(2, .c (.bool false)), (3, .c (.int .i64 (nx))), (4, .c (.int .i64 (ny))), (5, .t (.rows f)), (6, .c (.int .i64 (lvF f nx ny))), (10, .t (.rows (bpTo f nx ny (2 ^ (nx + ny))))), (14, .t (.rows (playsL (nx + ny)))), (41, .c (.int .i64 ((bpTo f nx ny i).length))), (42, .c (.int .i64 (i)))], [], 3⟩ : St)) (fun i => i ≤ (playsL (nx + ny)).length) (fun i => (playsL (nx + ny)).length - i) 0 (Nat.zero_le _) none (by refine ⟨rfl, rfl, ?_, ?_⟩ <;> ((repeat' (first | exact trivial | exact rfl | refine And.intro ?_ ?_)) <;> (try ((conv => whnf); first | refine vint ?_ | refine vboo ?_ | refine rint ?_ | refine rrow ?_ | skip)) <;> (try first | omega | (simp; done) | ((repeat rw [flts_closed _ (by assumption)]); exact vws_closed _ (by assumption))))) (fun i hi => ?_)
            conv => whnf
            refine ⟨fun h => ?_, fun h => ?_⟩
            · have h := ltT h
              have hi2 : i < 2 ^ (nx + ny) := by omega
              obtain ⟨p1, p2⟩ := playsL_row (n := nx + ny) (by omega) h
              have kp : SzI ((playsL (nx + ny)).getD i []) := by unfold SzI; omega
              have epy : pwOk (nx : Int) ny f ((playsL (nx + ny)).getD i []) = true := py_ok hfn x3 y3 p1 p2
              have evw : pwV (nx : Int) ny f ((playsL (nx + ny)).getD i []) = pwI f nx ny i := by rw [pwV, if_pos epy, Int.toNat_natCast, Int.toNat_natCast]; rfl
              have le : pwI f nx ny i ≤ lvF f nx ny := lvN_ge _ _ i hi2
              have bln := bpTo_len f nx ny i
              conv => whnf
              refine ⟨i, rfl, h, ?_⟩
              conv => whnf
              refine ACall.use (PlayWorth_i (nx : Int) ny f _ kf kp) ?_
              rw [evw]
              conv => whnf
              refine ⟨fun _ => ?_, fun h => absurd h (by rw [epy]; decide)⟩
              conv => whnf
              refine ⟨fun h => absurd (of_decide_eq_true h) (Int.not_lt.2 le), fun _ => ?_⟩
              conv => whnf
              refine ⟨fun h5 => ?_, fun h5 => ?_⟩
              · have h5 : pwI f nx ny i = lvF f nx ny := by simpa using h5
                obtain ⟨c1, c2⟩ := bp_at hi2 h5
                have e5 : bpTo f nx ny (i + 1) = bpTo f nx ny i ++ [(playsL (nx + ny)).getD i []] := by rw [bpTo, if_pos h5]
                have e6 : (bpTo f nx ny (i + 1)).length = (bpTo f nx ny i).length + 1 := by rw [e5]; simp
                conv => whnf
                refine ADraw.std tyOk mx ⟨by kernel_rfl, ?_⟩
                conv => whnf
                refine ⟨fun _ => ?_, fun h => absurd (of_decide_eq_true h) (by omega)⟩
                conv => whnf
                refine ⟨(bpTo f nx ny i).length, rfl, c1, ?_⟩
                conv => whnf
                refine ⟨i, rfl, h, ?_⟩
                conv => whnf
                refine QCall.use (vInts_spec _ _ (by rw [c2, p1]; omega)) ?_
                conv => whnf
                refine ⟨fun h => absurd h (by rw [c2]; simp), fun _ => ?_⟩
                conv => whnf
                rw [nat_wrap (k := (bpTo f nx ny i).length) (by omega), nat_wrap (k := i) (by omega), ← e6]
                refine ⟨i + 1, none, ?_, by omega, by omega⟩
                (refine ⟨rfl, rfl, ?_, ?_⟩ <;> ((repeat' (first | exact trivial | exact rfl | refine And.intro ?_ ?_)) <;> (try ((conv => whnf); first | refine vint ?_ | refine vboo ?_ | refine rint ?_ | refine rrow ?_ | skip)) <;> (try first | omega | (simp; done) | ((repeat rw [flts_closed _ (by assumption)]); exact vws_closed _ (by assumption)))))
              · have h5 : ¬ pwI f nx ny i = lvF f nx ny := by simpa using h5
                have e5 : bpTo f nx ny (i + 1) = bpTo f nx ny i := by rw [bpTo, if_neg h5]
                conv => whnf
                rw [nat_wrap (by omega)]
                refine ⟨i + 1, none, ?_, by omega, by omega⟩
                rw [e5]
                (refine ⟨rfl, rfl, ?_, ?_⟩ <;> ((repeat' (first | exact trivial | exact rfl | refine And.intro ?_ ?_)) <;> (try ((conv => whnf); first | refine vint ?_ | refine vboo ?_ | refine rint ?_ | refine rrow ?_ | skip)) <;> (try first | omega | (simp; done) | ((repeat rw [flts_closed _ (by assumption)]); exact vws_closed _ (by assumption)))))
            · have h' := ltF h
              obtain rfl : i = (playsL (nx + ny)).length := by omega
              conv => whnf
              refine ⟨?_, rfl⟩
              rw [hpl]
              simp
      · conv => whnf
        refine ⟨fun h => absurd h (by decide), fun _ => ?_⟩
        conv => whnf
        refine ⟨fun h => absurd h (by decide), fun _ => ?_⟩
        conv => whnf
        refine ⟨fun h4 => ?_, fun h4 => ?_⟩
        · conv => whnf
          refine ⟨fun h5 => ?_, fun h5 => ?_⟩
          · conv => whnf
            refine ACallS.view (R := []) (args' := [.ag [.c (.int .i64 (kx)), .c (.int .i64 (ky)), .c (.int .i64 (kz)), .t (.rows km)]]) (st' := (⟨336, [(2, .c (.bool false)), (3, .c (.int .i64 (x))), (4, .c (.int .i64 (y))), (5, .t (.rows f)), (6, .c (.int .i64 (lvV x y f))), (7, .c (.bool (fnG x y f))), (10, .t (.rows (bpV x y f))), (14, .t (.rows (plV x y))), (15, .c (.bool (szOk x y)))], [], 0⟩ : St)) (by refine ⟨rfl, rfl, ?_, ?_⟩ <;> ((repeat' (first | exact trivial | exact rfl | refine And.intro ?_ ?_)) <;> (try ((conv => whnf); first | refine vint ?_ | refine vboo ?_ | refine rint ?_ | refine rrow ?_ | skip)) <;> (try first | omega | (simp; done) | ((repeat rw [flts_closed _ (by assumption)]); exact vws_closed _ (by assumption))))) ⟨⟨rfl, rfl, rfl, rfl, trivial⟩, trivial⟩ ?_
            exact key ⟨h4, h5⟩
          · conv => whnf
            refine ⟨fun ho => ?_, fun ho => absurd ho (by rw [h2]; decide)⟩
            conv => whnf
            exact ⟨rfl, rfl⟩
        · conv => whnf
          refine ⟨fun h => absurd h (by decide), fun _ => ?_⟩
          conv => whnf
          refine ⟨fun ho => ?_, fun ho => absurd ho (by rw [h2]; decide)⟩
          conv => whnf
          exact ⟨rfl, rfl⟩
    · conv => whnf
      refine ⟨fun h4 => ?_, fun h4 => ?_⟩
      · conv => whnf
        refine ⟨fun h5 => ?_, fun h5 => ?_⟩
        · conv => whnf
          refine ACallS.view (R := []) (args' := [.ag [.c (.int .i64 (kx)), .c (.int .i64 (ky)), .c (.int .i64 (kz)), .t (.rows km)]]) (st' := (⟨336, [(2, .c (.bool false)), (3, .c (.int .i64 (x))), (4, .c (.int .i64 (y))), (5, .t (.rows f)), (6, .c (.int .i64 (lvV x y f))), (7, .c (.bool (fnG x y f))), (10, .t (.rows (bpV x y f))), (14, .t (.rows (plV x y))), (15, .c (.bool (szOk x y)))], [], 0⟩ : St)) (by refine ⟨rfl, rfl, ?_, ?_⟩ <;> ((repeat' (first | exact trivial | exact rfl | refine And.intro ?_ ?_)) <;> (try ((conv => whnf); first | refine vint ?_ | refine vboo ?_ | refine rint ?_ | refine rrow ?_ | skip)) <;> (try first | omega | (simp; done) | ((repeat rw [flts_closed _ (by assumption)]); exact vws_closed _ (by assumption))))) ⟨⟨rfl, rfl, rfl, rfl, trivial⟩, trivial⟩ ?_
          exact key ⟨h4, h5⟩
        · conv => whnf
          refine ⟨fun ho => ?_, fun ho => ?_⟩
          · conv => whnf
            exact ⟨rfl, rfl⟩
          have hfn : fnG x y f = true := by simpa using ho
          obtain ⟨nx, ny, rfl, rfl, x1, x3, y1, y3, f1, _, f3, _⟩ := fnG_spec hfn
          have hsz : szOk (nx : Int) ny = true := by
            have h := hfn
            simp only [fnG, Bool.and_eq_true] at h
            exact h.1.1
          have hpl := playsL_len (nx + ny)
          have h64 := two_pow6 (n := nx + ny) (by omega)
          have epl : plV (nx : Int) ny = playsL (nx + ny) := by rw [plV, if_pos hsz, Int.toNat_natCast, Int.toNat_natCast]
          have ebp : bpV (nx : Int) ny f = bpTo f nx ny (2 ^ (nx + ny)) := by rw [bpV, if_pos hfn, Int.toNat_natCast, Int.toNat_natCast]
          have elv : lvV (nx : Int) ny f = lvF f nx ny := by rw [lvV, if_pos hfn, Int.toNat_natCast, Int.toNat_natCast]
          have bpos := bp_pos (f := f) (nx := nx) (ny := ny)
          have blen := bpTo_len f nx ny (2 ^ (nx + ny))
          rw [epl, ebp, elv]
          conv => whnf
          refine ⟨fun _ => ?_, fun h => absurd h (by rw [hsz]; decide)⟩
          conv => whnf
          rw [natAdd (by omega)]
          refine ⟨by omega, ?_⟩
          conv => whnf
          rw [shl_one (by omega)]
          refine ⟨fun _ => ?_, fun h => absurd h (by rw [hpl]; simp)⟩
          conv => whnf
          refine ⟨fun h => absurd (by simpa using h) (Nat.pos_iff_ne_zero.1 bpos), fun _ => ?_⟩
          conv => whnf
          refine aloopI tyOk mx (fun i : Nat => (⟨336, [(2, .c (.bool false)), (3, .c (.int .i64 (nx))), (4, .c (.int .i64 (ny))), (5, .t (.rows f)), (6, .c (.int .i64 (lvF f nx ny))), (10, .t (.rows (bpTo f nx ny (2 ^ (nx + ny))))), (14, .t (.rows (playsL (nx + ny)))), (41, .c (.int .i64 ((bpTo f nx ny i).length))), (42, .c (.int .i64 (i)))], [], 3⟩ : St)) (fun i => i ≤ (playsL (nx + ny)).length) (fun i => (playsL (nx + ny)).length - i) 0 (Nat.zero_le _) none (by refine ⟨rfl, rfl, ?_, ?_⟩ <;> ((repeat' (first | exact trivial | exact rfl | refine And.intro ?_ ?_)) <;> (try ((conv => whnf); first | refine vint ?_ | refine vboo ?_ | refine rint ?_ | refine rrow ?_ | skip)) <;> (try first | omega | (simp; done) | ((repeat rw [flts_closed _ (by assumption)]); exact vws_closed _ (by assumption))))) (fun i hi => ?_)
          conv => whnf
          refine ⟨fun h => ?_, fun h => ?_⟩
          · have h := ltT h
            have hi2 : i < 2 ^ (nx + ny) := by omega
            obtain ⟨p1, p2⟩ := playsL_row (n := nx + ny) (by omega) h
            have kp : SzI ((playsL (nx + ny)).getD i []) := by unfold SzI; omega
            have epy : pwOk (nx : Int) ny f ((playsL (nx + ny)).getD i []) = true := py_ok hfn x3 y3 p1 p2
            have evw : pwV (nx : Int) ny f ((playsL (nx + ny)).getD i []) = pwI f nx ny i := by rw [pwV, if_pos epy, Int.toNat_natCast, Int.toNat_natCast]; rfl
            have le : pwI f nx ny i ≤ lvF f nx ny := lvN_ge _ _ i hi2
            have bln := bpTo_len f nx ny i
            conv => whnf
            refine ⟨i, rfl, h, ?_⟩
            conv => whnf
            refine ACall.use (PlayWorth_i (nx : Int) ny f _ kf kp) ?_
            rw [evw]
            conv => whnf
            refine ⟨fun _ => ?_, fun h => absurd h (by rw [epy]; decide)⟩
            conv => whnf
            refine ⟨fun h => absurd (of_decide_eq_true h) (Int.not_lt.2 le), fun _ => ?_⟩
            conv => whnf
            refine ⟨fun h5 => ?_, fun h5 => ?_⟩
            · have h5 : pwI f nx ny i = lvF f nx ny := by simpa using h5
              obtain ⟨c1, c2⟩ := bp_at hi2 h5
              have e5 : bpTo f nx ny (i + 1) = bpTo f nx ny i ++ [(playsL (nx + ny)).getD i []] := by rw [bpTo, if_pos h5]
              have e6 : (bpTo f nx ny (i + 1)).length = (bpTo f nx ny i).length + 1 := by rw [e5]; simp
              conv => whnf
              refine ADraw.std tyOk mx ⟨by kernel_rfl, ?_⟩
              conv => whnf
              refine ⟨fun _ => ?_, fun h => absurd (of_decide_eq_true h) (by omega)⟩
              conv => whnf
              refine ⟨(bpTo f nx ny i).length, rfl, c1, ?_⟩
              conv => whnf
              refine ⟨i, rfl, h, ?_⟩
              conv => whnf
              refine QCall.use (vInts_spec _ _ (by rw [c2, p1]; omega)) ?_
              conv => whnf
              refine ⟨fun h => absurd h (by rw [c2]; simp), fun _ => ?_⟩
              conv => whnf
              rw [nat_wrap (k := (bpTo f nx ny i).length) (by omega), nat_wrap (k := i) (by omega), ← e6]
              refine ⟨i + 1, none, ?_, by omega, by omega⟩
              (refine ⟨rfl, rfl, ?_, ?_⟩ <;> ((repeat' (first | exact trivial | exact rfl | refine And.intro ?_ ?_)) <;> (try ((conv => whnf); first | refine vint ?_ | refine vboo ?_ | refine rint ?_ | refine rrow ?_ | skip)) <;> (try first | omega | (simp; done) | ((repeat rw [flts_closed _ (by assumption)]); exact vws_closed _ (by assumption)))))
            · have h5 : ¬ pwI f nx ny i = lvF f nx ny := by simpa using h5
              have e5 : bpTo f nx ny (i + 1) = bpTo f nx ny i := by rw [bpTo, if_neg h5]
              conv => whnf
              rw [nat_wrap (by omega)]
              refine ⟨i + 1, none, ?_, by omega, by omega⟩
              rw [e5]
              (refine ⟨rfl, rfl, ?_, ?_⟩ <;> ((repeat' (first | exact trivial | exact rfl | refine And.intro ?_ ?_)) <;> (try ((conv => whnf); first | refine vint ?_ | refine vboo ?_ | refine rint ?_ | refine rrow ?_ | skip)) <;> (try first | omega | (simp; done) | ((repeat rw [flts_closed _ (by assumption)]); exact vws_closed _ (by assumption)))))
          · have h' := ltF h
            obtain rfl : i = (playsL (nx + ny)).length := by omega
            conv => whnf
            refine ⟨?_, rfl⟩
            rw [hpl]
            simp
      · conv => whnf
        refine ⟨fun h => absurd h (by decide), fun _ => ?_⟩
        conv => whnf
        refine ⟨fun ho => ?_, fun ho => ?_⟩
        · conv => whnf
          exact ⟨rfl, rfl⟩
        have hfn : fnG x y f = true := by simpa using ho
        obtain ⟨nx, ny, rfl, rfl, x1, x3, y1, y3, f1, _, f3, _⟩ := fnG_spec hfn
        have hsz : szOk (nx : Int) ny = true := by
          have h := hfn
          simp only [fnG, Bool.and_eq_true] at h
          exact h.1.1
        have hpl := playsL_len (nx + ny)
        have h64 := two_pow6 (n := nx + ny) (by omega)
        have epl : plV (nx : Int) ny = playsL (nx + ny) := by rw [plV, if_pos hsz, Int.toNat_natCast, Int.toNat_natCast]
        have ebp : bpV (nx : Int) ny f = bpTo f nx ny (2 ^ (nx + ny)) := by rw [bpV, if_pos hfn, Int.toNat_natCast, Int.toNat_natCast]
        have elv : lvV (nx : Int) ny f = lvF f nx ny := by rw [lvV, if_pos hfn, Int.toNat_natCast, Int.toNat_natCast]
        have bpos := bp_pos (f := f) (nx := nx) (ny := ny)
        have blen := bpTo_len f nx ny (2 ^ (nx + ny))
        rw [epl, ebp, elv]
        conv => whnf
        refine ⟨fun _ => ?_, fun h => absurd h (by rw [hsz]; decide)⟩
        conv => whnf
        rw [natAdd (by omega)]
        refine ⟨by omega, ?_⟩
        conv => whnf
        rw [shl_one (by omega)]
        refine ⟨fun _ => ?_, fun h => absurd h (by rw [hpl]; simp)⟩
        conv => whnf
        refine ⟨fun h => absurd (by simpa using h) (Nat.pos_iff_ne_zero.1 bpos), fun _ => ?_⟩
        conv => whnf
        refine aloopI tyOk mx (fun i : Nat => (⟨336, [(2, .c (.bool false)), (3, .c (.int .i64 (nx))), (4, .c (.int .i64 (ny))), (5, .t (.rows f)), (6, .c (.int .i64 (lvF f nx ny))), (10, .t (.rows (bpTo f nx ny (2 ^ (nx + ny))))), (14, .t (.rows (playsL (nx + ny)))), (41, .c (.int .i64 ((bpTo f nx ny i).length))), (42, .c (.int .i64 (i)))], [], 3⟩ : St)) (fun i => i ≤ (playsL (nx + ny)).length) (fun i => (playsL (nx + ny)).length - i) 0 (Nat.zero_le _) none (by refine ⟨rfl, rfl, ?_, ?_⟩ <;> ((repeat' (first | exact trivial | exact rfl | refine And.intro ?_ ?_)) <;> (try ((conv => whnf); first | refine vint ?_ | refine vboo ?_ | refine rint ?_ | refine rrow ?_ | skip)) <;> (try first | omega | (simp; done) | ((repeat rw [flts_closed _ (by assumption)]); exact vws_closed _ (by assumption))))) (fun i hi => ?_)
        conv => whnf
        refine ⟨fun h => ?_, fun h => ?_⟩
        · have h := ltT h
          have hi2 : i < 2 ^ (nx + ny) := by omega
          obtain ⟨p1, p2⟩ := playsL_row (n := nx + ny) (by omega) h
          have kp : SzI ((playsL (nx + ny)).getD i []) := by unfold SzI; omega
          have epy : pwOk (nx : Int) ny f ((playsL (nx + ny)).getD i []) = true := py_ok hfn x3 y3 p1 p2
          have evw : pwV (nx : Int) ny f ((playsL (nx + ny)).getD i []) = pwI f nx ny i := by rw [pwV, if_pos epy, Int.toNat_natCast, Int.toNat_natCast]; rfl
          have le : pwI f nx ny i ≤ lvF f nx ny := lvN_ge _ _ i hi2
          have bln := bpTo_len f nx ny i
          conv => whnf
          refine ⟨i, rfl, h, ?_⟩
          conv => whnf
          refine ACall.use (PlayWorth_i (nx : Int) ny f _ kf kp) ?_
          rw [evw]
          conv => whnf
          refine ⟨fun _ => ?_, fun h => absurd h (by rw [epy]; decide)⟩
          conv => whnf
          refine ⟨fun h => absurd (of_decide_eq_true h) (Int.not_lt.2 le), fun _ => ?_⟩
          conv => whnf
          refine ⟨fun h5 => ?_, fun h5 => ?_⟩
          · have h5 : pwI f nx ny i = lvF f nx ny := by simpa using h5
            obtain ⟨c1, c2⟩ := bp_at hi2 h5
            have e5 : bpTo f nx ny (i + 1) = bpTo f nx ny i ++ [(playsL (nx + ny)).getD i []] := by rw [bpTo, if_pos h5]
            have e6 : (bpTo f nx ny (i + 1)).length = (bpTo f nx ny i).length + 1 := by rw [e5]; simp
            conv => whnf
            refine ADraw.std tyOk mx ⟨by kernel_rfl, ?_⟩
            conv => whnf
            refine ⟨fun _ => ?_, fun h => absurd (of_decide_eq_true h) (by omega)⟩
            conv => whnf
            refine ⟨(bpTo f nx ny i).length, rfl, c1, ?_⟩
            conv => whnf
            refine ⟨i, rfl, h, ?_⟩
            conv => whnf
            refine QCall.use (vInts_spec _ _ (by rw [c2, p1]; omega)) ?_
            conv => whnf
            refine ⟨fun h => absurd h (by rw [c2]; simp), fun _ => ?_⟩
            conv => whnf
            rw [nat_wrap (k := (bpTo f nx ny i).length) (by omega), nat_wrap (k := i) (by omega), ← e6]
            refine ⟨i + 1, none, ?_, by omega, by omega⟩
            (refine ⟨rfl, rfl, ?_, ?_⟩ <;> ((repeat' (first | exact trivial | exact rfl | refine And.intro ?_ ?_)) <;> (try ((conv => whnf); first | refine vint ?_ | refine vboo ?_ | refine rint ?_ | refine rrow ?_ | skip)) <;> (try first | omega | (simp; done) | ((repeat rw [flts_closed _ (by assumption)]); exact vws_closed _ (by assumption)))))
          · have h5 : ¬ pwI f nx ny i = lvF f nx ny := by simpa using h5
            have e5 : bpTo f nx ny (i + 1) = bpTo f nx ny i := by rw [bpTo, if_neg h5]
            conv => whnf
            rw [nat_wrap (by omega)]
            refine ⟨i + 1, none, ?_, by omega, by omega⟩
            rw [e5]
            (refine ⟨rfl, rfl, ?_, ?_⟩ <;> ((repeat' (first | exact trivial | exact rfl | refine And.intro ?_ ?_)) <;> (try ((conv => whnf); first | refine vint ?_ | refine vboo ?_ | refine rint ?_ | refine rrow ?_ | skip)) <;> (try first | omega | (simp; done) | ((repeat rw [flts_closed _ (by assumption)]); exact vws_closed _ (by assumption)))))
        · have h' := ltF h
          obtain rfl : i = (playsL (nx + ny)).length := by omega
          conv => whnf
          refine ⟨?_, rfl⟩
          rw [hpl]
          simp
  case x =>
    rintro ⟨h4, h5⟩
    have lk : goodB kx ky kz km = true ∧ L.lcV kx ky kz km = true := im_local h4 h5
    refine ACall.use (L.IsLocal_i kx ky kz km skm) ?_
    conv => whnf
    refine ⟨fun _ => ?_, fun h => absurd h (by rw [lk.1]; decide)⟩
    conv => whnf
    refine ⟨fun h => absurd h (by rw [lk.2]; decide), fun _ => ?_⟩
    conv => whnf
    refine ⟨fun ho => ?_, fun ho => ?_⟩
    · conv => whnf
      exact ⟨rfl, rfl⟩
    have hfn : fnG x y f = true := by simpa using ho
    obtain ⟨nx, ny, rfl, rfl, x1, x3, y1, y3, f1, _, f3, _⟩ := fnG_spec hfn
    have hsz : szOk (nx : Int) ny = true := by
      have h := hfn
      simp only [fnG, Bool.and_eq_true] at h
      exact h.1.1
    have hpl := playsL_len (nx + ny)
    have h64 := two_pow6 (n := nx + ny) (by omega)
    have epl : plV (nx : Int) ny = playsL (nx + ny) := by rw [plV, if_pos hsz, Int.toNat_natCast, Int.toNat_natCast]
    have ebp : bpV (nx : Int) ny f = bpTo f nx ny (2 ^ (nx + ny)) := by rw [bpV, if_pos hfn, Int.toNat_natCast, Int.toNat_natCast]
    have elv : lvV (nx : Int) ny f = lvF f nx ny := by rw [lvV, if_pos hfn, Int.toNat_natCast, Int.toNat_natCast]
    have bpos := bp_pos (f := f) (nx := nx) (ny := ny)
    have blen := bpTo_len f nx ny (2 ^ (nx + ny))
    rw [epl, ebp, elv]
    conv => whnf
    refine ⟨fun _ => ?_, fun h => absurd h (by rw [hsz]; decide)⟩
    conv => whnf
    rw [natAdd (by omega)]
    refine ⟨by omega, ?_⟩
    conv => whnf
    rw [shl_one (by omega)]
    refine ⟨fun _ => ?_, fun h => absurd h (by rw [hpl]; simp)⟩
    conv => whnf
    refine ⟨fun h => absurd (by simpa using h) (Nat.pos_iff_ne_zero.1 bpos), fun _ => ?_⟩
    conv => whnf
    refine aloopI tyOk mx (fun i : Nat => (⟨336, [(2, .c (.bool false)), (3, .c (.int .i64 (nx))), (4, .c (.int .i64 (ny))), (5, .t (.rows f)), (6, .c (.int .i64 (lvF f nx ny))), (10, .t (.rows (bpTo f nx ny (2 ^ (nx + ny))))), (14, .t (.rows (playsL (nx + ny)))), (41, .c (.int .i64 ((bpTo f nx ny i).length))), (42, .c (.int .i64 (i)))], [], 0⟩ : St)) (fun i => i ≤ (playsL (nx + ny)).length) (fun i => (playsL (nx + ny)).length - i) 0 (Nat.zero_le _) none (by refine ⟨rfl, rfl, ?_, ?_⟩ <;> ((repeat' (first | exact trivial | exact rfl | refine And.intro ?_ ?_)) <;> (try ((conv => whnf); first | refine vint ?_ | refine vboo ?_ | refine rint ?_ | refine rrow ?_ | skip)) <;> (try first | omega | (simp; done) | ((repeat rw [flts_closed _ (by assumption)]); exact vws_closed _ (by assumption))))) (fun i hi => ?_)
    conv => whnf
    refine ⟨fun h => ?_, fun h => ?_⟩
    · have h := ltT h
      have hi2 : i < 2 ^ (nx + ny) := by omega
      obtain ⟨p1, p2⟩ := playsL_row (n := nx + ny) (by omega) h
      have kp : SzI ((playsL (nx + ny)).getD i []) := by unfold SzI; omega
      have epy : pwOk (nx : Int) ny f ((playsL (nx + ny)).getD i []) = true := py_ok hfn x3 y3 p1 p2
      have evw : pwV (nx : Int) ny f ((playsL (nx + ny)).getD i []) = pwI f nx ny i := by rw [pwV, if_pos epy, Int.toNat_natCast, Int.toNat_natCast]; rfl
      have le : pwI f nx ny i ≤ lvF f nx ny := lvN_ge _ _ i hi2
      have bln := bpTo_len f nx ny i
      conv => whnf
      refine ⟨i, rfl, h, ?_⟩
      conv => whnf
      refine ACall.use (PlayWorth_i (nx : Int) ny f _ kf kp) ?_
      rw [evw]
      conv => whnf
      refine ⟨fun _ => ?_, fun h => absurd h (by rw [epy]; decide)⟩
      conv => whnf
      refine ⟨fun h => absurd (of_decide_eq_true h) (Int.not_lt.2 le), fun _ => ?_⟩
      conv => whnf
      refine ⟨fun h5 => ?_, fun h5 => ?_⟩
      · have h5 : pwI f nx ny i = lvF f nx ny := by simpa using h5
        obtain ⟨c1, c2⟩ := bp_at hi2 h5
        have e5 : bpTo f nx ny (i + 1) = bpTo f nx ny i ++ [(playsL (nx + ny)).getD i []] := by rw [bpTo, if_pos h5]
        have e6 : (bpTo f nx ny (i + 1)).length = (bpTo f nx ny i).length + 1 := by rw [e5]; simp
        conv => whnf
        refine ADraw.std tyOk mx ⟨by kernel_rfl, ?_⟩
        conv => whnf
        refine ⟨fun _ => ?_, fun h => absurd (of_decide_eq_true h) (by omega)⟩
        conv => whnf
        refine ⟨(bpTo f nx ny i).length, rfl, c1, ?_⟩
        conv => whnf
        refine ⟨i, rfl, h, ?_⟩
        conv => whnf
        refine QCall.use (vInts_spec _ _ (by rw [c2, p1]; omega)) ?_
        conv => whnf
        refine ⟨fun h => absurd h (by rw [c2]; simp), fun _ => ?_⟩
        conv => whnf
        rw [nat_wrap (k := (bpTo f nx ny i).length) (by omega), nat_wrap (k := i) (by omega), ← e6]
        refine ⟨i + 1, none, ?_, by omega, by omega⟩
        (refine ⟨rfl, rfl, ?_, ?_⟩ <;> ((repeat' (first | exact trivial | exact rfl | refine And.intro ?_ ?_)) <;> (try ((conv => whnf); first | refine vint ?_ | refine vboo ?_ | refine rint ?_ | refine rrow ?_ | skip)) <;> (try first | omega | (simp; done) | ((repeat rw [flts_closed _ (by assumption)]); exact vws_closed _ (by assumption)))))
      · have h5 : ¬ pwI f nx ny i = lvF f nx ny := by simpa using h5
        have e5 : bpTo f nx ny (i + 1) = bpTo f nx ny i := by rw [bpTo, if_neg h5]
        conv => whnf
        rw [nat_wrap (by omega)]
        refine ⟨i + 1, none, ?_, by omega, by omega⟩
        rw [e5]
        (refine ⟨rfl, rfl, ?_, ?_⟩ <;> ((repeat' (first | exact trivial | exact rfl | refine And.intro ?_ ?_)) <;> (try ((conv => whnf); first | refine vint ?_ | refine vboo ?_ | refine rint ?_ | refine rrow ?_ | skip)) <;> (try first | omega | (simp; done) | ((repeat rw [flts_closed _ (by assumption)]); exact vws_closed _ (by assumption)))))
    · have h' := ltF h
      obtain rfl : i = (playsL (nx + ny)).length := by omega
      conv => whnf
      refine ⟨?_, rfl⟩
      rw [hpl]
      simp
end Go.Proofs.Ytkomndcehdneaaa
