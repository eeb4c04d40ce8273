/- Ranks of scenes: the reference, walked. -/
import Derived.Test.YtljlhbgkmkdphaaRank2
namespace Go.Aw
theorem bit_zero {v b : Nat} (hv : v < 4096) (hb : b ≤ 64) : (bits .and .i64 (shr .i64 (v : Int) (b : Int)) 1 == 0) = !v.testBit b := by
  rw [bit_eq hv hb]; cases v.testBit b <;> rfl
theorem bit_one {v b : Nat} (hv : v < 4096) (hb : b ≤ 64) : (bits .and .i64 (shr .i64 (v : Int) (b : Int)) 1 == 1) = v.testBit b := by
  rw [bit_eq hv hb]; cases v.testBit b <;> rfl
end Go.Aw
namespace Go.Proofs.Ytljlhbgkmkdphaa
open Go.Aw
set_option maxRecDepth 100000
set_option maxHeartbeats 4000000

theorem RankOfScene_s (e : Int) (m : List (List Int)) (s : List Int) (_he : InR e) (_hm : OkM m) (_hs : OkI s) (km : SzM m) (ks : SzI s) :
    FSpec Try.prog 27 [.ag [.c (.int .i64 (e)), .t (.rows m), .t (.ints .i64 s)]] (ex (.tu [.c (.int .i64 (rkV e m s)), .c (.bool (goodS e m s))]) []) := by
  refine fspec tyOk mx Try.func27 rfl (by kernel_rfl) rfl ?_
  conv => whnf
  refine ACall.use (l7Good_spec e m s km ks) ?_
  conv => whnf
  refine ⟨fun h => ?_, fun h => ?_⟩
  · have h : goodS e m s = false := by simpa using h
    conv => whnf
    exact ⟨by rw [rkV, h]; rfl, rfl⟩
  · have h : goodS e m s = true := by simpa using h
    obtain ⟨h1, h2, h3, h4, h5, h6⟩ := goodS_spec h
    obtain ⟨E, rfl⟩ : ∃ n : Nat, e = n := ⟨e.toNat, by omega⟩
    have hc : ∀ c, c ∈ m → ∀ v, v ∈ c → 0 ≤ v ∧ v ≤ 11 := fun c hcm => (h6 c hcm).2
    have hlt := natM_lt hc
    have hbit := natM_bit h
    have hnl : (natM m).length = m.length := by simp [natM]
    have binv := bas_inv hlt m.length (by omega)
    have fin : ∀ {rank : Nat} {l : List Nat}, InvS (natM m) E E rank l → rank = rkF m := fun hi => hi.fin binv.tri.tri (fun x => by
      have := binv.sp x
      rwa [List.take_of_length_le (by omega)] at this)
    conv => whnf
    refine ACall.use (l7Rows_spec E m s (by omega) (fun c hcm => by have := km.all; exact (this.2.1 c hcm)) hc) ?_
    rw [natM_up]
    conv => whnf
    refine aloopI tyOk mx (fun p : Nat × Nat × List Nat => (⟨85, [(1, .ptr 0 0), (4, .own 1), (5, .c (.int .i64 (p.2.1))), (6, .c (.int .i64 (p.1)))], [(0, .cells 36 [.c (.int .i64 (E)), .t (.rows m), .t (.ints .i64 s)]), (1, .ints 3 .i64 (up p.2.2))], 2⟩ : St)) (fun p => p.1 ≤ E ∧ InvS (natM m) E p.1 p.2.1 p.2.2) (fun p => E - p.1) (0, 0, natM m) ⟨Nat.zero_le _, InvS.start (fun v hv => ⟨hlt v hv, hbit v hv⟩)⟩ none (by refine ⟨rfl, rfl, ?_, ?_⟩ <;> ((repeat' (first | exact trivial | exact rfl | refine And.intro ?_ ?_)) <;> (try ((conv => whnf); first | refine vint ?_ | refine vboo ?_ | refine rint ?_ | refine rrow ?_ | skip)) <;> (try first | omega | (simp; done) | ((repeat rw [flts_closed _ (by assumption)]); exact vws_closed _ (by assumption))))) (fun p hp => ?_)
    obtain ⟨ev, rank, l⟩ := p
    obtain ⟨hev, inv⟩ := hp
    dsimp only at hev inv
    have il := inv.len
    have ir := inv.rk
    have ul := up_len l
    refine ⟨fun h7 => ?_, fun h7 => ?_⟩
    · have h7 : ev < E := by have := ltT h7; exact this
      conv => whnf
      refine aloopI tyOk mx (fun k : Nat => (⟨85, [(1, .ptr 0 0), (4, .own 1), (5, .c (.int .i64 (rank))), (6, .c (.int .i64 (ev))), (7, .c (.int .i64 (k)))], [(0, .cells 36 [.c (.int .i64 (E)), .t (.rows m), .t (.ints .i64 s)]), (1, .ints 3 .i64 (up l))], 2⟩ : St)) (fun k => rank ≤ k ∧ k ≤ l.length ∧ ∀ j, rank ≤ j → j < k → (l.getD j 0).testBit ev = false) (fun k => l.length - k) rank ⟨Nat.le_refl _, by omega, fun j a b => by omega⟩ none (by refine ⟨rfl, rfl, ?_, ?_⟩ <;> ((repeat' (first | exact trivial | exact rfl | refine And.intro ?_ ?_)) <;> (try ((conv => whnf); first | refine vint ?_ | refine vboo ?_ | refine rint ?_ | refine rrow ?_ | skip)) <;> (try first | omega | (simp; done) | ((repeat rw [flts_closed _ (by assumption)]); exact vws_closed _ (by assumption))))) (fun k hk => ?_)
      obtain ⟨hk1, hk2, hk3⟩ := hk
      refine ⟨fun h8 => ?_, fun h8 => ?_⟩
      · have h8 : k < l.length := by have := ltT h8; omega
        have hv := (inv.lt k h8).1
        conv => whnf
        refine ⟨k, rfl, by omega, ?_⟩
        conv => whnf
        rw [up_get]
        conv => whnf
        refine ⟨by omega, ?_⟩
        conv => whnf
        refine ⟨fun h9 => ?_, fun h9 => ?_⟩
        · have h9 : (l.getD k 0).testBit ev = false := by rw [bit_zero hv (by omega)] at h9; simpa using h9
          conv => whnf
          rw [nat_wrap (by omega)]
          exact ⟨k + 1, none, (by refine ⟨rfl, rfl, ?_, ?_⟩ <;> ((repeat' (first | exact trivial | exact rfl | refine And.intro ?_ ?_)) <;> (try ((conv => whnf); first | refine vint ?_ | refine vboo ?_ | refine rint ?_ | refine rrow ?_ | skip)) <;> (try first | omega | (simp; done) | ((repeat rw [flts_closed _ (by assumption)]); exact vws_closed _ (by assumption))))), ⟨by omega, by omega, fun j a b => by
            by_cases e : j = k
            · rw [e]; exact h9
            · exact hk3 j a (by omega)⟩, by omega⟩
        · have h9 : (l.getD k 0).testBit ev = true := by rw [bit_zero hv (by omega)] at h9; simpa using h9
          conv => whnf
          refine ⟨fun h10 => ?_, fun h10 => ?_⟩
          · exfalso
            have h10 : (k : Int) = ((up l).length : Int) := by simpa using h10
            omega
          · conv => whnf
            refine ⟨k, rfl, by omega, ?_⟩
            conv => whnf
            rw [up_get]
            conv => whnf
            refine ⟨rank, rfl, by omega, ?_⟩
            conv => whnf
            rw [up_get]
            conv => whnf
            refine ⟨k, rfl, by omega, ?_⟩
            conv => whnf
            rw [up_set]
            refine ⟨rank, rfl, by rw [up_len]; simp; omega, ?_⟩
            conv => whnf
            rw [up_set]
            rw [nat_wrap (by omega)]
            have inc := inv.swap hk1 h8 h9
            refine aloopI tyOk mx (fun p : Nat × List Nat => (⟨85, [(1, .ptr 0 0), (4, .own 1), (5, .c (.int .i64 (rank))), (6, .c (.int .i64 (ev))), (8, .c (.int .i64 ((l.getD k 0 : Nat)))), (9, .c (.int .i64 (p.1)))], [(0, .cells 36 [.c (.int .i64 (E)), .t (.rows m), .t (.ints .i64 s)]), (1, .ints 3 .i64 (up p.2))], 2⟩ : St)) (fun p => p.1 ≤ m.length ∧ InvC (natM m) E ev rank p.1 (l.getD k 0) p.2) (fun p => m.length - p.1) (rank + 1, (l.set k (l.getD rank 0)).set rank (l.getD k 0)) ⟨by dsimp only; omega, inc⟩ none (by refine ⟨rfl, rfl, ?_, ?_⟩ <;> ((repeat' (first | exact trivial | exact rfl | refine And.intro ?_ ?_)) <;> (try ((conv => whnf); first | refine vint ?_ | refine vboo ?_ | refine rint ?_ | refine rrow ?_ | skip)) <;> (try first | omega | (simp; done) | ((repeat rw [flts_closed _ (by assumption)]); exact vws_closed _ (by assumption))))) (fun p hp => ?_)
            obtain ⟨i, q⟩ := p
            obtain ⟨hi, iv⟩ := hp
            dsimp only at hi iv
            have ql := iv.inv.len
            have uq := up_len q
            refine ⟨fun h11 => ?_, fun h11 => ?_⟩
            · have h11 : i < q.length := by have := ltT h11; simp only [uq] at this; omega
              have hv2 := (iv.inv.lt i h11).1
              have hv3 := (inv.lt k h8).1
              conv => whnf
              refine ⟨i, rfl, by simp only [uq]; omega, ?_⟩
              conv => whnf
              rw [up_get]
              conv => whnf
              refine ⟨by omega, ?_⟩
              conv => whnf
              refine ⟨fun h12 => ?_, fun h12 => ?_⟩
              · have h12 : (q.getD i 0).testBit ev = true := by rw [bit_one hv2 (by omega)] at h12; exact h12
                conv => whnf
                refine ⟨i, rfl, by simp only [uq]; omega, ?_⟩
                conv => whnf
                rw [up_get]
                conv => whnf
                rw [bits_xor_i64_nat _ _ (Nat.lt_trans hv2 (by decide)) (Nat.lt_trans hv3 (by decide))]
                refine ⟨i, rfl, by simp only [uq]; omega, ?_⟩
                conv => whnf
                rw [up_set]
                rw [nat_wrap (by omega)]
                exact ⟨(i + 1, q.set i (q.getD i 0 ^^^ l.getD k 0)), none, (by refine ⟨rfl, rfl, ?_, ?_⟩ <;> ((repeat' (first | exact trivial | exact rfl | refine And.intro ?_ ?_)) <;> (try ((conv => whnf); first | refine vint ?_ | refine vboo ?_ | refine rint ?_ | refine rrow ?_ | skip)) <;> (try first | omega | (simp; done) | ((repeat rw [flts_closed _ (by assumption)]); exact vws_closed _ (by assumption))))), ⟨by dsimp only; omega, iv.clear h11 h12⟩, by dsimp only; omega⟩
              · have h12 : (q.getD i 0).testBit ev = false := by rw [bit_one hv2 (by omega)] at h12; exact h12
                conv => whnf
                rw [nat_wrap (by omega)]
                exact ⟨(i + 1, q), none, (by refine ⟨rfl, rfl, ?_, ?_⟩ <;> ((repeat' (first | exact trivial | exact rfl | refine And.intro ?_ ?_)) <;> (try ((conv => whnf); first | refine vint ?_ | refine vboo ?_ | refine rint ?_ | refine rrow ?_ | skip)) <;> (try first | omega | (simp; done) | ((repeat rw [flts_closed _ (by assumption)]); exact vws_closed _ (by assumption))))), ⟨by dsimp only; omega, iv.skip h12⟩, by dsimp only; omega⟩
            · have h11 : ¬ i < q.length := by have := ltF h11; simp only [uq] at this; omega
              have nx := iv.next (by omega)
              conv => whnf
              rw [nat_wrap (by omega), nat_wrap (by omega)]
              exact ⟨(ev + 1, rank + 1, q), none, (by refine ⟨rfl, rfl, ?_, ?_⟩ <;> ((repeat' (first | exact trivial | exact rfl | refine And.intro ?_ ?_)) <;> (try ((conv => whnf); first | refine vint ?_ | refine vboo ?_ | refine rint ?_ | refine rrow ?_ | skip)) <;> (try first | omega | (simp; done) | ((repeat rw [flts_closed _ (by assumption)]); exact vws_closed _ (by assumption))))), ⟨by dsimp only; omega, nx⟩, by dsimp only; omega⟩
      · have h8 : ¬ k < l.length := by have := ltF h8; omega
        obtain rfl : k = l.length := by omega
        conv => whnf
        first | refine ⟨fun h => absurd h (by decide), fun _ => ?_⟩ | refine ⟨fun _ => ?_, fun h => absurd h (by decide)⟩
        conv => whnf
        refine ⟨fun h10 => ?_, fun h10 => ?_⟩
        · conv => whnf
          rw [nat_wrap (by omega)]
          exact ⟨(ev + 1, rank, l), none, (by refine ⟨rfl, rfl, ?_, ?_⟩ <;> ((repeat' (first | exact trivial | exact rfl | refine And.intro ?_ ?_)) <;> (try ((conv => whnf); first | refine vint ?_ | refine vboo ?_ | refine rint ?_ | refine rrow ?_ | skip)) <;> (try first | omega | (simp; done) | ((repeat rw [flts_closed _ (by assumption)]); exact vws_closed _ (by assumption))))), ⟨by dsimp only; omega, inv.none hk3⟩, by dsimp only; omega⟩
        · exfalso
          have h10 : ¬ (l.length : Int) = ((up l).length : Int) := by simpa using h10
          omega
    · have h7 : ¬ ev < E := by have := ltF h7; exact this
      obtain rfl : ev = E := by omega
      conv => whnf
      refine ⟨?_, rfl⟩
      rw [rkV, h, if_pos rfl, fin inv]
end Go.Proofs.Ytljlhbgkmkdphaa
