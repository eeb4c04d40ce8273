/- The types of this program, for the engine; small facts. -/
import Derived.Test.YtbgekpfhkjeflaaProg
import Derived.Test.YtbgekpfhkjeflaaAw18
namespace Go.Aw
theorem TyOk.of {P : Program} {t : Nat} {d : TD} {size bytes : Nat} {z : Value} {zero : List Value} (h1 : d.is P t)
    (h2 : (P.info? t).map (fun i => (i.zero, i.size, i.bytes)) = some (some z, size, bytes)) (h3 : z.cells = zero.toArray) : TyOk P t ⟨d, size, bytes, zero⟩ := by
  refine ⟨h1, ?_⟩
  obtain ⟨i, hi, he⟩ := Option.map_eq_some_iff.1 h2
  simp only [Prod.mk.injEq] at he
  exact ⟨i, z, hi, he.2.1, he.2.2, he.1, h3⟩

theorem w64 {n : Int} (h1 : -9223372036854775808 ≤ n) (h2 : n ≤ 9223372036854775807) : IntKind.i64.wrap n = n := by rw [IntKind.wrap_i64]; omega

section
open Go.RowKit
variable {P : Program} {Γ : Tys} {st : St}
/-- 'aloop' with a fact on the index -/
theorem aloopI {ι : Type} (hΓ : TysOk P Γ) (hm : P.follows .mixedOrders = true) (inv : ι → St) (I : ι → Prop) (μ : ι → Nat) {b : Code} {K : Exit → St → Prop} (i0 : ι) (hI : I i0) (h0 : Sub st (inv i0))
    (round : ∀ i, I i → acode P Γ b (inv i) fun e st' => match e with | .normal => ∃ j, Sub st' (inv j) ∧ I j ∧ μ j < μ i | e => K e st') : ALoop P b st K := by
  refine ⟨fun w0 ob a w ⟨η, h⟩ => ?_⟩
  intro fb k cs
  have key : ∀ (n : Nat) (i : ι), I i → μ i = n → ∀ a w, StRep w0 ob (inv i) a w →
      ∃ e a' w', lift w0 ob K e a' w' ∧ Arrives P (lone (fb.at a (.code b :: .inLoop b :: k)) cs w) fb k cs e a' w' := by
    intro n
    induction n using Nat.strongRecOn with
    | _ n ih =>
      intro i hIi hi a w hr
      obtain ⟨e, a', w', ⟨st', hk', η', hs'⟩, harr⟩ := acode_sound (w0 := w0) (ob := ob) hΓ hm b (inv i) _ a w (round i hIi) hr fb (.inLoop b :: k) cs
      cases e with
      | normal =>
        obtain ⟨j, hsub, hIj, hlt⟩ := hk'
        obtain ⟨e2, a2, w2, hq2, harr2⟩ := ih (μ j) (hi ▸ hlt) j hIj rfl a' w' ⟨η', hsub.rep hs'⟩
        exact ⟨e2, a2, w2, hq2, .of_steps (Steps.trans harr (.one step_inLoop)) harr2⟩
      | exit id => exact ⟨_, a', w', ⟨st', hk', η', hs'⟩, .pass (x := .inLoop b) rfl (fun _ _ => .inl (by simp)) harr⟩
      | goto l => exact ⟨_, a', w', ⟨st', hk', η', hs'⟩, .pass (x := .inLoop b) rfl (fun _ _ => .inl (by simp)) harr⟩
      | ret => exact ⟨_, a', w', ⟨st', hk', η', hs'⟩, .pass (x := .inLoop b) rfl (fun _ _ => .inl (by simp)) harr⟩
      | panic ch => exact ⟨_, a', w', ⟨st', hk', η', hs'⟩, .pass (x := .inLoop b) rfl (fun _ _ => .inl (by simp)) harr⟩
      | outgrown => exact ⟨_, a', w', ⟨st', hk', η', hs'⟩, .pass (x := .inLoop b) rfl (fun _ _ => .inl (by simp)) harr⟩
  obtain ⟨e, a', w', hq, harr⟩ := key (μ i0) i0 hI rfl a w ⟨η, h0.rep h⟩
  exact ⟨e, a', w', hq, .of_steps (.one step_loop) harr⟩
end

theorem nat_of {n : Int} {len : Nat} (h0 : 0 ≤ n) (h1 : n < len) : ∃ i : Nat, n = (i : Int) ∧ i < len := ⟨n.toNat, by omega, by omega⟩
end Go.Aw
namespace Go.Proofs.Ytbgekpfhkjeflaa
open Go.Aw
def ty : Tys := [(3, ⟨.int .i64, 1, 8, [.int .i64 0]⟩), (4, ⟨.bool, 1, 1, [.bool false]⟩), (23, ⟨.slice 3, 1, 24, [.slice none 0 0]⟩), (22, ⟨.slice 23, 1, 24, [.slice none 0 0]⟩)]
theorem tyOk : TysOk Try.prog ty :=
  ⟨TyOk.of (z := .int .i64 0) (by kernel_rfl : Try.prog.underlying 3 = some (.int .i64)) (by kernel_rfl) rfl,
   TyOk.of (z := .bool false) (by kernel_rfl : Try.prog.underlying 4 = some .bool) (by kernel_rfl) rfl,
   TyOk.of (z := .slice none 0 0) (by kernel_rfl : Try.prog.underlying 23 = some (.slice 3)) (by kernel_rfl) rfl,
   TyOk.of (z := .slice none 0 0) (by kernel_rfl : Try.prog.underlying 22 = some (.slice 23)) (by kernel_rfl) rfl, trivial⟩
theorem mx : Try.prog.follows .mixedOrders = true := by kernel_rfl
end Go.Proofs.Ytbgekpfhkjeflaa
