/- One leg appended at a step of a region that draws its order. -/
import Derived.Test.YtomcdnkafgmleaaA2
import Derived.Deep.AppendLies
namespace Go.Proofs.Ytomcdnkafgmleaa
open Go.RowKit

theorem step_app2 {P : Program} (w : World) {ops : Array Oper} {o : Oper} {a : Act} {K : Act → World → Prop} {Q : Exit → Act → World → Prop} {E : Prop} (hgd : o.guard = none) (s x : Operand) (t : TypeId)
    (ho : o.op = .call { callee := .builtin .append, args := #[s, x], argTypes := #[t, t] })
    (base : Nat) (e : TypeId) (z : Value) (bytes : Nat) (ht : P.underlying t = some (.slice e)) (hinfo : (P.info? e).map (fun i => (i.zero, i.size, i.bytes)) = some (some z, 2, bytes)) (hz : z.cells.size = 2)
    (v : Value) (n : Nat) (xs : List Value) (hs : a.eval s = v) (hown : w.ownsRow base e 2 v n xs) (g : Nat) (u0 u1 : Value) (hx : a.eval x = .slice (some ⟨g, 0, none⟩) 1 1)
    (hc0 : w.cell? ⟨g, 0, none⟩ = some u0) (hc1 : w.cell? ⟨g, 1, none⟩ = some u1) (h0 : u0.oneCell' = true) (h1 : u1.oneCell' = true) (h63 : n + 1 ≤ maxLen) (hbytes : (n + 1) * bytes ≤ 140737488355328) (hbase : base ≤ w.heap.size)
    (h : ∀ v' w', w'.ownsRow base e 2 v' (n + 1) (xs ++ [u0, u1]) → Below base w w' → K (a.put o.dst v') w') :
    if Region.wanted o (yielded ops a.tmps) = true then Oper.wp P o a w K Q else E := by
  obtain ⟨i, hi, hz0, hz1, hz2⟩ := info_parts hinfo
  refine step_append_lies w hgd s x t ho base e i z 2 bytes ht hi hz0 hz1 hz2 hz (by decide) v n xs hs hown ⟨g, 0, none⟩ 1 1 [u0, u1] hx rfl ?_ (by simp [h0, h1]) (by decide) h63 hbytes hbase _ rfl ?_
  · intro j y hy
    rw [addr_add, Nat.zero_add]
    match j, hy with
    | 0, hy => simp at hy; subst hy; exact hc0
    | 1, hy => simp at hy; subst hy; exact hc1
    | j + 2, hy => simp at hy
  · intro g' cap w' h2 h3 _ _
    exact h _ w' h2 ((Below.refl _ _).grown h3 hbase (fun k hk => (hown.lt k hk).1))
end Go.Proofs.Ytomcdnkafgmleaa
