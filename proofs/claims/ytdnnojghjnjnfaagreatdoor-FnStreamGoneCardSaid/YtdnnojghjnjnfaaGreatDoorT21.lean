/- The program's changes of two trees. -/
import Derived.Test.YtdnnojghjnjnfaaGreatDoorGF
import Derived.Test.YtdnnojghjnjnfaaGreatDoorGF
import Derived.Test.YtdnnojghjnjnfaaGreatDoorGF
import Derived.Test.YtdnnojghjnjnfaaGreatDoorGH
namespace Go.Sf
open Go Go.RowKit Go.Proofs
theorem as_nn (v : Value) (w : World) : (Instr.typeAssert (.iface 179 v) 123 179 true).run Tryz.prog w = .ok (.tuple #[v, .bool true]) w := by kernel_rfl
theorem as_gn (v : Value) (w : World) : (Instr.typeAssert (.iface 178 v) 123 179 true).run Tryz.prog w = .ok (.tuple #[.agg #[.string ByteArray.empty, .bool false, .slice none 0 0], .bool false]) w := by kernel_rfl
theorem as_on (v : Value) (w : World) : (Instr.typeAssert (.iface 180 v) 123 179 true).run Tryz.prog w = .ok (.tuple #[.agg #[.string ByteArray.empty, .bool false, .slice none 0 0], .bool false]) w := by kernel_rfl
theorem as_gg (v : Value) (w : World) : (Instr.typeAssert (.iface 178 v) 123 178 true).run Tryz.prog w = .ok (.tuple #[v, .bool true]) w := by kernel_rfl
theorem as_og (v : Value) (w : World) : (Instr.typeAssert (.iface 180 v) 123 178 true).run Tryz.prog w = .ok (.tuple #[.agg #[.string ByteArray.empty, .bool false, .slice none 0 0], .bool false]) w := by kernel_rfl
set_option maxRecDepth 8000 in
set_option maxHeartbeats 1000000 in
theorem kindOf_c (k : Int) (x : It) (A : Option Addr) (n c : Nat) (w : World) (hk : k = 1 ∨ k = 2 ∨ k = 3) : Calls Tryz.prog 124 #[chgV k x (.slice A n c)] w (Ret (.int .i64 k) w) := by
  have q1 := as_nn; have q2 := as_gn; have q3 := as_on; have q4 := as_gg; have q5 := as_og
  rcases hk with rfl | rfl | rfl
  · show Calls Tryz.prog 124 #[.iface 179 (.agg #[.string x.path, .bool x.dir, .slice A n c])] w _
    go_enter Tryz.func124, Tryz.ntmps124
    go_wp2
    go_ret
    exact ⟨rfl, Ext.refl w⟩
  · show Calls Tryz.prog 124 #[.iface 178 (.agg #[.string x.path, .bool x.dir, .slice A n c])] w _
    go_enter Tryz.func124, Tryz.ntmps124
    go_wp2
    go_ret
    exact ⟨rfl, Ext.refl w⟩
  · show Calls Tryz.prog 124 #[.iface 180 (.agg #[.string x.path, .bool x.dir, .slice A n c])] w _
    go_enter Tryz.func124, Tryz.ntmps124
    go_wp2
    go_ret
    exact ⟨rfl, Ext.refl w⟩
set_option maxHeartbeats 1000000 in
theorem newItem_c (x : It) (A : Option Addr) (n c : Nat) (w : World) : Calls Tryz.prog 253 #[.agg #[.string x.path, .bool x.dir, .slice A n c]] w (Ret (.agg #[.string x.path, .bool x.dir, .slice A n c]) w) := by
  go_enter Tryz.func253, Tryz.ntmps253
  go_wp2
  exact bodyPost_ret (v := .agg #[.string x.path, .bool x.dir, .slice A n c]) (by simp [results, Tryz.results253, go_sem]) rfl ⟨rfl, ((Ext.refl w).alloc _).alloc _⟩
set_option maxHeartbeats 1000000 in
theorem goneItem_c (x : It) (A : Option Addr) (n c : Nat) (w : World) : Calls Tryz.prog 252 #[.agg #[.string x.path, .bool x.dir, .slice A n c]] w (Ret (.agg #[.string x.path, .bool x.dir, .slice A n c]) w) := by
  go_enter Tryz.func252, Tryz.ntmps252
  go_wp2
  exact bodyPost_ret (v := .agg #[.string x.path, .bool x.dir, .slice A n c]) (by simp [results, Tryz.results252, go_sem]) rfl ⟨rfl, ((Ext.refl w).alloc _).alloc _⟩
set_option maxHeartbeats 1000000 in
theorem otherItem_c (x : It) (A : Option Addr) (n c : Nat) (w : World) : Calls Tryz.prog 254 #[.agg #[.string x.path, .bool x.dir, .slice A n c]] w (Ret (.agg #[.string x.path, .bool x.dir, .slice A n c]) w) := by
  go_enter Tryz.func254, Tryz.ntmps254
  go_wp2
  exact bodyPost_ret (v := .agg #[.string x.path, .bool x.dir, .slice A n c]) (by simp [results, Tryz.results254, go_sem]) rfl ⟨rfl, ((Ext.refl w).alloc _).alloc _⟩

theorem OptChs.nil_ {B : Nat} {w : World} {o : Option (List Ch)} (h : o = none) : OptChs B o (.tuple #[.slice none 0 0, .bool false]) w := by
  subst h; exact ⟨_, rfl, SlOf.nil _ _ _ _ _⟩
/-- a method's call through an interface, its function found -/
theorem upon_item {P : Program} {o : Oper} {a : Act} {K : Act → World → Prop} {Q : Exit → Act → World → Prop} {n f : Nat} {T : TypeId} {nm : String} {v : Value} {W : World}
    (hm : (method n T v nm).run P W = .ok (f, v) W) (hf : (callFunc f #[v]).run P W = .ok (.enter f #[v]) W) (hc : Calls P f #[v] W (Ret v W)) (h : ∀ w', Ext W w' → K (a.put o.dst v) w') :
    Oper.upon P o a K Q ((Sem.run P (method n T v nm) W).andThen fun a w' => Sem.run P (callFunc a.fst #[a.snd]) w') := by
  rw [hm]
  show Oper.upon P o a K Q (Sem.run P (callFunc f #[v]) W)
  rw [hf]
  refine Calls.mono hc ?_
  rintro e w' ⟨rfl, he⟩
  exact h w' he
end Go.Sf
