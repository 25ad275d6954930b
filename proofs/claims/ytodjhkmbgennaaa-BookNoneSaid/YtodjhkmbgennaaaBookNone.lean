/-
  Of a nil book every call is refused, and nothing is in it: for every step.
-/
import Derived.Test.YtodjhkmbgennaaaBookM
import Derived.Test.YtodjhkmbgennaaaOpR
namespace Go.Proofs.Ytodjhkmbgennaaa
open Go Go.RowKit
attribute [local irreducible] run goO goN ordGoN eqlOf eqlOper eqlOfO cellL leaveK someK nextK nextT nextOT nextOD loopBody loopRest loopK fillJ tmplOf tmplJ mergeT At AtO drawOk ordOf gateOf callC callO topOp topO idxOf appOf storeOf clearOf sliceOf calleeOf calleeO topQ idxQ newRowOf resL stepOp seek

set_option maxRecDepth 100000 in
set_option maxHeartbeats 4000000 in
theorem bookNone_walk (w : World) (o : OpR) : Calls Try.prog 11 #[o.val] w fun e w' => e = .returned (.bool true) ∧ Below w.heap.size w w' := by
  refine sim_enter Try.func11 ρ0 [.agg (o.cells.map .v)] [] (by kernel_rfl) (by simp only [denL, LV.den, denL_v]; rfl) ?_
  have hR := Rel.start [] w ρ0
  refine sim_run 20 [] hR (by kernel_rfl) trivial (fun ρ100 w100 hm100 hR100 => ?_)
  refine sim_into Try.func21 [.v (Value.pointer none), .agg [LS o.t.party, LS o.t.account, LS o.t.money, LS o.t.other, LB o.t.deliver, LS o.t.asset, LS o.t.ccy, LS o.t.ref, LI o.t.qty, LI o.t.amount, LI o.t.day, LI o.t.trade], LI o.a, LB o.on, LB o.off] (by kernel_rfl) (by kernel_rfl) ?_
  have hag101 := hR100.ag_ 1 (by kernel_rfl)
  refine sim_run 25 [] hR100 (by kernel_rfl) trivial (fun ρ102 w102 hm102 hR102 => ?_)
  have hag101 := hag101.moved hm102
  refine sim_out 1 (.tup [LI 0, LI 1]) hR102 (by kernel_rfl) (by kernel_rfl) hag101.ag (by kernel_rfl) ?_
  refine sim_run 11 [] hR102 (by kernel_rfl) trivial (fun ρ103 w103 hm103 hR103 => ?_)
  have hag101 := hag101.moved hm103
  refine sim_into Try.func22 [.v (Value.pointer none), LI o.a] (by kernel_rfl) (by kernel_rfl) ?_
  have hag104 := hR103.ag_ 2 (by kernel_rfl)
  refine sim_run 18 [] hR103 (by kernel_rfl) trivial (fun ρ105 w105 hm105 hR105 => ?_)
  have hag101 := hag101.moved hm105
  have hag104 := hag104.moved hm105
  refine sim_out 2 (.tup [.agg [LI 0, LS (ByteArray.mk #[]), LS (ByteArray.mk #[]), LS (ByteArray.mk #[]), LS (ByteArray.mk #[]), LB false, LS (ByteArray.mk #[]), LS (ByteArray.mk #[]), LS (ByteArray.mk #[]), LI 0, LI 0, LI 0, LI 0, LI 0, LB false, LB false, LB false, LI 0, LI 0, LI 0, LI 0], LI 1]) hR105 (by kernel_rfl) (by kernel_rfl) hag104.ag (by kernel_rfl) ?_
  refine sim_run 9 [] hR105 (by kernel_rfl) trivial (fun ρ106 w106 hm106 hR106 => ?_)
  have hag101 := hag101.moved hm106
  have hag104 := hag104.moved hm106
  refine sim_call 20 [] (by kernel_rfl) ?_
  refine Calls.mono (alive14_any _) ?_
  rintro e107 w107 ⟨rfl, hb107⟩
  have hR107 := hR106.below hb107
  refine Back.of (LB true) hR107 rfl ?_
  refine sim_run 19 [] hR107 (by kernel_rfl) trivial (fun ρ108 w108 hm108 hR108 => ?_)
  have hag101 := hag101.moved hm108
  have hag104 := hag104.moved hm108
  refine sim_into Try.func34 [.v (Value.pointer none), .v (Value.slice none 0 0)] (by kernel_rfl) (by kernel_rfl) ?_
  have hag109 := hR108.ag_ 4 (by kernel_rfl)
  refine sim_run 19 [] hR108 (by kernel_rfl) trivial (fun ρ110 w110 hm110 hR110 => ?_)
  have hag101 := hag101.moved hm110
  have hag104 := hag104.moved hm110
  have hag109 := hag109.moved hm110
  refine sim_out 4 (.v (Value.slice none 0 0)) hR110 (by kernel_rfl) (by kernel_rfl) hag109.ag (by kernel_rfl) ?_
  refine sim_run 2 [] hR110 (by kernel_rfl) trivial (fun ρ111 w111 hm111 hR111 => ?_)
  have hag101 := hag101.moved hm111
  have hag104 := hag104.moved hm111
  have hag109 := hag109.moved hm111
  refine sim_into Try.func23 [.v (Value.pointer none)] (by kernel_rfl) (by kernel_rfl) ?_
  have hag112 := hR111.ag_ 4 (by kernel_rfl)
  refine sim_run 15 [] hR111 (by kernel_rfl) trivial (fun ρ113 w113 hm113 hR113 => ?_)
  have hag101 := hag101.moved hm113
  have hag104 := hag104.moved hm113
  have hag109 := hag109.moved hm113
  have hag112 := hag112.moved hm113
  refine sim_out 4 (LI 0) hR113 (by kernel_rfl) (by kernel_rfl) hag112.ag (by kernel_rfl) ?_
  refine sim_run 3 [] hR113 (by kernel_rfl) trivial (fun ρ114 w114 hm114 hR114 => ?_)
  have hag101 := hag101.moved hm114
  have hag104 := hag104.moved hm114
  have hag109 := hag109.moved hm114
  have hag112 := hag112.moved hm114
  refine sim_into Try.func33 [.v (Value.pointer none), .slc 4 0 1 1] (by kernel_rfl) (by kernel_rfl) ?_
  have hag115 := hR114.ag_ 5 (by kernel_rfl)
  refine sim_run 16 [] hR114 (by kernel_rfl) trivial (fun ρ116 w116 hm116 hR116 => ?_)
  have hag101 := hag101.moved hm116
  have hag104 := hag104.moved hm116
  have hag109 := hag109.moved hm116
  have hag112 := hag112.moved hm116
  have hag115 := hag115.moved hm116
  refine sim_unroll 3 (by kernel_rfl) ?_
  refine sim_run 12 [] hR116 (by kernel_rfl) trivial (fun ρ117 w117 hm117 hR117 => ?_)
  have hag101 := hag101.moved hm117
  have hag104 := hag104.moved hm117
  have hag109 := hag109.moved hm117
  have hag112 := hag112.moved hm117
  have hag115 := hag115.moved hm117
  refine sim_idx 4 0 1 1 0 1 (by kernel_rfl) (by omega) ?_
  refine sim_run 7 [] hR117 (by kernel_rfl) trivial (fun ρ118 w118 hm118 hR118 => ?_)
  have hag101 := hag101.moved hm118
  have hag104 := hag104.moved hm118
  have hag109 := hag109.moved hm118
  have hag112 := hag112.moved hm118
  have hag115 := hag115.moved hm118
  refine sim_into Try.func49 [.v (Value.pointer none), LI 1] (by kernel_rfl) (by kernel_rfl) ?_
  have hag119 := hR118.ag_ 5 (by kernel_rfl)
  refine sim_run 28 [] hR118 (by kernel_rfl) trivial (fun ρ120 w120 hm120 hR120 => ?_)
  have hag101 := hag101.moved hm120
  have hag104 := hag104.moved hm120
  have hag109 := hag109.moved hm120
  have hag112 := hag112.moved hm120
  have hag115 := hag115.moved hm120
  have hag119 := hag119.moved hm120
  refine sim_out 5 (.v (Value.pointer none)) hR120 (by kernel_rfl) (by kernel_rfl) hag119.ag (by kernel_rfl) ?_
  refine sim_run 35 [] hR120 (by kernel_rfl) trivial (fun ρ121 w121 hm121 hR121 => ?_)
  have hag101 := hag101.moved hm121
  have hag104 := hag104.moved hm121
  have hag109 := hag109.moved hm121
  have hag112 := hag112.moved hm121
  have hag115 := hag115.moved hm121
  have hag119 := hag119.moved hm121
  refine sim_out 5 (LI 0) hR121 (by kernel_rfl) (by kernel_rfl) hag115.ag (by kernel_rfl) ?_
  refine sim_run 8 [] hR121 (by kernel_rfl) trivial (fun ρ122 w122 hm122 hR122 => ?_)
  have hag101 := hag101.moved hm122
  have hag104 := hag104.moved hm122
  have hag109 := hag109.moved hm122
  have hag112 := hag112.moved hm122
  have hag115 := hag115.moved hm122
  have hag119 := hag119.moved hm122
  refine sim_into Try.func28 [.v (Value.pointer none), LS o.party, LB true, .slc 5 0 1 1] (by kernel_rfl) (by kernel_rfl) ?_
  have hag123 := hR122.ag_ 6 (by kernel_rfl)
  refine sim_run 15 [] hR122 (by kernel_rfl) trivial (fun ρ124 w124 hm124 hR124 => ?_)
  have hag101 := hag101.moved hm124
  have hag104 := hag104.moved hm124
  have hag109 := hag109.moved hm124
  have hag112 := hag112.moved hm124
  have hag115 := hag115.moved hm124
  have hag119 := hag119.moved hm124
  have hag123 := hag123.moved hm124
  refine sim_out 6 (LI 1) hR124 (by kernel_rfl) (by kernel_rfl) hag123.ag (by kernel_rfl) ?_
  refine sim_run 6 [] hR124 (by kernel_rfl) trivial (fun ρ125 w125 hm125 hR125 => ?_)
  have hag101 := hag101.moved hm125
  have hag104 := hag104.moved hm125
  have hag109 := hag109.moved hm125
  have hag112 := hag112.moved hm125
  have hag115 := hag115.moved hm125
  have hag119 := hag119.moved hm125
  have hag123 := hag123.moved hm125
  refine sim_into Try.func25 [.v (Value.pointer none), LS o.party, LI 1] (by kernel_rfl) (by kernel_rfl) ?_
  have hag126 := hR125.ag_ 6 (by kernel_rfl)
  refine sim_run 10 [] hR125 (by kernel_rfl) trivial (fun ρ127 w127 hm127 hR127 => ?_)
  have hag101 := hag101.moved hm127
  have hag104 := hag104.moved hm127
  have hag109 := hag109.moved hm127
  have hag112 := hag112.moved hm127
  have hag115 := hag115.moved hm127
  have hag119 := hag119.moved hm127
  have hag123 := hag123.moved hm127
  have hag126 := hag126.moved hm127
  refine sim_into Try.func51 [.v (Value.pointer none), LS o.party, LI 1] (by kernel_rfl) (by kernel_rfl) ?_
  have hag128 := hR127.ag_ 6 (by kernel_rfl)
  refine sim_run 15 [] hR127 (by kernel_rfl) trivial (fun ρ129 w129 hm129 hR129 => ?_)
  have hag101 := hag101.moved hm129
  have hag104 := hag104.moved hm129
  have hag109 := hag109.moved hm129
  have hag112 := hag112.moved hm129
  have hag115 := hag115.moved hm129
  have hag119 := hag119.moved hm129
  have hag123 := hag123.moved hm129
  have hag126 := hag126.moved hm129
  have hag128 := hag128.moved hm129
  refine sim_out 6 (LI 1) hR129 (by kernel_rfl) (by kernel_rfl) hag128.ag (by kernel_rfl) ?_
  refine sim_run 13 [] hR129 (by kernel_rfl) trivial (fun ρ130 w130 hm130 hR130 => ?_)
  have hag101 := hag101.moved hm130
  have hag104 := hag104.moved hm130
  have hag109 := hag109.moved hm130
  have hag112 := hag112.moved hm130
  have hag115 := hag115.moved hm130
  have hag119 := hag119.moved hm130
  have hag123 := hag123.moved hm130
  have hag126 := hag126.moved hm130
  have hag128 := hag128.moved hm130
  refine sim_out 6 (LI 1) hR130 (by kernel_rfl) (by kernel_rfl) hag126.ag (by kernel_rfl) ?_
  refine sim_run 6 [] hR130 (by kernel_rfl) trivial (fun ρ131 w131 hm131 hR131 => ?_)
  have hag101 := hag101.moved hm131
  have hag104 := hag104.moved hm131
  have hag109 := hag109.moved hm131
  have hag112 := hag112.moved hm131
  have hag115 := hag115.moved hm131
  have hag119 := hag119.moved hm131
  have hag123 := hag123.moved hm131
  have hag126 := hag126.moved hm131
  have hag128 := hag128.moved hm131
  refine sim_into Try.func26 [.v (Value.pointer none), LS o.party, LI 1] (by kernel_rfl) (by kernel_rfl) ?_
  have hag132 := hR131.ag_ 6 (by kernel_rfl)
  refine sim_run 9 [] hR131 (by kernel_rfl) trivial (fun ρ133 w133 hm133 hR133 => ?_)
  have hag101 := hag101.moved hm133
  have hag104 := hag104.moved hm133
  have hag109 := hag109.moved hm133
  have hag112 := hag112.moved hm133
  have hag115 := hag115.moved hm133
  have hag119 := hag119.moved hm133
  have hag123 := hag123.moved hm133
  have hag126 := hag126.moved hm133
  have hag128 := hag128.moved hm133
  have hag132 := hag132.moved hm133
  refine sim_into Try.func51 [.v (Value.pointer none), LS o.party, LI 1] (by kernel_rfl) (by kernel_rfl) ?_
  have hag134 := hR133.ag_ 6 (by kernel_rfl)
  refine sim_run 15 [] hR133 (by kernel_rfl) trivial (fun ρ135 w135 hm135 hR135 => ?_)
  have hag101 := hag101.moved hm135
  have hag104 := hag104.moved hm135
  have hag109 := hag109.moved hm135
  have hag112 := hag112.moved hm135
  have hag115 := hag115.moved hm135
  have hag119 := hag119.moved hm135
  have hag123 := hag123.moved hm135
  have hag126 := hag126.moved hm135
  have hag128 := hag128.moved hm135
  have hag132 := hag132.moved hm135
  have hag134 := hag134.moved hm135
  refine sim_out 6 (LI 1) hR135 (by kernel_rfl) (by kernel_rfl) hag134.ag (by kernel_rfl) ?_
  refine sim_run 15 [] hR135 (by kernel_rfl) trivial (fun ρ136 w136 hm136 hR136 => ?_)
  have hag101 := hag101.moved hm136
  have hag104 := hag104.moved hm136
  have hag109 := hag109.moved hm136
  have hag112 := hag112.moved hm136
  have hag115 := hag115.moved hm136
  have hag119 := hag119.moved hm136
  have hag123 := hag123.moved hm136
  have hag126 := hag126.moved hm136
  have hag128 := hag128.moved hm136
  have hag132 := hag132.moved hm136
  have hag134 := hag134.moved hm136
  refine sim_out 6 (LI 1) hR136 (by kernel_rfl) (by kernel_rfl) hag132.ag (by kernel_rfl) ?_
  refine sim_run 6 [] hR136 (by kernel_rfl) trivial (fun ρ137 w137 hm137 hR137 => ?_)
  have hag101 := hag101.moved hm137
  have hag104 := hag104.moved hm137
  have hag109 := hag109.moved hm137
  have hag112 := hag112.moved hm137
  have hag115 := hag115.moved hm137
  have hag119 := hag119.moved hm137
  have hag123 := hag123.moved hm137
  have hag126 := hag126.moved hm137
  have hag128 := hag128.moved hm137
  have hag132 := hag132.moved hm137
  have hag134 := hag134.moved hm137
  refine sim_into Try.func29 [.v (Value.pointer none), LS o.party, LI 1, LI 1] (by kernel_rfl) (by kernel_rfl) ?_
  have hag138 := hR137.ag_ 6 (by kernel_rfl)
  refine sim_run 10 [] hR137 (by kernel_rfl) trivial (fun ρ139 w139 hm139 hR139 => ?_)
  have hag101 := hag101.moved hm139
  have hag104 := hag104.moved hm139
  have hag109 := hag109.moved hm139
  have hag112 := hag112.moved hm139
  have hag115 := hag115.moved hm139
  have hag119 := hag119.moved hm139
  have hag123 := hag123.moved hm139
  have hag126 := hag126.moved hm139
  have hag128 := hag128.moved hm139
  have hag132 := hag132.moved hm139
  have hag134 := hag134.moved hm139
  have hag138 := hag138.moved hm139
  refine sim_into Try.func51 [.v (Value.pointer none), LS o.party, LI 1] (by kernel_rfl) (by kernel_rfl) ?_
  have hag140 := hR139.ag_ 6 (by kernel_rfl)
  refine sim_run 15 [] hR139 (by kernel_rfl) trivial (fun ρ141 w141 hm141 hR141 => ?_)
  have hag101 := hag101.moved hm141
  have hag104 := hag104.moved hm141
  have hag109 := hag109.moved hm141
  have hag112 := hag112.moved hm141
  have hag115 := hag115.moved hm141
  have hag119 := hag119.moved hm141
  have hag123 := hag123.moved hm141
  have hag126 := hag126.moved hm141
  have hag128 := hag128.moved hm141
  have hag132 := hag132.moved hm141
  have hag134 := hag134.moved hm141
  have hag138 := hag138.moved hm141
  have hag140 := hag140.moved hm141
  refine sim_out 6 (LI 1) hR141 (by kernel_rfl) (by kernel_rfl) hag140.ag (by kernel_rfl) ?_
  refine sim_run 13 [] hR141 (by kernel_rfl) trivial (fun ρ142 w142 hm142 hR142 => ?_)
  have hag101 := hag101.moved hm142
  have hag104 := hag104.moved hm142
  have hag109 := hag109.moved hm142
  have hag112 := hag112.moved hm142
  have hag115 := hag115.moved hm142
  have hag119 := hag119.moved hm142
  have hag123 := hag123.moved hm142
  have hag126 := hag126.moved hm142
  have hag128 := hag128.moved hm142
  have hag132 := hag132.moved hm142
  have hag134 := hag134.moved hm142
  have hag138 := hag138.moved hm142
  have hag140 := hag140.moved hm142
  refine sim_out 6 (LI 1) hR142 (by kernel_rfl) (by kernel_rfl) hag138.ag (by kernel_rfl) ?_
  refine sim_run 6 [] hR142 (by kernel_rfl) trivial (fun ρ143 w143 hm143 hR143 => ?_)
  have hag101 := hag101.moved hm143
  have hag104 := hag104.moved hm143
  have hag109 := hag109.moved hm143
  have hag112 := hag112.moved hm143
  have hag115 := hag115.moved hm143
  have hag119 := hag119.moved hm143
  have hag123 := hag123.moved hm143
  have hag126 := hag126.moved hm143
  have hag128 := hag128.moved hm143
  have hag132 := hag132.moved hm143
  have hag134 := hag134.moved hm143
  have hag138 := hag138.moved hm143
  have hag140 := hag140.moved hm143
  refine sim_into Try.func30 [.v (Value.pointer none), LS o.party, LI 1, LB true] (by kernel_rfl) (by kernel_rfl) ?_
  have hag144 := hR143.ag_ 6 (by kernel_rfl)
  refine sim_run 9 [] hR143 (by kernel_rfl) trivial (fun ρ145 w145 hm145 hR145 => ?_)
  have hag101 := hag101.moved hm145
  have hag104 := hag104.moved hm145
  have hag109 := hag109.moved hm145
  have hag112 := hag112.moved hm145
  have hag115 := hag115.moved hm145
  have hag119 := hag119.moved hm145
  have hag123 := hag123.moved hm145
  have hag126 := hag126.moved hm145
  have hag128 := hag128.moved hm145
  have hag132 := hag132.moved hm145
  have hag134 := hag134.moved hm145
  have hag138 := hag138.moved hm145
  have hag140 := hag140.moved hm145
  have hag144 := hag144.moved hm145
  refine sim_into Try.func51 [.v (Value.pointer none), LS o.party, LI 1] (by kernel_rfl) (by kernel_rfl) ?_
  have hag146 := hR145.ag_ 6 (by kernel_rfl)
  refine sim_run 15 [] hR145 (by kernel_rfl) trivial (fun ρ147 w147 hm147 hR147 => ?_)
  have hag101 := hag101.moved hm147
  have hag104 := hag104.moved hm147
  have hag109 := hag109.moved hm147
  have hag112 := hag112.moved hm147
  have hag115 := hag115.moved hm147
  have hag119 := hag119.moved hm147
  have hag123 := hag123.moved hm147
  have hag126 := hag126.moved hm147
  have hag128 := hag128.moved hm147
  have hag132 := hag132.moved hm147
  have hag134 := hag134.moved hm147
  have hag138 := hag138.moved hm147
  have hag140 := hag140.moved hm147
  have hag144 := hag144.moved hm147
  have hag146 := hag146.moved hm147
  refine sim_out 6 (LI 1) hR147 (by kernel_rfl) (by kernel_rfl) hag146.ag (by kernel_rfl) ?_
  refine sim_run 15 [] hR147 (by kernel_rfl) trivial (fun ρ148 w148 hm148 hR148 => ?_)
  have hag101 := hag101.moved hm148
  have hag104 := hag104.moved hm148
  have hag109 := hag109.moved hm148
  have hag112 := hag112.moved hm148
  have hag115 := hag115.moved hm148
  have hag119 := hag119.moved hm148
  have hag123 := hag123.moved hm148
  have hag126 := hag126.moved hm148
  have hag128 := hag128.moved hm148
  have hag132 := hag132.moved hm148
  have hag134 := hag134.moved hm148
  have hag138 := hag138.moved hm148
  have hag140 := hag140.moved hm148
  have hag144 := hag144.moved hm148
  have hag146 := hag146.moved hm148
  refine sim_out 6 (LI 1) hR148 (by kernel_rfl) (by kernel_rfl) hag144.ag (by kernel_rfl) ?_
  refine sim_run 4 [] hR148 (by kernel_rfl) trivial (fun ρ149 w149 hm149 hR149 => ?_)
  have hag101 := hag101.moved hm149
  have hag104 := hag104.moved hm149
  have hag109 := hag109.moved hm149
  have hag112 := hag112.moved hm149
  have hag115 := hag115.moved hm149
  have hag119 := hag119.moved hm149
  have hag123 := hag123.moved hm149
  have hag126 := hag126.moved hm149
  have hag128 := hag128.moved hm149
  have hag132 := hag132.moved hm149
  have hag134 := hag134.moved hm149
  have hag138 := hag138.moved hm149
  have hag140 := hag140.moved hm149
  have hag144 := hag144.moved hm149
  have hag146 := hag146.moved hm149
  refine sim_into Try.func24 [.v (Value.pointer none), LI 1, LI 2, LI 0] (by kernel_rfl) (by kernel_rfl) ?_
  have hag150 := hR149.ag_ 6 (by kernel_rfl)
  refine sim_run 15 [] hR149 (by kernel_rfl) trivial (fun ρ151 w151 hm151 hR151 => ?_)
  have hag101 := hag101.moved hm151
  have hag104 := hag104.moved hm151
  have hag109 := hag109.moved hm151
  have hag112 := hag112.moved hm151
  have hag115 := hag115.moved hm151
  have hag119 := hag119.moved hm151
  have hag123 := hag123.moved hm151
  have hag126 := hag126.moved hm151
  have hag128 := hag128.moved hm151
  have hag132 := hag132.moved hm151
  have hag134 := hag134.moved hm151
  have hag138 := hag138.moved hm151
  have hag140 := hag140.moved hm151
  have hag144 := hag144.moved hm151
  have hag146 := hag146.moved hm151
  have hag150 := hag150.moved hm151
  refine sim_out 6 (LI 1) hR151 (by kernel_rfl) (by kernel_rfl) hag150.ag (by kernel_rfl) ?_
  refine sim_run 4 [] hR151 (by kernel_rfl) trivial (fun ρ152 w152 hm152 hR152 => ?_)
  have hag101 := hag101.moved hm152
  have hag104 := hag104.moved hm152
  have hag109 := hag109.moved hm152
  have hag112 := hag112.moved hm152
  have hag115 := hag115.moved hm152
  have hag119 := hag119.moved hm152
  have hag123 := hag123.moved hm152
  have hag126 := hag126.moved hm152
  have hag128 := hag128.moved hm152
  have hag132 := hag132.moved hm152
  have hag134 := hag134.moved hm152
  have hag138 := hag138.moved hm152
  have hag140 := hag140.moved hm152
  have hag144 := hag144.moved hm152
  have hag146 := hag146.moved hm152
  have hag150 := hag150.moved hm152
  refine sim_into Try.func32 [.v (Value.pointer none), LI 1, LI 1, LI 0] (by kernel_rfl) (by kernel_rfl) ?_
  have hag153 := hR152.ag_ 6 (by kernel_rfl)
  refine sim_run 15 [] hR152 (by kernel_rfl) trivial (fun ρ154 w154 hm154 hR154 => ?_)
  have hag101 := hag101.moved hm154
  have hag104 := hag104.moved hm154
  have hag109 := hag109.moved hm154
  have hag112 := hag112.moved hm154
  have hag115 := hag115.moved hm154
  have hag119 := hag119.moved hm154
  have hag123 := hag123.moved hm154
  have hag126 := hag126.moved hm154
  have hag128 := hag128.moved hm154
  have hag132 := hag132.moved hm154
  have hag134 := hag134.moved hm154
  have hag138 := hag138.moved hm154
  have hag140 := hag140.moved hm154
  have hag144 := hag144.moved hm154
  have hag146 := hag146.moved hm154
  have hag150 := hag150.moved hm154
  have hag153 := hag153.moved hm154
  refine sim_out 6 (LI 1) hR154 (by kernel_rfl) (by kernel_rfl) hag153.ag (by kernel_rfl) ?_
  refine sim_run 4 [] hR154 (by kernel_rfl) trivial (fun ρ155 w155 hm155 hR155 => ?_)
  have hag101 := hag101.moved hm155
  have hag104 := hag104.moved hm155
  have hag109 := hag109.moved hm155
  have hag112 := hag112.moved hm155
  have hag115 := hag115.moved hm155
  have hag119 := hag119.moved hm155
  have hag123 := hag123.moved hm155
  have hag126 := hag126.moved hm155
  have hag128 := hag128.moved hm155
  have hag132 := hag132.moved hm155
  have hag134 := hag134.moved hm155
  have hag138 := hag138.moved hm155
  have hag140 := hag140.moved hm155
  have hag144 := hag144.moved hm155
  have hag146 := hag146.moved hm155
  have hag150 := hag150.moved hm155
  have hag153 := hag153.moved hm155
  refine sim_ret (LB true) hR155 (by kernel_rfl) (by kernel_rfl) ?_
  exact ⟨rfl, hR155.toBelow⟩
  
end Go.Proofs.Ytodjhkmbgennaaa
